/- The plain law of ManifestPrints. -/
import Derived.Test.YtebbaokcgnjfiaaDoorLMMan3
