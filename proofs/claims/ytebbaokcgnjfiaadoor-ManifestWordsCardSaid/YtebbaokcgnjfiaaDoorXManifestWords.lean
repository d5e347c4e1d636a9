/- The plain law of ManifestWords. -/
import Derived.Test.YtebbaokcgnjfiaaDoorLMManWords
