/- The plain law of ScriptPrints. -/
import Derived.Test.YtgoedcjjckdlpaaDoorLSScr2
