/- The plain law of ScriptPlains. -/
import Derived.Test.YtgoedcjjckdlpaaDoorLSScr2
