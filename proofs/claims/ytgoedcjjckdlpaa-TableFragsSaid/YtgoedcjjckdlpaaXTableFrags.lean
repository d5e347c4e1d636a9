/- The plain law of TableFrags. -/
import Derived.Test.YtgoedcjjckdlpaaLTTab4
