/- The plain law of TableIdBytes. -/
import Derived.Test.YtgoedcjjckdlpaaLTTab3
