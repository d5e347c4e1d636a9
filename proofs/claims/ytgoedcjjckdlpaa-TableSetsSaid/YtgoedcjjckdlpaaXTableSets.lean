/- The plain law of TableSets. -/
import Derived.Test.YtgoedcjjckdlpaaLTTab6
