/- The plain law of TableAttrs. -/
import Derived.Test.YtgoedcjjckdlpaaLTTab6
