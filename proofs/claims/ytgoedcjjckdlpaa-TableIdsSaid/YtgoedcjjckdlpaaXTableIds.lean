/- The plain law of TableIds. -/
import Derived.Test.YtgoedcjjckdlpaaLTTab2
