/- The printed text that holds the law's function. -/
import Derived.Test.YtlcnjpibfjhibaaQ5
