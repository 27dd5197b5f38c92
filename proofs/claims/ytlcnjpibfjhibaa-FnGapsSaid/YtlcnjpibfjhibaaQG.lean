/- The printed texts that hold the laws' functions. -/
import Derived.Test.YtlcnjpibfjhibaaQ4
import Derived.Test.YtlcnjpibfjhibaaQ5
