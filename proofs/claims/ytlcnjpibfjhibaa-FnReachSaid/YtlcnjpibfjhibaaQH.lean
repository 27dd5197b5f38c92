/- The printed texts that hold the laws' helpers. -/
import Derived.Test.YtlcnjpibfjhibaaQ1
import Derived.Test.YtlcnjpibfjhibaaQ2
import Derived.Test.YtlcnjpibfjhibaaQ3
import Derived.Test.YtlcnjpibfjhibaaQ4
