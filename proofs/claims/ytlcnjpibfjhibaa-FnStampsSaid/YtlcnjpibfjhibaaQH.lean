/- The printed texts that hold the laws' helpers. -/
import Derived.Test.YtlcnjpibfjhibaaQ1
import Derived.Test.YtlcnjpibfjhibaaQ5
import Derived.Test.YtlcnjpibfjhibaaQ6
