/- The printed texts that hold the laws' helpers. -/
import Derived.Test.YtjcokfdafingeaaQ1
import Derived.Test.YtjcokfdafingeaaQ2
import Derived.Test.YtjcokfdafingeaaQ3
