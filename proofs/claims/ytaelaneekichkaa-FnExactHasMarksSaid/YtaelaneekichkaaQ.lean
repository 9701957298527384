import Derived.Test.YtaelaneekichkaaQ0
import Derived.Test.YtaelaneekichkaaQ1
