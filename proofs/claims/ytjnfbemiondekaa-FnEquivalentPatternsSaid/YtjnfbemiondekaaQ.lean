import Derived.Test.YtjnfbemiondekaaQ0
import Derived.Test.YtjnfbemiondekaaQ1
import Derived.Test.YtjnfbemiondekaaQ2
