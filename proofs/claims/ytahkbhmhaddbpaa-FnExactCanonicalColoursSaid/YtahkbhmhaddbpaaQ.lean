import Derived.Test.YtahkbhmhaddbpaaQ0
import Derived.Test.YtahkbhmhaddbpaaQ1
