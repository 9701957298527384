import Derived.Test.YtpknhlnoaehffaaQ0
import Derived.Test.YtpknhlnoaehffaaQ1
