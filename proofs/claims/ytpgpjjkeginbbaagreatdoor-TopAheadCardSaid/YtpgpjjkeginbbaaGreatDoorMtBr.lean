/- Br0, one behind the other. -/
import Derived.Test.YtpgpjjkeginbbaaGreatDoorMtTf
import Derived.Test.YtpgpjjkeginbbaaGreatDoorMtPl

