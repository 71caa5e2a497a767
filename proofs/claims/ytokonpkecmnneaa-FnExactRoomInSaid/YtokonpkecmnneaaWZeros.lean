/- Words of the print, of which what this claim uses is kept. -/
import Derived.Test.YtokonpkecmnneaaWApart
import Derived.Test.YtokonpkecmnneaaWArr
