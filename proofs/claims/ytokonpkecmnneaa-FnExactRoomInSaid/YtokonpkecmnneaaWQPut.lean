/- Words of the print, of which what this claim uses is kept. -/
import Derived.Test.YtokonpkecmnneaaWWords
import Derived.Test.YtokonpkecmnneaaWLast
