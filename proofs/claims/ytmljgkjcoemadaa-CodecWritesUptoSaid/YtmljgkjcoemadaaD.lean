/- All that is printed of this seat's functions. -/
import Derived.Test.YtmljgkjcoemadaaD1
