/- What the sensors' texts rest on. Conditions: none. -/
import Derived.Test.YtkdlliedpjnobaaVe1
import Derived.Test.YtkdlliedpjnobaaPk
