/- A part of the texts of one claim: the walk of the code by hand-proved contracts, and the plain law. -/
import Derived.Test.YtdefecnngccmoaaKT9
set_option linter.unusedVariables false
set_option linter.unusedSimpArgs false
