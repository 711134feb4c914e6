/- The shapes of the program's functions, as the interpreter computes them (made by wip/tools/gen.py). -/
import Derived.Test.YthppocflbgnjlaaDoorVHH
import Derived.Test.YthppocflbgnjlaaDoorFIsPile
import Derived.Test.YthppocflbgnjlaaDoorS1
import Derived.Test.YthppocflbgnjlaaDoorS2
set_option linter.unusedVariables false
set_option maxRecDepth 100000
namespace Go.Proofs.YthppocflbgnjlaaDoor.V
open Go
end Go.Proofs.YthppocflbgnjlaaDoor.V
