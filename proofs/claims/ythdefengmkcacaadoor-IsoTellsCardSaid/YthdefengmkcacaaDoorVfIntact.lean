
/- Lend and Intact, as plain functions on lists. No condition but sizes. -/
import Derived.Test.YthdefengmkcacaaDoorVfRune
namespace Go.Proofs.YthdefengmkcacaaDoor.Vf
set_option linter.unusedVariables false
set_option linter.unusedSimpArgs false

end Go.Proofs.YthdefengmkcacaaDoor.Vf
