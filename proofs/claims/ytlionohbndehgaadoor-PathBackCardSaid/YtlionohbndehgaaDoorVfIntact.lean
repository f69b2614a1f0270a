
/- Lend and Intact, as plain functions on lists. No condition but sizes. -/
import Derived.Test.YtlionohbndehgaaDoorVfRune
namespace Go.Proofs.YtlionohbndehgaaDoor.Vf
set_option linter.unusedVariables false
set_option linter.unusedSimpArgs false

theorem drop_nil (s : List UInt8) {i : Nat} (h : s.length ≤ i) : s.drop i = [] := List.drop_eq_nil_of_le h
end Go.Proofs.YtlionohbndehgaaDoor.Vf
