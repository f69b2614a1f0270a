
/- Lend and Intact, as plain functions on lists. No condition but sizes. -/
import Derived.Test.YtmpjohnbddnehaaDoorVfRune
namespace Go.Proofs.YtmpjohnbddnehaaDoor.Vf
set_option linter.unusedVariables false
set_option linter.unusedSimpArgs false

theorem drop_nil (s : List UInt8) {i : Nat} (h : s.length ≤ i) : s.drop i = [] := List.drop_eq_nil_of_le h
theorem D_Lend (s : List UInt8) (hs : s.length ≤ 1000000) : D id_keepLend [.bytes s] = some ⟨.lent s, false, []⟩ :=
  D_ext (by show (bif decide (s.length ≤ 1000000) then some (⟨.lent s, false, []⟩ : Res) else none) = _; rw [cond_d (by omega)])
end Go.Proofs.YtmpjohnbddnehaaDoor.Vf
