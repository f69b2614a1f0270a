
/- The functions on plain scalars, and the reference's, as plain functions on lists. No condition but sizes. -/
import Derived.Test.YthdefengmkcacaaDoorVfRune
namespace Go.Proofs.YthdefengmkcacaaDoor.Vf
set_option linter.unusedVariables false
set_option linter.unusedSimpArgs false

theorem rune_size' (l : List UInt8) (h : l ≠ []) : 1 ≤ (rune l).2.1 ∧ (rune l).2.1 ≤ l.length := by
  cases l with
  | nil => exact absurd rfl h
  | cons c r =>
    have hc := byte_lt c
    rw [rune_cons]
    simp only [List.length_cons]
    by_cases k1 : c.toNat < 128
    · rw [runeN_1 k1]; dsimp only; omega
    by_cases k2 : c.toNat < 192
    · rw [runeN_bad (by omega) hc]; dsimp only; omega
    by_cases k3 : c.toNat < 224
    · rw [runeN_2 (by omega) k3]; split <;> dsimp only <;> omega
    by_cases k4 : c.toNat < 240
    · rw [runeN_3 (by omega) k4]; split <;> dsimp only <;> omega
    by_cases k5 : c.toNat < 248
    · rw [runeN_4 (by omega) k5]; split <;> dsimp only <;> omega
    · rw [runeN_bad (by omega) hc]; dsimp only; omega

end Go.Proofs.YthdefengmkcacaaDoor.Vf
