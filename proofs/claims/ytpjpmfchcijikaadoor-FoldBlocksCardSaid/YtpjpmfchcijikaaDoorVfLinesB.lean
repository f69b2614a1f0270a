
/- Lines lie one behind the other; the law LinesTile comes to true, whatever the input. No condition. -/
import Derived.Test.YtpjpmfchcijikaaDoorVfLines
namespace Go.Proofs.YtpjpmfchcijikaaDoor.Vf
set_option linter.unusedVariables false
set_option linter.unusedSimpArgs false

/-- Lines one behind the other, from a place to the end. -/
def Tiled (b : List UInt8) : Nat → List Ln → Prop
  | a, [] => a = b.length
  | a, x :: r => x.f = a ∧ a < b.length ∧ a ≤ x.t ∧ x.t ≤ x.n ∧ x.n ≤ b.length ∧ a < x.n ∧ (∀ j, a ≤ j → j < x.t → b.getD j 0 ≠ 10) ∧
    ((b.take x.n).drop x.t = [10] ∨ (b.take x.n).drop x.t = [13, 10] ∨ ((b.take x.n).drop x.t = [] ∧ r = [])) ∧ Tiled b x.n r

theorem drop_take1 {b : List UInt8} {i : Nat} (h : i < b.length) : (b.take (i + 1)).drop i = [b.getD i 0] := by
  have hl : i < (b.take (i + 1)).length := by rw [List.length_take]; omega
  rw [drop_step hl, List.drop_eq_nil_of_le (by rw [List.length_take]; omega)]
  simp only [List.getD, List.getElem?_take, if_pos (Nat.lt_succ_self i)]

theorem tiled_split (b : List UInt8) : ∀ (k a : Nat), a ≤ b.length → b.length < a + k → Tiled b a (splitFrom b k a) := by
  intro k
  induction k with
  | zero => intro a h1 h2; omega
  | succ k ih =>
    intro a h1 h2
    simp only [splitFrom]
    by_cases hlt : a < b.length
    · rw [if_pos hlt]
      have hge := Lib.indexByte_ge (b.drop a) 10
      by_cases hneg : Lib.indexByte (b.drop a) 10 < 0
      · rw [if_pos hneg]
        refine ⟨rfl, hlt, Nat.le_of_lt hlt, Nat.le_refl _, Nat.le_refl _, hlt, fun j h3 h4 e => ?_, .inr (.inr ⟨by simp, rfl⟩), rfl⟩
        have h4' : j < b.length := h4
        refine Lib.indexByte_none (l := b.drop a) (c := 10) (by omega) (j - a) ?_
        rw [List.getElem?_drop, show a + (j - a) = j by omega, ← e, List.getElem?_eq_getElem h4']
        simp [List.getD, List.getElem?_eq_getElem h4']
      · rw [if_neg hneg]
        obtain ⟨m, hm⟩ : ∃ m : Nat, Lib.indexByte (b.drop a) 10 = m := ⟨_, (Int.toNat_of_nonneg (by omega)).symm⟩
        obtain ⟨hat, hbef⟩ := Lib.indexByte_some hm
        have hmlt := (List.getElem?_eq_some_iff.1 hat).1
        rw [List.length_drop] at hmlt
        rw [List.getElem?_drop] at hat
        rw [hm]
        simp only [Int.toNat_natCast]
        have h10 : b.getD (a + m) 0 = 10 := by simp only [List.getD, hat, Option.getD_some]
        have before : ∀ j, a ≤ j → j < a + m → b.getD j 0 ≠ 10 := by
          intro j h3 h4 e
          refine hbef (j - a) (by omega) ?_
          rw [List.getElem?_drop, show a + (j - a) = j by omega, ← e]
          simp only [List.getD, List.getElem?_eq_getElem (show j < b.length by omega), Option.getD_some]
        by_cases hc : 0 < m ∧ b[a + m - 1]? = some 13
        · rw [if_pos hc]
          refine ⟨rfl, hlt, ?_, ?_, ?_, ?_, fun j h3 h4 => before j h3 ?_, .inr (.inl ?_), ih (a + m + 1) (by omega) (by omega)⟩
          · show a ≤ a + m - 1; omega
          · show a + m - 1 ≤ a + m + 1; omega
          · show a + m + 1 ≤ b.length; omega
          · show a < a + m + 1; omega
          · have : j < a + m - 1 := h4
            omega
          · show (b.take (a + m + 1)).drop (a + m - 1) = [13, 10]
            have hl : a + m - 1 < (b.take (a + m + 1)).length := by rw [List.length_take]; omega
            rw [drop_step hl, show a + m - 1 + 1 = a + m by omega, drop_take1 (by omega), h10]
            simp only [List.getD, List.getElem?_take, if_pos (show a + m - 1 < a + m + 1 by omega), hc.2, Option.getD_some]
        · rw [if_neg hc]
          refine ⟨rfl, hlt, ?_, ?_, ?_, ?_, before, .inl ?_, ih (a + m + 1) (by omega) (by omega)⟩
          · show a ≤ a + m; omega
          · show a + m ≤ a + m + 1; omega
          · show a + m + 1 ≤ b.length; omega
          · show a < a + m + 1; omega
          · show (b.take (a + m + 1)).drop (a + m) = [10]
            rw [drop_take1 (by omega), h10]
    · rw [if_neg hlt]
      show a = b.length
      omega

theorem bomAt_le (b : List UInt8) : bomAt b ≤ b.length := by unfold bomAt; split <;> omega
theorem tiled (b : List UInt8) : Tiled b (bomAt b) (splitL b) := tiled_split b _ _ (bomAt_le b) (by omega)
theorem Tiled.ge {b : List UInt8} : ∀ {l : List Ln} {a : Nat}, Tiled b a l → ∀ y ∈ l, a ≤ y.f
  | [], _, _, y, hy => by cases hy
  | x :: r, a, h, y, hy => by
    rcases List.mem_cons.1 hy with rfl | hy
    · exact Nat.le_of_eq h.1.symm
    · have := h.2.2.2.2.2.2.2.2.ge y hy
      have := h.2.2.2.2.2.1
      omega
theorem Tiled.inside {b : List UInt8} : ∀ {l : List Ln} {a : Nat}, Tiled b a l → ∀ y ∈ l, y.f ≤ y.t ∧ y.t ≤ y.n ∧ y.n ≤ b.length ∧ y.f < b.length
  | [], _, _, y, hy => by cases hy
  | x :: r, a, h, y, hy => by
    rcases List.mem_cons.1 hy with rfl | hy
    · obtain ⟨h1, h2, h3, h4, h5, _⟩ := h; omega
    · exact h.2.2.2.2.2.2.2.2.inside y hy

/-- On which line a byte of a line lies. -/
theorem Tiled.at {b : List UInt8} {a : Nat} {pre r : List Ln} {x : Ln} (h : Tiled b a (x :: r)) (hp : ∀ y ∈ pre, y.f ≤ a) (k : Nat) (h1 : x.f ≤ k) (h2 : k < x.t) : atL (pre ++ x :: r) (k : Int) = ((pre.length : Int), (k : Int) - x.f) := by
  have hx : (pre ++ x :: r)[pre.length]? = some x := by rw [List.getElem?_append_right (Nat.le_refl _)]; simp
  rcases atDown_spec (pre ++ x :: r) (k : Int) _ (Nat.le_refl _) with ⟨_, h3⟩ | ⟨i, y, g1, g2, g3, g4, g5⟩
  · have := h3 pre.length x (by simp) hx
    omega
  · have hi : i = pre.length := by
      rcases Nat.lt_trichotomy i pre.length with hl | he | hg
      · have := g5 pre.length x hl (by simp) hx
        omega
      · exact he
      · exfalso
        rw [List.getElem?_append_right (by omega)] at g2
        obtain ⟨j, hj⟩ : ∃ j, i - pre.length = j + 1 := ⟨i - pre.length - 1, by omega⟩
        rw [hj, List.getElem?_cons_succ] at g2
        have := h.2.2.2.2.2.2.2.2.ge y (List.mem_of_getElem? g2)
        have := h.2.2.2.1
        omega
    subst hi
    rw [hx] at g2
    simp only [Option.some.injEq] at g2
    subst g2
    exact g4

end Go.Proofs.YtpjpmfchcijikaaDoor.Vf
