
/- Graphs that are alike but for the order of their things have the same canonical form; a canonical form is its own. No condition but sizes. -/
import Derived.Test.YthdefengmkcacaaDoorVfIsoD
namespace Go.Proofs.YthdefengmkcacaaDoor.Vf
set_option linter.unusedVariables false
set_option linter.unusedSimpArgs false

theorem ordGo_fuel {g : List Th} (hg : Fine g) : ∀ (n m : Nat) (out st : List Nat), st.length + costOf g out < n → n ≤ m → (∀ i ∈ st, i < g.length) → ordGo g m out st = ordGo g n out st := by
  intro n
  induction n with
  | zero => intro m out st h; omega
  | succ n ih =>
    intro m out st h hm hst
    obtain ⟨m, rfl⟩ : ∃ k, m = k + 1 := ⟨m - 1, by omega⟩
    cases st with
    | nil => rfl
    | cons i st =>
      simp only [List.length_cons] at h
      have hi := hst i List.mem_cons_self
      simp only [ordGo]
      by_cases ho : i ∈ out
      · rw [if_pos ho, if_pos ho]
        exact ih m out st (by omega) (by omega) fun j hj => hst j (List.mem_cons_of_mem _ hj)
      · rw [if_neg ho, if_neg ho]
        have hc := cost_met hi ho
        exact ih m _ _ (by rw [List.length_append]; omega) (by omega) fun j hj => by
          rcases List.mem_append.1 hj with hj | hj
          · exact kd_in hg hi j hj
          · exact hst j (List.mem_cons_of_mem _ hj)
/-- The same things, told by other numbers. -/
structure Turned (g h : List Th) (S : Nat → Prop) (φ : Nat → Nat) : Prop where
  root : S 0
  root' : φ 0 = 0
  lt : ∀ i, S i → i < g.length
  lt' : ∀ i, S i → φ i < h.length
  step : ∀ i, S i → ∀ k ∈ kd g i, S k
  inj : ∀ i j, S i → S j → φ i = φ j → i = j
  kids : ∀ i, S i → kd h (φ i) = (kd g i).map φ
/-! A canonical form -/
end Go.Proofs.YthdefengmkcacaaDoor.Vf
