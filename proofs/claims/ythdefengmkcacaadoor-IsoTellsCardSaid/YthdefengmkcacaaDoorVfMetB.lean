
/- Numbering things as they are met, as a plain function. No condition. -/
import Derived.Test.YthdefengmkcacaaDoorVfMetA
namespace Go.Proofs.YthdefengmkcacaaDoor
open Go.RowKit Go.Lib
set_option linter.unusedVariables false
set_option linter.unusedSimpArgs false
namespace Vf
abbrev CS := CSx ByteArray
def negs (l : List Int) : Nat := l.countP fun v => decide (v < 0)
theorem negs_set : ∀ {l : List Int} {i : Nat} {v : Int}, i < l.length → l.getD i 0 < 0 → 0 ≤ v → negs (l.set i v) + 1 = negs l
  | [], _, _, h, _, _ => by simp at h
  | a :: r, 0, v, _, h, hv => by
    have h' : a < 0 := by simpa using h
    simp only [negs, List.set_cons_zero, List.countP_cons]
    rw [show decide (v < 0) = false by simp; omega, show decide (a < 0) = true by simpa using h']
    simp
  | a :: r, i + 1, v, hl, h, hv => by
    have := negs_set (l := r) (i := i) (v := v) (by simpa using hl) (by simpa using h) hv
    simp only [negs, List.set_cons_succ, List.countP_cons] at this ⊢
    omega
structure OkC (g : List GT) (s : CS) : Prop where
  len : s.1.length = g.length
  room : s.2.length + negs s.1 ≤ g.length
structure GoesC (s s' : CS) : Prop where
  same : ∀ j, j < s.2.length → s'.2[j]? = s.2[j]?
  len : s.2.length ≤ s'.2.length
  neg : negs s'.1 ≤ negs s.1
theorem addKid_len (n : Nat) (x : Int) (l : List GT) : (addKid n x l).length = l.length := List.length_set
theorem addKid_other {n : Nat} {x : Int} {l : List GT} {j : Nat} (h : n ≠ j) : (addKid n x l)[j]? = l[j]? := by
  unfold addKid; rw [List.getElem?_set_ne h]
theorem addKid_at {n : Nat} {x : Int} {l : List GT} (h : n < l.length) : (addKid n x l).getD n default = { l.getD n default with kids := (l.getD n default).kids ++ [x] } := by
  unfold addKid; rw [List.getD_eq_getElem?_getD, List.getElem?_set, if_pos rfl, if_pos h]; rfl
theorem kidsP_ok {g : List GT} {rec : Nat → CS → Int × CS} {f : Nat} (H : ∀ k s, OkC g s → k < g.length → negs s.1 < f → OkC g (rec k s).2 ∧ GoesC s (rec k s).2) (n : Nat) : ∀ (ks : List Int) (s : CS), (∀ k ∈ ks, 0 ≤ k ∧ k < (g.length : Int)) → OkC g s → negs s.1 < f → n < s.2.length →
    OkC g (kidsP rec n ks s) ∧ (∀ j, j < n → (kidsP rec n ks s).2[j]? = s.2[j]?) ∧ s.2.length ≤ (kidsP rec n ks s).2.length ∧ negs (kidsP rec n ks s).1 ≤ negs s.1
  | [], s, _, hs, _, _ => ⟨hs, fun _ _ => rfl, Nat.le_refl _, Nat.le_refl _⟩
  | k :: r, s, hk, hs, hf, hn => by
    have hk0 := hk k List.mem_cons_self
    obtain ⟨h1, h2⟩ := H k.toNat s hs (by omega) hf
    have hl := h2.len
    have hg := h2.neg
    obtain ⟨i1, i2, i3, i4⟩ := kidsP_ok H n r ((rec k.toNat s).2.1, addKid n (rec k.toNat s).1 (rec k.toNat s).2.2) (fun q hq => hk q (List.mem_cons_of_mem _ hq)) ⟨h1.len, by simp only [addKid_len]; exact h1.room⟩ (by simp only; omega) (by simp only [addKid_len]; omega)
    simp only [kidsP]
    simp only [addKid_len] at i3
    refine ⟨i1, fun j hj => ?_, by omega, by simp only at i4; omega⟩
    rw [i2 j hj]
    simp only
    rw [addKid_other (by omega)]
    exact h2.same j (by omega)
theorem meetP_ok {g : List GT} (hin : ∀ t ∈ g, ∀ k ∈ t.kids, 0 ≤ k ∧ k < (g.length : Int)) : ∀ (f k : Nat) (s : CS), OkC g s → k < g.length → negs s.1 < f → OkC g (meetP g f k s).2 ∧ GoesC s (meetP g f k s).2 := by
  intro f
  induction f with
  | zero => intro k s _ _ h; omega
  | succ f ih =>
    intro k s hs hk hf
    simp only [meetP]
    by_cases h0 : 0 ≤ s.1.getD k 0
    · rw [if_pos h0]; exact ⟨hs, fun _ _ => rfl, Nat.le_refl _, Nat.le_refl _⟩
    · rw [if_neg h0]
      have hl := hs.len
      have hr := hs.room
      have hneg := negs_set (l := s.1) (i := k) (v := (s.2.length : Int)) (by omega) (by omega) (by omega)
      have hmem : g.getD k default ∈ g := by simp [List.getD, hk]
      obtain ⟨i1, i2, i3, i4⟩ := kidsP_ok (f := f) ih s.2.length (g.getD k default).kids (s.1.set k (s.2.length : Int), s.2 ++ [{ g.getD k default with kids := [] }]) (hin _ hmem) ⟨by simpa using hl, by show (s.2 ++ [{ g.getD k default with kids := [] }]).length + negs (s.1.set k (s.2.length : Int)) ≤ g.length; rw [List.length_append, List.length_singleton]; omega⟩ (by show negs (s.1.set k (s.2.length : Int)) < f; omega) (by simp)
      refine ⟨i1, fun j hj => ?_, ?_, ?_⟩
      · rw [i2 j hj]; simp only; rw [List.getElem?_append_left hj]
      · simp only [List.length_append, List.length_singleton] at i3 ⊢; omega
      · simp only at i4 ⊢; omega
end Vf
end Go.Proofs.YthdefengmkcacaaDoor
