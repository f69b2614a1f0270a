
/- Paths as the reference prints them: it prints what the program prints. No condition but sizes. -/
import Derived.Test.YtlionohbndehgaaDoorVfPathI
namespace Go.Proofs.YtlionohbndehgaaDoor.Vf
set_option linter.unusedVariables false
set_option linter.unusedSimpArgs false

theorem decV_lt : ∀ (k : Nat) (s : List UInt8) (a : Nat), k ≤ drun s → decV (s.take k) a < (a + 1) * 10 ^ k
  | 0, s, a, _ => by simp [decV]
  | k + 1, [], a, h => by simp [drun] at h
  | k + 1, c :: r, a, h => by
    simp only [drun] at h
    by_cases hc : 48 ≤ c.toNat ∧ c.toNat ≤ 57
    · rw [if_pos hc] at h
      rw [List.take_succ_cons]
      simp only [decV]
      have := decV_lt k r (a * 10 + (c.toNat - 48)) (by omega)
      have h2 : (a * 10 + (c.toNat - 48) + 1) * 10 ^ k ≤ ((a + 1) * 10) * 10 ^ k := Nat.mul_le_mul_right _ (by omega)
      rw [Nat.pow_succ, Nat.mul_comm (10 ^ k) 10, ← Nat.mul_assoc]
      omega
    · rw [if_neg hc] at h; omega
theorem numP_le {s : List UInt8} {v : Nat} {r : List UInt8} (h : numP s = some (v, r)) : v ≤ 999999 := by
  unfold numP at h
  split at h
  · rename_i h1
    simp only [Option.some.injEq, Prod.mk.injEq] at h
    have := decV_lt (drun s) s 0 (Nat.le_refl _)
    have h6 : (10 : Nat) ^ drun s ≤ 10 ^ 6 := Nat.pow_le_pow_right (by omega) h1.2.1
    rw [h.1] at this
    omega
  · cases h
/-- A step that may be, at a place. -/
def niceB (i : Nat) (x : StZ) : Bool :=
  if x.1 = 1 then (decide (x.2.2 = -1) || (decide (0 ≤ x.2.2) && decide (x.2.2 ≤ 999999))) && decide (i = 0)
  else if x.1 = 2 then true
  else if x.1 = 3 then decide (0 ≤ x.2.2) && decide (x.2.2 ≤ 999999)
  else decide (x.1 = 4) || decide (x.1 = 5)
def allN : Nat → List StZ → Bool
  | _, [] => true
  | i, x :: r => niceB i x && allN (i + 1) r
theorem stepP_nice {s r : List UInt8} {x : Stp} (h : stepP s = some (x, r)) (i : Nat) : niceB i (toZ x) = true := by
  cases s with
  | nil => cases h
  | cons c l =>
    simp only [stepP] at h
    split at h
    · cases hn : numP l with
      | none => rw [hn] at h; cases h
      | some nr =>
        obtain ⟨n, q⟩ := nr
        rw [hn] at h
        have hb := numP_le hn
        simp only at h
        split at h
        · cases h
        · split at h
          · simp only [Option.some.injEq, Prod.mk.injEq] at h
            rw [← h.1]
            unfold niceB toZ
            simp; omega
          · cases h
    · split at h
      · split at h
        · cases h
        · split at h
          · simp only [Option.some.injEq, Prod.mk.injEq] at h
            rw [← h.1]; rfl
          · split at h
            · simp only [Option.some.injEq, Prod.mk.injEq] at h
              rw [← h.1]; rfl
            · split at h
              · split at h
                · cases h
                · simp only [Option.some.injEq, Prod.mk.injEq] at h
                  rw [← h.1]; rfl
              · split at h
                · simp only [Option.some.injEq, Prod.mk.injEq] at h
                  rw [← h.1]; rfl
                · cases h
      · cases h
theorem stepsL_nice : ∀ (n : Nat) (s : List UInt8) (l : List Stp) (i : Nat), stepsL n s = some l → allN i (l.map toZ) = true
  | 0, _, _, _, h => by cases h
  | n + 1, s, l, i, h => by
    simp only [stepsL] at h
    split at h
    · simp only [Option.some.injEq] at h; rw [← h]; rfl
    · cases hx : stepP s with
      | none => rw [hx] at h; cases h
      | some p =>
        obtain ⟨x, r⟩ := p
        rw [hx] at h
        simp only [Option.map_eq_some_iff] at h
        obtain ⟨l', h2, rfl⟩ := h
        simp only [List.map_cons, allN, stepP_nice hx i, stepsL_nice n r l' (i + 1) h2, Bool.and_self]
theorem parse_allN {s : List UInt8} (h : (parseP s).2 = 0) : allN 0 ((parseP s).1.map toZ) = true := by
  unfold parseP at h ⊢
  cases hf : firstP s with
  | none => rw [hf] at h; simp at h
  | some p =>
    obtain ⟨a, r⟩ := p
    rw [hf] at h
    simp only [Option.bind_some] at h ⊢
    cases hs : stepsL (r.length + 1) r with
    | none => rw [hs] at h; simp at h
    | some l =>
      rw [hs] at h
      simp only [Option.map_some] at h ⊢
      split at h
      · simp at h
      · rename_i hc
        rw [if_neg hc]
        simp only
        unfold firstP at hf
        split at hf
        · simp only [Option.some.injEq, Prod.mk.injEq] at hf
          rw [← hf.1, List.nil_append]; exact stepsL_nice _ _ _ 0 hs
        · split at hf
          · split at hf
            · cases hf
            · split at hf
              · simp only [Option.some.injEq, Prod.mk.injEq] at hf
                rw [← hf.1]
                simp only [List.singleton_append, List.map_cons, allN, stepsL_nice _ _ _ 1 hs]; rfl
              · simp only [Option.map_eq_some_iff] at hf
                obtain ⟨q, hq, hf⟩ := hf
                simp only [Prod.mk.injEq] at hf
                have hb := numP_le (v := q.1) (r := q.2) hq
                rw [← hf.1]
                simp only [List.singleton_append, List.map_cons, allN, stepsL_nice _ _ _ 1 hs, Bool.and_true]
                unfold niceB toZ
                simp; omega
          · simp only [Option.some.injEq, Prod.mk.injEq] at hf
            rw [← hf.1, List.nil_append]; exact stepsL_nice _ _ _ 0 hs
theorem printP_nice {l : List StZ} (h : allN 0 l = false) : printP l = ([], 6) := by
  unfold printP
  rw [if_neg]
  rintro ⟨h1, h2⟩
  have := parse_allN h1
  rw [h2, h] at this; cases this

end Go.Proofs.YtlionohbndehgaaDoor.Vf
