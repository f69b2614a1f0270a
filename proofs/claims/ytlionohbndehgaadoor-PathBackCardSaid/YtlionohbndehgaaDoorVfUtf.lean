
/- What a rune is made of; where a text is clean. No condition. -/
import Derived.Test.YtlionohbndehgaaDoorVfPlain
namespace Go.Proofs.YtlionohbndehgaaDoor.Vf
set_option linter.unusedVariables false
set_option linter.unusedSimpArgs false

theorem rune_shape (c : UInt8) (r : List UInt8) : (c.toNat < 128 ∧ rune (c :: r) = (c.toNat, 1, true)) ∨ (128 ≤ c.toNat ∧ rune (c :: r) = (0, 1, false)) ∨
    ∃ v k, 192 ≤ c.toNat ∧ rune (c :: r) = (v, k, true) ∧ 2 ≤ k ∧ k ≤ r.length + 1 ∧ 128 ≤ v ∧ ∀ j, 1 ≤ j → j < k → ((c :: r).getD j 0).toNat / 64 = 2 := by
  rw [rune_cons]
  have hc := byte_lt c
  by_cases h1 : c.toNat < 128
  · exact .inl ⟨h1, runeN_1 h1⟩
  by_cases h2 : c.toNat < 192
  · exact .inr (.inl ⟨by omega, runeN_bad (.inl ⟨by omega, h2⟩) hc⟩)
  by_cases h3 : c.toNat < 224
  · rw [runeN_2 (by omega) h3]
    split
    · rename_i h
      refine .inr (.inr ⟨_, _, by omega, rfl, by omega, by omega, by omega, fun j h1 h2 => ?_⟩)
      obtain rfl : j = 1 := by omega
      exact h.2.2
    · exact .inr (.inl ⟨by omega, rfl⟩)
  by_cases h4 : c.toNat < 240
  · rw [runeN_3 (by omega) h4]
    split
    · rename_i h
      refine .inr (.inr ⟨_, _, by omega, rfl, by omega, by omega, by omega, fun j h1 h2 => ?_⟩)
      obtain rfl | rfl : j = 1 ∨ j = 2 := by omega
      · exact h.2.1
      · exact h.2.2.1
    · exact .inr (.inl ⟨by omega, rfl⟩)
  by_cases h5 : c.toNat < 248
  · rw [runeN_4 (by omega) h5]
    split
    · rename_i h
      refine .inr (.inr ⟨_, _, by omega, rfl, by omega, by omega, by omega, fun j h1 h2 => ?_⟩)
      obtain rfl | rfl | rfl : j = 1 ∨ j = 2 ∨ j = 3 := by omega
      · exact h.2.1
      · exact h.2.2.1
      · exact h.2.2.2.1
    · exact .inr (.inl ⟨by omega, rfl⟩)
  · exact .inr (.inl ⟨by omega, runeN_bad (.inr (by omega)) hc⟩)

/-- In a clean text there is no break. -/
theorem cleanL_nobreak (tabs : Bool) : ∀ (n : Nat) (l : List UInt8), l.length < n → cleanL tabs n l = true → ∀ c ∈ l, c.toNat ≠ 10 ∧ c.toNat ≠ 13 := by
  intro n
  induction n with
  | zero => intro l h; omega
  | succ n ih =>
    intro l h hcl c hc
    cases l with
    | nil => cases hc
    | cons d r =>
      simp only [cleanL] at hcl
      rw [if_neg (by simp)] at hcl
      simp only [Bool.and_eq_true, Bool.not_eq_true', decide_eq_false_iff_not] at hcl
      obtain ⟨⟨⟨⟨⟨h1, h2⟩, h3⟩, h4⟩, h5⟩, h6⟩ := hcl
      rcases rune_shape d r with ⟨g1, g2⟩ | ⟨g1, g2⟩ | ⟨v, k, g1, g2, g3, g4, g5, g6⟩ <;> rw [g2] at h1 h3 h4 h6
      · rcases List.mem_cons.1 hc with rfl | hc
        · exact ⟨h3, h4⟩
        · exact ih r (by simp at h; omega) h6 c hc
      · cases h1
      · obtain ⟨j, hj⟩ := List.getElem?_of_mem hc
        by_cases hjk : j < k
        · cases j with
          | zero => simp at hj; subst hj; omega
          | succ j =>
            have := g6 (j + 1) (by omega) hjk
            rw [List.getD_eq_getElem?_getD, hj] at this
            simp only [Option.getD_some] at this
            omega
        · refine ih _ (by simp at h ⊢; omega) h6 c ?_
          have : ((d :: r).drop k)[j - k]? = some c := by rw [List.getElem?_drop, ← hj]; congr 1; omega
          exact List.mem_of_getElem? this
theorem clean_nobreak {s : List UInt8} (h : clean true s = true) : ∀ c ∈ s, c.toNat ≠ 10 ∧ c.toNat ≠ 13 := cleanL_nobreak true _ s (Nat.lt_succ_self _) h

/-- What is spoilt by what stands behind it. -/
theorem cleanL_spoilt (tabs : Bool) (x : List UInt8) (hx : (x.getD 0 0).toNat / 64 ≠ 2) (hx0 : x ≠ []) (hc : clean tabs x = false) : ∀ (n : Nat) (l : List UInt8), (l ++ x).length < n → cleanL tabs n (l ++ x) = false := by
  intro n
  induction n with
  | zero => intro l h; omega
  | succ n ih =>
    intro l h
    cases l with
    | nil =>
      rw [List.nil_append] at h ⊢
      rw [cleanL_fuel tabs (n + 1) (x.length + 1) x h (by omega)]; exact hc
    | cons d r =>
      rw [List.cons_append]
      simp only [cleanL]
      rw [if_neg (by simp)]
      rcases rune_shape d (r ++ x) with ⟨g1, g2⟩ | ⟨g1, g2⟩ | ⟨v, k, g1, g2, g3, g4, g5, g6⟩ <;> rw [g2]
      · have := ih r (by simp at h ⊢; omega)
        simp only [List.drop_succ_cons, List.drop_zero, this, Bool.and_false]
      · rfl
      · by_cases hk : k ≤ r.length + 1
        · have e : (d :: (r ++ x)).drop k = ((d :: r).drop k) ++ x := by
            rw [← List.cons_append, List.drop_append_of_le_length (by simpa using hk)]
          rw [e, ih _ (by simp at h ⊢; omega), Bool.and_false]
        · have := g6 (r.length + 1) (by omega) (by omega)
          rw [List.getD_eq_getElem?_getD, List.getElem?_cons_succ, List.getElem?_append_right (Nat.le_refl _), Nat.sub_self] at this
          rw [List.getD_eq_getElem?_getD] at hx
          exact absurd this hx
theorem clean_spoilt (tabs : Bool) (s x : List UInt8) (hx : (x.getD 0 0).toNat / 64 ≠ 2) (hx0 : x ≠ []) (hc : clean tabs x = false) : clean tabs (s ++ x) = false := cleanL_spoilt tabs x hx hx0 hc _ s (Nat.lt_succ_self _)

/-- The machine's own decoder is ours. -/
theorem runeAt_dec (s : List UInt8) (n : Nat) (h : n < s.length) : runeAt s n = dec (s.drop n) := by
  have hne : s.drop n ≠ [] := fun e => by have := congrArg List.length e; simp at this; omega
  have gl : ∀ (l : List UInt8) (i : Nat), (⟨l.toArray⟩ : ByteArray).get! i = l.getD i 0 := by
    intro l i
    show l.toArray[i]! = _
    rw [List.getElem!_toArray]
    simp [List.getD, getElem!_def]
    cases l[i]? <;> rfl
  unfold runeAt dec
  rw [if_neg hne, Lib.decode_at, gl, gl, gl, gl]
  have e : ∀ j, (s.drop n).getD j 0 = s.getD (n + j) 0 := fun j => by simp [List.getD]
  rw [e, e, e, e, List.length_drop]
  rfl
theorem runeAt_width (s : List UInt8) (n : Nat) (h : n < s.length) : (runeAt s n).2 = (rune (s.drop n)).2.1 := by
  rw [runeAt_dec s n h]
  unfold rune
  split <;> rfl
end Go.Proofs.YtlionohbndehgaaDoor.Vf
