
/- Paths: the text of steps that were read is read as these steps, where their names have texts; else it is not. No condition. -/
import Derived.Test.YtlionohbndehgaaDoorVfPathG
import Derived.Test.YtlionohbndehgaaDoorVfPathI
namespace Go.Proofs.YtlionohbndehgaaDoor.Vf
set_option linter.unusedVariables false
set_option linter.unusedSimpArgs false

theorem nDigits_up : ∀ (k u : Nat), u < 10 ^ (k + 1) → Lib.nDigits u ≤ k + 1
  | 0, u, h => by rw [Lib.nDigits, dif_pos (by simpa using h)]; omega
  | k + 1, u, h => by
    rw [Lib.nDigits]
    split
    · omega
    · have := nDigits_up k (u / 10) (by rw [Nat.pow_succ] at h; omega)
      omega
theorem decDigits_dig (n : Nat) : ∀ c ∈ Lib.decDigits n, 48 ≤ c.toNat ∧ c.toNat ≤ 57 := by
  induction n using Nat.strongRecOn with
  | _ n ih =>
    rw [Lib.decDigits]
    split
    · intro c hc
      rw [List.mem_singleton] at hc
      subst hc
      rw [ofNat8 (by omega)]; omega
    · intro c hc
      rcases List.mem_append.1 hc with hc | hc
      · exact ih (n / 10) (by omega) c hc
      · rw [List.mem_singleton] at hc
        subst hc
        rw [ofNat8 (by omega)]; omega
theorem decDigits_head (n : Nat) (h : 1 ≤ n) : ∃ c r, Lib.decDigits n = c :: r ∧ c.toNat ≠ 48 := by
  induction n using Nat.strongRecOn with
  | _ n ih =>
    rw [Lib.decDigits]
    split
    · exact ⟨_, [], rfl, by rw [ofNat8 (by omega)]; omega⟩
    · obtain ⟨c, r, e, hc⟩ := ih (n / 10) (by omega) (by omega)
      rw [e]; exact ⟨c, _, rfl, hc⟩
theorem decV_snoc : ∀ (s : List UInt8) (c : UInt8) (a : Nat), decV (s ++ [c]) a = decV s a * 10 + (c.toNat - 48)
  | [], c, a => rfl
  | d :: s, c, a => by simp only [List.cons_append, decV]; exact decV_snoc s c _
theorem decV_digits (n : Nat) : decV (Lib.decDigits n) 0 = n := by
  induction n using Nat.strongRecOn with
  | _ n ih =>
    rw [Lib.decDigits]
    split
    · simp only [decV]; rw [ofNat8 (by omega)]; omega
    · rw [decV_snoc, ih (n / 10) (by omega), ofNat8 (by omega)]; omega
theorem drun_all : ∀ (s : List UInt8), (∀ c ∈ s, 48 ≤ c.toNat ∧ c.toNat ≤ 57) → drun s = s.length
  | [], _ => rfl
  | c :: r, h => by
    simp only [drun, List.length_cons]
    rw [if_pos (h c List.mem_cons_self), drun_all r fun d hd => h d (List.mem_cons_of_mem _ hd)]
theorem drun_stop : ∀ (s : List UInt8) (c : UInt8) (r : List UInt8), (∀ c ∈ s, 48 ≤ c.toNat ∧ c.toNat ≤ 57) → ¬ (48 ≤ c.toNat ∧ c.toNat ≤ 57) → drun (s ++ c :: r) = s.length
  | [], c, r, _, h => by simp only [List.nil_append, drun]; rw [if_neg h]; rfl
  | d :: s, c, r, hs, h => by
    simp only [List.cons_append, drun, List.length_cons]
    rw [if_pos (hs d List.mem_cons_self), drun_stop s c r (fun d hd => hs d (List.mem_cons_of_mem _ hd)) h]
theorem numP_digits (n : Nat) (h : n ≤ 999999) (b : List UInt8) (hb : b = [] ∨ ∃ c r, b = c :: r ∧ ¬ (48 ≤ c.toNat ∧ c.toNat ≤ 57)) : numP (Lib.decDigits n ++ b) = some (n, b) := by
  have hl : (Lib.decDigits n).length ≤ 6 := by rw [Lib.decDigits_length]; exact nDigits_up 5 n (by omega)
  have hl0 : 1 ≤ (Lib.decDigits n).length := by
    rw [Lib.decDigits]
    split <;> simp
  have hd : drun (Lib.decDigits n ++ b) = (Lib.decDigits n).length := by
    rcases hb with rfl | ⟨c, r, rfl, hc⟩
    · rw [List.append_nil]; exact drun_all _ (decDigits_dig n)
    · exact drun_stop _ c r (decDigits_dig n) hc
  unfold numP
  rw [hd, if_pos, List.take_left, List.drop_left, decV_digits]
  refine ⟨hl0, hl, ?_⟩
  by_cases h0 : n = 0
  · subst h0; left; rw [Lib.decDigits, dif_pos (by omega)]; rfl
  · obtain ⟨c, r, e, hc⟩ := decDigits_head n (by omega)
    right
    rw [e, List.cons_append, List.getD_cons_zero]; exact hc
theorem itoa_nat (n : Nat) : Lib.itoa (n : Int) = Lib.decDigits n := by
  unfold Lib.itoa
  rw [if_neg (by omega), Int.toNat_natCast]

/-- A step that may come of reading, and is no document's. -/
def canonS (x : Stp) : Prop := (x.1 = 2 ∧ x.2.2 = 0) ∨ (∃ n : Nat, n ≤ 999999 ∧ x = (3, [], (n : Int))) ∨ x = (4, [], 0) ∨ x = (5, [], 0)
def vName (x : Stp) : Bool := Lib.validD x.2.1
theorem letters_run : ∀ s : List UInt8, letters s = true → lrun20 s = s.length
  | [], _ => rfl
  | c :: r, h => by
    rw [letters_cons, Bool.and_eq_true] at h
    simp only [lrun20, List.length_cons]
    rw [if_pos h.1, letters_run r h.2]
theorem letter_ascii {c : Nat} (h : letter (c : Int) = true) : c < 128 := by
  unfold letter at h
  rw [decide_eq_true_eq] at h; omega
theorem name_valid {s : List UInt8} (h : letters s = true) : Lib.validD s = true := by
  have hr : ∀ r ∈ s.map UInt8.toNat, isRune r := by
    intro r hr
    obtain ⟨c, hc, rfl⟩ := List.mem_map.1 hr
    have := letter_ascii (List.all_eq_true.1 h c hc)
    exact .inl (by omega)
  have e : s = txt (s.map UInt8.toNat) := by
    have : ∀ s : List UInt8, letters s = true → s = txt (s.map UInt8.toNat) := by
      intro s
      induction s with
      | nil => intro _; rfl
      | cons c r ih =>
        intro h
        rw [letters_cons, Bool.and_eq_true] at h
        rw [List.map_cons, txt_cons, ← ih h.2, enc1 (letter_ascii h.1)]
        simp
    exact this s h
  rw [e]
  exact (valid_of _ hr).1
/-- A step's text is read as it. -/
theorem step_back {x : Stp} (hx : canonS x) (hv : vName x = true) : stepP (textP (toZ x)) = some (x, []) := by
  obtain ⟨k, nm, n⟩ := x
  rcases hx with ⟨h1, h2⟩ | ⟨m, hm, hx⟩ | hx | hx
  · simp only at h1 h2
    subst h1; subst h2
    show stepP (nameT nm) = _
    unfold nameT
    by_cases hn : nameP nm = true
    · rw [if_pos hn]
      have hl : letters nm = true := by unfold nameP at hn; rw [Bool.and_eq_true] at hn; exact hn.1
      have hne : nm ≠ [] := by
        rintro rfl
        simp [nameP] at hn
      obtain ⟨d, r, rfl⟩ : ∃ d r, nm = d :: r := by cases nm with | nil => exact absurd rfl hne | cons d r => exact ⟨d, r, rfl⟩
      have hd : letter d.toNat = true := by rw [letters_cons, Bool.and_eq_true] at hl; exact hl.1
      have hd2 : d.toNat ≠ 46 ∧ d.toNat ≠ 42 ∧ d.toNat ≠ 34 := by
        unfold letter at hd
        rw [decide_eq_true_eq] at hd; omega
      simp only [stepP]
      rw [if_neg (by decide), if_pos (by decide), if_neg hd2.1, if_neg hd2.2.1, if_neg hd2.2.2, letters_run _ hl, List.take_length, if_pos hn, List.drop_length]
    · rw [if_neg hn]
      unfold vName at hv
      simp only at hv
      rw [if_pos hv]
      obtain ⟨rs, hr, e, ep⟩ := valid_iff nm hv
      have ht := take_put rs hr []
      rw [List.append_nil] at ht
      rw [ep]
      simp only [List.cons_append] at ht ⊢
      simp only [stepP]
      rw [if_neg (by decide), if_pos (by decide), if_neg (by decide), if_neg (by decide), if_pos (by decide), ht]
      simp only
      rw [List.drop_length, ← e]
  · cases hx
    show stepP ((91 :: Lib.itoa (m : Int)) ++ [93]) = _
    rw [itoa_nat, List.cons_append]
    simp only [stepP]
    rw [if_pos (by decide), numP_digits m hm [93] (.inr ⟨93, [], rfl, by decide⟩)]
    rfl
  · cases hx; rfl
  · cases hx; rfl
theorem text_front {x : Stp} (hx : canonS x) : ∃ c r, textP (toZ x) = c :: r ∧ (c.toNat = 46 ∨ c.toNat = 91) := by
  obtain ⟨k, nm, n⟩ := x
  rcases hx with ⟨h1, h2⟩ | ⟨m, hm, hx⟩ | hx | hx
  · simp only at h1 h2
    subst h1; subst h2
    show ∃ c r, nameT nm = c :: r ∧ _
    unfold nameT
    split
    · exact ⟨46, _, rfl, .inl rfl⟩
    · exact ⟨46, _, rfl, .inl rfl⟩
  · cases hx; exact ⟨91, _, rfl, .inr rfl⟩
  · cases hx; exact ⟨46, _, rfl, .inl rfl⟩
  · cases hx; exact ⟨46, _, rfl, .inl rfl⟩
theorem texts_cons (x : Stp) (l : List Stp) : textsP ((x :: l).map toZ) = textP (toZ x) ++ textsP (l.map toZ) := rfl
theorem texts_front : ∀ {l : List Stp}, (∀ x ∈ l, canonS x) → front (textsP (l.map toZ))
  | [], _ => .inl rfl
  | x :: l, h => by
    obtain ⟨c, r, e, hc⟩ := text_front (h x List.mem_cons_self)
    rw [texts_cons, e]
    exact .inr ⟨c, _, rfl, hc⟩
theorem steps_back : ∀ (l : List Stp) (n : Nat), (∀ x ∈ l, canonS x) → l.all vName = true → (textsP (l.map toZ)).length < n → stepsL n (textsP (l.map toZ)) = some l
  | [], 0, _, _, h => by omega
  | [], n + 1, _, _, _ => rfl
  | x :: l, 0, _, _, h => by omega
  | x :: l, n + 1, hc, hv, h => by
    rw [List.all_cons, Bool.and_eq_true] at hv
    obtain ⟨c, r, e, _⟩ := text_front (hc x List.mem_cons_self)
    have hne : textsP ((x :: l).map toZ) ≠ [] := by rw [texts_cons, e]; simp
    simp only [stepsL]
    rw [if_neg hne, texts_cons, stepP_app (texts_front fun y hy => hc y (List.mem_cons_of_mem _ hy)) (step_back (hc x List.mem_cons_self) hv.1), List.nil_append]
    simp only
    rw [texts_cons, e, List.length_append, List.length_cons] at h
    rw [steps_back l n (fun y hy => hc y (List.mem_cons_of_mem _ hy)) hv.2 (by omega)]
    rfl
/-- A name without a text: what comes is something else. -/
theorem step_lost {x : Stp} (hx : canonS x) (hv : vName x = false) {b : List UInt8} (hb : front b) : ∀ r, stepP (textP (toZ x) ++ b) ≠ some (x, r) := by
  obtain ⟨k, nm, n⟩ := x
  unfold vName at hv
  simp only at hv
  rcases hx with ⟨h1, h2⟩ | ⟨m, hm, hx⟩ | hx | hx
  · simp only at h1 h2
    subst h1; subst h2
    have hn : nameP nm = false := by
      rw [← Bool.not_eq_true]
      intro h
      unfold nameP at h
      rw [Bool.and_eq_true] at h
      rw [name_valid h.1] at hv; cases hv
    have e : textP (toZ (2, nm, 0)) = [46] := by
      show nameT nm = _
      unfold nameT
      rw [hn, hv]; rfl
    rw [e]
    intro r h
    rcases hb with rfl | ⟨c, q, rfl, hc⟩
    · simp [stepP] at h
    · simp only [List.cons_append, List.nil_append, stepP] at h
      rw [if_neg (by decide), if_pos (by decide)] at h
      rcases hc with hc | hc
      · rw [if_pos hc] at h; simp at h
      · rw [if_neg (by omega), if_neg (by omega), if_neg (by omega)] at h
        have e2 : lrun20 (c :: q) = 0 := by
          simp only [lrun20]
          rw [if_neg]
          unfold letter
          rw [decide_eq_true_eq]; omega
        rw [e2, List.take_zero] at h
        simp [nameP] at h
  · cases hx; rw [show Lib.validD [] = true from rfl] at hv; cases hv
  · cases hx; rw [show Lib.validD [] = true from rfl] at hv; cases hv
  · cases hx; rw [show Lib.validD [] = true from rfl] at hv; cases hv
theorem steps_lost : ∀ (l : List Stp) (n : Nat), (∀ x ∈ l, canonS x) → l.all vName = false → stepsL n (textsP (l.map toZ)) ≠ some l
  | [], n, _, hv, _ => by cases hv
  | x :: l, 0, _, _, h => by cases h
  | x :: l, n + 1, hc, hv, h => by
    have hf := texts_front (l := l) fun y hy => hc y (List.mem_cons_of_mem _ hy)
    simp only [stepsL] at h
    split at h
    · cases h
    · rw [texts_cons] at h
      cases hx : stepP (textP (toZ x) ++ textsP (l.map toZ)) with
      | none => rw [hx] at h; cases h
      | some p =>
        obtain ⟨y, r⟩ := p
        rw [hx] at h
        simp only [Option.map_eq_some_iff] at h
        obtain ⟨l', h1, h2⟩ := h
        simp only [List.cons.injEq] at h2
        obtain ⟨rfl, rfl⟩ := h2
        cases hvx : vName y with
        | false => exact step_lost (hc y List.mem_cons_self) hvx hf r hx
        | true =>
          rw [List.all_cons, hvx, Bool.true_and] at hv
          rw [stepP_app hf (step_back (hc y List.mem_cons_self) hvx), List.nil_append] at hx
          simp only [Option.some.injEq, Prod.mk.injEq, true_and] at hx
          rw [← hx] at h1
          exact steps_lost l' n (fun z hz => hc z (List.mem_cons_of_mem _ hz)) hv h1

/-- What comes of reading. -/
theorem stepP_canon {s r : List UInt8} {x : Stp} (h : stepP s = some (x, r)) : canonS x := by
  cases s with
  | nil => cases h
  | cons c l =>
    simp only [stepP] at h
    split at h
    · cases hn : numP l with
      | none => rw [hn] at h; cases h
      | some nr =>
        obtain ⟨n, q⟩ := nr
        rw [hn] at h
        have hb : n ≤ 999999 := by
          unfold numP at hn
          split at hn
          · rename_i h1
            simp only [Option.some.injEq, Prod.mk.injEq] at hn
            have h6 : ∀ (k : Nat) (s : List UInt8) (a : Nat), k ≤ drun s → decV (s.take k) a < (a + 1) * 10 ^ k := by
              intro k
              induction k with
              | zero => intro s a _; simp [decV]
              | succ k ih =>
                intro s a h
                cases s with
                | nil => simp [drun] at h
                | cons c r =>
                  simp only [drun] at h
                  by_cases hc : 48 ≤ c.toNat ∧ c.toNat ≤ 57
                  · rw [if_pos hc] at h
                    rw [List.take_succ_cons]
                    simp only [decV]
                    have := ih r (a * 10 + (c.toNat - 48)) (by omega)
                    have h2 : (a * 10 + (c.toNat - 48) + 1) * 10 ^ k ≤ ((a + 1) * 10) * 10 ^ k := Nat.mul_le_mul_right _ (by omega)
                    rw [Nat.pow_succ, Nat.mul_comm (10 ^ k) 10, ← Nat.mul_assoc]
                    omega
                  · rw [if_neg hc] at h; omega
            have := h6 (drun l) l 0 (Nat.le_refl _)
            have h7 : (10 : Nat) ^ drun l ≤ 10 ^ 6 := Nat.pow_le_pow_right (by omega) h1.2.1
            rw [hn.1] at this
            omega
          · cases hn
        simp only at h
        split at h
        · cases h
        · split at h
          · simp only [Option.some.injEq, Prod.mk.injEq] at h
            exact .inr (.inl ⟨n, hb, h.1.symm⟩)
          · cases h
    · split at h
      · split at h
        · cases h
        · split at h
          · simp only [Option.some.injEq, Prod.mk.injEq] at h
            exact .inr (.inr (.inr h.1.symm))
          · split at h
            · simp only [Option.some.injEq, Prod.mk.injEq] at h
              exact .inr (.inr (.inl h.1.symm))
            · split at h
              · split at h
                · cases h
                · simp only [Option.some.injEq, Prod.mk.injEq] at h
                  rw [← h.1]; exact .inl ⟨rfl, rfl⟩
              · split at h
                · simp only [Option.some.injEq, Prod.mk.injEq] at h
                  rw [← h.1]; exact .inl ⟨rfl, rfl⟩
                · cases h
      · cases h
theorem stepsL_canon : ∀ (n : Nat) (s : List UInt8) (l : List Stp), stepsL n s = some l → ∀ x ∈ l, canonS x
  | 0, _, _, h => by cases h
  | n + 1, s, l, h => by
    simp only [stepsL] at h
    split at h
    · simp only [Option.some.injEq] at h; subst h; simp
    · cases hx : stepP s with
      | none => rw [hx] at h; cases h
      | some p =>
        obtain ⟨x, r⟩ := p
        rw [hx] at h
        simp only [Option.map_eq_some_iff] at h
        obtain ⟨l', h2, rfl⟩ := h
        intro y hy
        rcases List.mem_cons.1 hy with rfl | hy
        · exact stepP_canon hx
        · exact stepsL_canon n r l' h2 y hy
end Go.Proofs.YtlionohbndehgaaDoor.Vf
