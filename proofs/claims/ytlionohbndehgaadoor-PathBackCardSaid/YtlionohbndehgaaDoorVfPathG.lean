
/- Paths: what stands behind a path does not run into it. No condition but sizes. -/
import Derived.Test.YtlionohbndehgaaDoorVfPathF
namespace Go.Proofs.YtlionohbndehgaaDoor.Vf
set_option linter.unusedVariables false
set_option linter.unusedSimpArgs false

/-- Nothing at all, or a step's beginning. -/
def front (b : List UInt8) : Prop := b = [] ∨ ∃ c r, b = c :: r ∧ (c.toNat = 46 ∨ c.toNat = 91)
theorem drun_app {b : List UInt8} (hb : front b) : ∀ s : List UInt8, drun (s ++ b) = drun s
  | [] => by
    rcases hb with rfl | ⟨c, r, rfl, h⟩
    · rfl
    · simp only [List.nil_append, drun]; rw [if_neg (by omega)]
  | c :: r => by simp only [List.cons_append, drun, drun_app hb r]
theorem numP_app {b : List UInt8} (hb : front b) (s : List UInt8) : numP (s ++ b) = (numP s).map fun p => (p.1, p.2 ++ b) := by
  unfold numP
  rw [drun_app hb]
  have hl := drun_le s
  by_cases h : 1 ≤ drun s
  · have hne : s.length ≠ 0 := by omega
    have e : (s ++ b).getD 0 0 = s.getD 0 0 := by cases s with | nil => exact absurd rfl hne | cons c r => rfl
    rw [e, List.take_append_of_le_length hl, List.drop_append_of_le_length hl]
    split <;> rfl
  · rw [if_neg (fun g => h g.1), if_neg (fun g => h g.1)]; rfl
theorem lrun20_app {b : List UInt8} (hb : front b) : ∀ s : List UInt8, lrun20 (s ++ b) = lrun20 s
  | [] => by
    rcases hb with rfl | ⟨c, r, rfl, h⟩
    · rfl
    · have : letter (c.toNat : Int) = false := by rcases h with h | h <;> rw [h] <;> decide
      simp only [List.nil_append, lrun20, this, Bool.false_eq_true, if_false]
  | c :: r => by simp only [List.cons_append, lrun20, lrun20_app hb r]
theorem escL_app {l : List UInt8} {u k : Nat} (b : List UInt8) (h : escL l = some (u, k)) : escL (l ++ b) = some (u, k) := by
  cases l with
  | nil => cases h
  | cons c r =>
    simp only [List.cons_append, escL] at h ⊢
    cases hi : inOf inTab c.toNat with
    | some v => rw [hi] at h; exact h
    | none =>
      rw [hi] at h
      simp only at h ⊢
      by_cases hd : digs c.toNat = 0
      · rw [if_pos hd] at h; cases h
      · rw [if_neg hd] at h ⊢
        by_cases hr : r.length < digs c.toNat
        · rw [if_pos hr] at h; cases h
        · rw [if_neg hr] at h
          rw [if_neg (by rw [List.length_append]; omega), List.take_append_of_le_length (by omega)]
          exact h
theorem dt_app (b : List UInt8) (x : List UInt8 × Nat) : ∀ (n : Nat) (l : List UInt8) (i : Nat) (out : List UInt8), l.length ≤ n → dt l i out = some x → dt (l ++ b) i out = some x := by
  intro n
  induction n with
  | zero =>
    intro l i out h hx
    cases l with
    | nil => cases hx
    | cons c r => simp at h
  | succ n ih =>
    intro l i out h hx
    cases l with
    | nil => cases hx
    | cons c r =>
      simp only [List.length_cons] at h
      rw [dt_cons] at hx
      rw [List.cons_append, dt_cons]
      by_cases h1 : c.toNat = 10 ∨ c.toNat = 13
      · rw [if_pos h1] at hx; cases hx
      rw [if_neg h1] at hx ⊢
      by_cases h2 : c.toNat = 34
      · rw [if_pos h2] at hx ⊢; exact hx
      rw [if_neg h2] at hx ⊢
      by_cases h3 : c.toNat = 92
      · rw [if_pos h3] at hx ⊢
        cases he : escL r with
        | none => rw [he] at hx; cases hx
        | some um =>
          obtain ⟨u, m⟩ := um
          have hm := (escL_rune he).2
          rw [he] at hx
          rw [escL_app b he]
          simp only at hx ⊢
          rw [List.drop_append_of_le_length hm.2]
          exact ih _ _ _ (by rw [List.length_drop]; omega) hx
      · rw [if_neg h3] at hx ⊢
        exact ih _ _ _ (by omega) hx
theorem dtakeP_app {s : List UInt8} {x : List UInt8 × Nat} (b : List UInt8) (h : dtakeP s = some x) : dtakeP (s ++ b) = some x := by
  cases s with
  | nil => cases h
  | cons c r =>
    simp only [List.cons_append, dtakeP] at h ⊢
    by_cases hc : c.toNat = 34
    · rw [if_pos hc] at h ⊢; exact dt_app b x r.length r 1 [] (Nat.le_refl _) h
    · rw [if_neg hc] at h; cases h
theorem stepP_app {b : List UInt8} (hb : front b) {s r : List UInt8} {x : Stp} (h : stepP s = some (x, r)) : stepP (s ++ b) = some (x, r ++ b) := by
  cases s with
  | nil => cases h
  | cons c l =>
    simp only [List.cons_append, stepP] at h ⊢
    by_cases h91 : c.toNat = 91
    · rw [if_pos h91] at h ⊢
      rw [numP_app hb]
      cases hn : numP l with
      | none => rw [hn] at h; cases h
      | some p =>
        obtain ⟨n, r'⟩ := p
        rw [hn] at h
        simp only [Option.map_some] at h ⊢
        cases r' with
        | nil => cases h
        | cons d r' =>
          simp only [List.cons_append] at h ⊢
          by_cases hd : d.toNat = 93
          · rw [if_pos hd] at h ⊢
            simp only [Option.some.injEq, Prod.mk.injEq] at h ⊢
            exact ⟨h.1, by rw [h.2]⟩
          · rw [if_neg hd] at h; cases h
    rw [if_neg h91] at h ⊢
    by_cases h46 : c.toNat = 46
    · rw [if_pos h46] at h ⊢
      cases l with
      | nil => cases h
      | cons d q =>
        simp only [List.cons_append] at h ⊢
        by_cases g1 : d.toNat = 46
        · rw [if_pos g1] at h ⊢
          simp only [Option.some.injEq, Prod.mk.injEq] at h ⊢
          exact ⟨h.1, by rw [h.2]⟩
        rw [if_neg g1] at h ⊢
        by_cases g2 : d.toNat = 42
        · rw [if_pos g2] at h ⊢
          simp only [Option.some.injEq, Prod.mk.injEq] at h ⊢
          exact ⟨h.1, by rw [h.2]⟩
        rw [if_neg g2] at h ⊢
        by_cases g3 : d.toNat = 34
        · rw [if_pos g3] at h ⊢
          cases ht : dtakeP (d :: q) with
          | none => rw [ht] at h; cases h
          | some vn =>
            obtain ⟨v, n⟩ := vn
            have hb2 := (dtakeP_bound ht).2
            have ht' := dtakeP_app b ht
            rw [List.cons_append] at ht'
            rw [ht] at h
            rw [ht']
            simp only [Option.some.injEq, Prod.mk.injEq] at h ⊢
            refine ⟨h.1, ?_⟩
            rw [← h.2, ← List.cons_append, List.drop_append_of_le_length hb2]
        · rw [if_neg g3] at h ⊢
          rw [← List.cons_append, lrun20_app hb, List.take_append_of_le_length (lrun20_le _), List.drop_append_of_le_length (lrun20_le _)]
          split at h
          · rename_i hn
            rw [if_pos hn]
            simp only [Option.some.injEq, Prod.mk.injEq] at h ⊢
            exact ⟨h.1, by rw [h.2]⟩
          · cases h
    · rw [if_neg h46] at h; cases h
theorem stepsL_app {b : List UInt8} (hb : front b) {m : Nat} {y : List Stp} (hy : stepsL m b = some y) (hm : b.length < m) : ∀ (n : Nat) (s : List UInt8) (l : List Stp) (k : Nat), (s ++ b).length ≤ 100000 → (s ++ b).length < k → stepsL n s = some l → stepsL k (s ++ b) = some (l ++ y) := by
  intro n
  induction n with
  | zero => intro s l k h hk hx; cases hx
  | succ n ih =>
    intro s l k h hk hx
    simp only [stepsL] at hx
    by_cases hs : s = []
    · subst hs
      rw [if_pos rfl] at hx
      cases hx
      rw [List.nil_append] at hk h ⊢
      rw [stepsL_fuel k m b h hk hm]; exact hy
    · rw [if_neg hs] at hx
      obtain ⟨k, rfl⟩ : ∃ j, k = j + 1 := ⟨k - 1, by omega⟩
      cases hp : stepP s with
      | none => rw [hp] at hx; cases hx
      | some p =>
        obtain ⟨x, r⟩ := p
        rw [hp] at hx
        rw [List.length_append] at h hk
        have hr := stepP_len (by omega) hp
        simp only [Option.map_eq_some_iff] at hx
        obtain ⟨l', h1, rfl⟩ := hx
        have hne : s ++ b ≠ [] := by intro e; rw [List.append_eq_nil_iff] at e; exact hs e.1
        simp only [stepsL]
        rw [if_neg hne, stepP_app hb hp]
        simp only
        rw [ih r l' k (by rw [List.length_append]; omega) (by rw [List.length_append]; omega) h1]
        rfl
theorem firstP_app {b : List UInt8} (hb : front b) {s r : List UInt8} {l : List Stp} (h : firstP s = some (l, r)) : firstP (s ++ b) = some (l, r ++ b) := by
  cases s with
  | nil =>
    cases h
    rw [List.nil_append]
    rcases hb with rfl | ⟨c, r, rfl, h⟩
    · rfl
    · simp only [firstP]; rw [if_neg (by omega)]
  | cons c q =>
    simp only [List.cons_append, firstP] at h ⊢
    by_cases h64 : c.toNat = 64
    · rw [if_pos h64] at h ⊢
      cases q with
      | nil => cases h
      | cons d q =>
        simp only [List.cons_append] at h ⊢
        by_cases h42 : d.toNat = 42
        · rw [if_pos h42] at h ⊢
          simp only [Option.some.injEq, Prod.mk.injEq] at h ⊢
          exact ⟨h.1, by rw [h.2]⟩
        · rw [if_neg h42] at h ⊢
          rw [← List.cons_append, numP_app hb]
          simp only [Option.map_eq_some_iff] at h ⊢
          obtain ⟨p, h1, h2⟩ := h
          simp only [Prod.mk.injEq] at h2
          exact ⟨_, ⟨p, h1, rfl⟩, by simp only [Prod.mk.injEq]; exact ⟨h2.1, by rw [h2.2]⟩⟩
    · rw [if_neg h64] at h ⊢
      simp only [Option.some.injEq, Prod.mk.injEq] at h ⊢
      exact ⟨h.1, by rw [← h.2]; rfl⟩
/-- A path's steps, if it is one but for its size. -/
def allP (s : List UInt8) : Option (List Stp) := (firstP s).bind fun p => (stepsL (p.2.length + 1) p.2).map fun l => p.1 ++ l
theorem parseP_eq (s : List UInt8) : parseP s = match allP s with
    | none => ([], 6)
    | some l => if 32 < l.length ∨ l.any (fun x => decide (128 < x.2.1.length)) = true then ([], 10) else (l, 0) := rfl
theorem parseP_ok {s : List UInt8} (h : (parseP s).2 = 0) : allP s = some (parseP s).1 ∧ (parseP s).1.length ≤ 32 ∧ (parseP s).1.any (fun x => decide (128 < x.2.1.length)) = false := by
  rw [parseP_eq] at h ⊢
  cases ha : allP s with
  | none => rw [ha] at h; simp at h
  | some l =>
    rw [ha] at h
    simp only at h ⊢
    by_cases hl : 32 < l.length ∨ l.any (fun x => decide (128 < x.2.1.length)) = true
    · rw [if_pos hl] at h; simp at h
    · rw [if_neg hl]
      refine ⟨rfl, by show l.length ≤ 32; omega, ?_⟩
      cases hb : l.any (fun x => decide (128 < x.2.1.length))
      · rfl
      · exact absurd (.inr hb) hl
theorem parseP_bad {s : List UInt8} (h : (parseP s).2 ≠ 0) : (parseP s).1 = [] ∧ ((parseP s).2 = 6 ∨ (parseP s).2 = 10) := by
  rw [parseP_eq] at h ⊢
  cases ha : allP s with
  | none => exact ⟨rfl, .inl rfl⟩
  | some l =>
    rw [ha] at h
    simp only at h ⊢
    by_cases hl : 32 < l.length ∨ l.any (fun x => decide (128 < x.2.1.length)) = true
    · rw [if_pos hl]; exact ⟨rfl, .inr rfl⟩
    · rw [if_neg hl] at h; exact absurd rfl h
theorem firstP_kind {s r : List UInt8} {l : List Stp} (h : firstP s = some (l, r)) : l = [] ∧ r = s ∨ ∃ n, l = [(1, [], n)] := by
  cases s with
  | nil => cases h; exact .inl ⟨rfl, rfl⟩
  | cons c q =>
    simp only [firstP] at h
    by_cases h64 : c.toNat = 64
    · rw [if_pos h64] at h
      cases q with
      | nil => cases h
      | cons d q =>
        simp only at h
        by_cases h42 : d.toNat = 42
        · rw [if_pos h42] at h; cases h; exact .inr ⟨_, rfl⟩
        · rw [if_neg h42] at h
          simp only [Option.map_eq_some_iff] at h
          obtain ⟨p, _, h2⟩ := h
          cases h2; exact .inr ⟨_, rfl⟩
    · rw [if_neg h64] at h; cases h; exact .inl ⟨rfl, rfl⟩
theorem front_of {b : List UInt8} {n : Nat} {y : List Stp} (h : stepsL n b = some y) : front b := by
  cases n with
  | zero => cases h
  | succ n =>
    simp only [stepsL] at h
    by_cases hb : b = []
    · exact .inl hb
    · rw [if_neg hb] at h
      cases b with
      | nil => exact absurd rfl hb
      | cons c r =>
        refine .inr ⟨c, r, rfl, ?_⟩
        by_cases h1 : c.toNat = 91
        · exact .inr h1
        by_cases h2 : c.toNat = 46
        · exact .inl h2
        · have : stepP (c :: r) = none := by simp only [stepP]; rw [if_neg h1, if_neg h2]
          rw [this] at h; cases h
/-- A path, and steps behind it. -/
theorem join20 {a b : List UInt8} (hl : (a ++ b).length ≤ 100000) (ha : (parseP a).2 = 0) (hb : (parseP b).2 = 0) (hn : (parseP a).1.length + (parseP b).1.length ≤ 32)
    (h1 : ∀ z ∈ (parseP b).1.head?, z.1 ≠ 1) : parseP (a ++ b) = ((parseP a).1 ++ (parseP b).1, 0) := by
  obtain ⟨a1, _, a3⟩ := parseP_ok ha
  obtain ⟨b1, _, b3⟩ := parseP_ok hb
  generalize (parseP a).1 = x at a1 a3 hn ⊢
  generalize (parseP b).1 = y at b1 b3 hn h1 ⊢
  unfold allP at a1 b1
  rw [Option.bind_eq_some_iff] at a1 b1
  obtain ⟨⟨l0, r0⟩, a4, a5⟩ := a1
  obtain ⟨⟨m0, s0⟩, b4, b5⟩ := b1
  simp only [Option.map_eq_some_iff] at a5 b5
  obtain ⟨l1, a6, rfl⟩ := a5
  obtain ⟨m1, b6, rfl⟩ := b5
  rcases firstP_kind b4 with ⟨rfl, rfl⟩ | ⟨n, rfl⟩
  · rw [List.nil_append] at b3 hn h1 ⊢
    have hf := front_of b6
    have hr0 : (r0 ++ s0).length ≤ (a ++ s0).length := by
      obtain ⟨l, r, bb, e1, e2, e3, e4⟩ := D_First a (by rw [List.length_append] at hl; omega)
      rw [a4] at e2
      cases bb
      · cases e2
      · simp only [if_true, Option.some.injEq, Prod.mk.injEq] at e2
        rw [List.length_append, List.length_append, e2.2]; omega
    have e : allP (a ++ s0) = some (l0 ++ (l1 ++ m1)) := by
      unfold allP
      rw [firstP_app hf a4]
      simp only [Option.bind_some]
      rw [stepsL_app hf b6 (by omega) _ r0 l1 _ (by omega) (by omega) a6]
      rfl
    rw [parseP_eq, e]
    simp only
    rw [← List.append_assoc, if_neg]
    rintro (h | h)
    · rw [List.length_append] at h; omega
    · rw [List.any_append, a3, b3] at h; cases h
  · exact absurd rfl (h1 _ rfl)
end Go.Proofs.YtlionohbndehgaaDoor.Vf
