
/- Paths as the reference prints them: it prints what the program prints. No condition but sizes. -/
import Derived.Test.YtlionohbndehgaaDoorVfPathI
namespace Go.Proofs.YtlionohbndehgaaDoor.Vf
set_option linter.unusedVariables false
set_option linter.unusedSimpArgs false

theorem decV_lt : ∀ (k : Nat) (s : List UInt8) (a : Nat), k ≤ drun s → decV (s.take k) a < (a + 1) * 10 ^ k
  | 0, s, a, _ => by simp [decV]
  | k + 1, [], a, h => by simp [drun] at h
  | k + 1, c :: r, a, h => by
    simp only [drun] at h
    by_cases hc : 48 ≤ c.toNat ∧ c.toNat ≤ 57
    · rw [if_pos hc] at h
      rw [List.take_succ_cons]
      simp only [decV]
      have := decV_lt k r (a * 10 + (c.toNat - 48)) (by omega)
      have h2 : (a * 10 + (c.toNat - 48) + 1) * 10 ^ k ≤ ((a + 1) * 10) * 10 ^ k := Nat.mul_le_mul_right _ (by omega)
      rw [Nat.pow_succ, Nat.mul_comm (10 ^ k) 10, ← Nat.mul_assoc]
      omega
    · rw [if_neg hc] at h; omega
theorem numP_le {s : List UInt8} {v : Nat} {r : List UInt8} (h : numP s = some (v, r)) : v ≤ 999999 := by
  unfold numP at h
  split at h
  · rename_i h1
    simp only [Option.some.injEq, Prod.mk.injEq] at h
    have := decV_lt (drun s) s 0 (Nat.le_refl _)
    have h6 : (10 : Nat) ^ drun s ≤ 10 ^ 6 := Nat.pow_le_pow_right (by omega) h1.2.1
    rw [h.1] at this
    omega
  · cases h
/-- A step that may be, at a place. -/
def niceB (i : Nat) (x : StZ) : Bool :=
  if x.1 = 1 then (decide (x.2.2 = -1) || (decide (0 ≤ x.2.2) && decide (x.2.2 ≤ 999999))) && decide (i = 0)
  else if x.1 = 2 then true
  else if x.1 = 3 then decide (0 ≤ x.2.2) && decide (x.2.2 ≤ 999999)
  else decide (x.1 = 4) || decide (x.1 = 5)
def allN : Nat → List StZ → Bool
  | _, [] => true
  | i, x :: r => niceB i x && allN (i + 1) r
theorem stepP_nice {s r : List UInt8} {x : Stp} (h : stepP s = some (x, r)) (i : Nat) : niceB i (toZ x) = true := by
  cases s with
  | nil => cases h
  | cons c l =>
    simp only [stepP] at h
    split at h
    · cases hn : numP l with
      | none => rw [hn] at h; cases h
      | some nr =>
        obtain ⟨n, q⟩ := nr
        rw [hn] at h
        have hb := numP_le hn
        simp only at h
        split at h
        · cases h
        · split at h
          · simp only [Option.some.injEq, Prod.mk.injEq] at h
            rw [← h.1]
            unfold niceB toZ
            simp; omega
          · cases h
    · split at h
      · split at h
        · cases h
        · split at h
          · simp only [Option.some.injEq, Prod.mk.injEq] at h
            rw [← h.1]; rfl
          · split at h
            · simp only [Option.some.injEq, Prod.mk.injEq] at h
              rw [← h.1]; rfl
            · split at h
              · split at h
                · cases h
                · simp only [Option.some.injEq, Prod.mk.injEq] at h
                  rw [← h.1]; rfl
              · split at h
                · simp only [Option.some.injEq, Prod.mk.injEq] at h
                  rw [← h.1]; rfl
                · cases h
      · cases h
theorem stepsL_nice : ∀ (n : Nat) (s : List UInt8) (l : List Stp) (i : Nat), stepsL n s = some l → allN i (l.map toZ) = true
  | 0, _, _, _, h => by cases h
  | n + 1, s, l, i, h => by
    simp only [stepsL] at h
    split at h
    · simp only [Option.some.injEq] at h; rw [← h]; rfl
    · cases hx : stepP s with
      | none => rw [hx] at h; cases h
      | some p =>
        obtain ⟨x, r⟩ := p
        rw [hx] at h
        simp only [Option.map_eq_some_iff] at h
        obtain ⟨l', h2, rfl⟩ := h
        simp only [List.map_cons, allN, stepP_nice hx i, stepsL_nice n r l' (i + 1) h2, Bool.and_self]
theorem parse_allN {s : List UInt8} (h : (parseP s).2 = 0) : allN 0 ((parseP s).1.map toZ) = true := by
  unfold parseP at h ⊢
  cases hf : firstP s with
  | none => rw [hf] at h; simp at h
  | some p =>
    obtain ⟨a, r⟩ := p
    rw [hf] at h
    simp only [Option.bind_some] at h ⊢
    cases hs : stepsL (r.length + 1) r with
    | none => rw [hs] at h; simp at h
    | some l =>
      rw [hs] at h
      simp only [Option.map_some] at h ⊢
      split at h
      · simp at h
      · rename_i hc
        rw [if_neg hc]
        simp only
        unfold firstP at hf
        split at hf
        · simp only [Option.some.injEq, Prod.mk.injEq] at hf
          rw [← hf.1, List.nil_append]; exact stepsL_nice _ _ _ 0 hs
        · split at hf
          · split at hf
            · cases hf
            · split at hf
              · simp only [Option.some.injEq, Prod.mk.injEq] at hf
                rw [← hf.1]
                simp only [List.singleton_append, List.map_cons, allN, stepsL_nice _ _ _ 1 hs]; rfl
              · simp only [Option.map_eq_some_iff] at hf
                obtain ⟨q, hq, hf⟩ := hf
                simp only [Prod.mk.injEq] at hf
                have hb := numP_le (v := q.1) (r := q.2) hq
                rw [← hf.1]
                simp only [List.singleton_append, List.map_cons, allN, stepsL_nice _ _ _ 1 hs, Bool.and_true]
                unfold niceB toZ
                simp; omega
          · simp only [Option.some.injEq, Prod.mk.injEq] at hf
            rw [← hf.1, List.nil_append]; exact stepsL_nice _ _ _ 0 hs
theorem printP_nice {l : List StZ} (h : allN 0 l = false) : printP l = ([], 6) := by
  unfold printP
  rw [if_neg]
  rintro ⟨h1, h2⟩
  have := parse_allN h1
  rw [h2, h] at this; cases this

theorem D_Digits20 (n : Nat) (h : n ≤ 999999) : D id_ref18Digits [.int .i64 (n : Nat)] = some ⟨.str (Lib.decDigits n), false, []⟩ := by
  induction n using Nat.strongRecOn with
  | _ n ih =>
    refine den_fn (N := 0) (F := ref18Digits) rfl rfl ?_
    rw [ref18Digits_eq]
    show ref18Digitsr D 0 (n : Int) = _
    unfold ref18Digitsr
    rw [Lib.decDigits]
    by_cases h10 : n < 10
    · rw [cond_d (by omega), wrap_i64 (by omega) (by omega), wrap_u8 (by omega) (by omega), need_d2 (by omega) (by omega), dif_pos h10]
      rw [show Int.toNat (48 + (n : Int)) = 48 + n by omega]
    · have et : Int.tdiv (n : Int) 10 = ((n / 10 : Nat) : Int) := rfl
      have em : Int.tmod (n : Int) 10 = ((n % 10 : Nat) : Int) := rfl
      have hlen := nDigits_le 6 (n / 10) (by have : (10 : Nat) ^ 6 = 1000000 := by decide
                                             omega)
      rw [cond_nd (by omega), need_nd (by decide), et, em, wrap_i64 (x := ((n / 10 : Nat) : Int)) (by omega) (by omega), ih (n / 10) (by omega) (by omega), dif_neg h10]
      simp only [Option.bind_some, asS_s]
      rw [need_nd (by decide), wrap_i64 (x := 48 + ((n % 10 : Nat) : Int)) (by omega) (by omega), wrap_u8 (by omega) (by omega), need_d2 (by omega) (by omega), need_d (by simp [Lib.decDigits_length]; omega)]
      rw [show Int.toNat (48 + ((n % 10 : Nat) : Int)) = 48 + n % 10 by omega]
theorem D_DigitsI (v : Int) (h0 : 0 ≤ v) (h1 : v ≤ 999999) : D id_ref18Digits [.int .i64 v] = some ⟨.str (Lib.itoa v), false, []⟩ := by
  obtain ⟨n, rfl⟩ : ∃ n : Nat, v = n := ⟨v.toNat, by omega⟩
  rw [D_Digits20 n (by omega)]
  unfold Lib.itoa
  rw [if_neg (by omega), Int.toNat_natCast]
set_option maxHeartbeats 4000000 in
theorem pp_step (N : Nat) (go : List AV → List UInt8 → List AV → Int → Int → Option Res) (k0 : List UInt8 → Int → Option Res) (k1 : List AV → List UInt8 → Option Res) (l2 l3 : List AV) (s : List UInt8) (len i : Nat) (hi : i < len) (hl : len ≤ 40) (hs : s.length ≤ 2030 * i) (k : Int) (nm : List UInt8) (v : Int)
    (ho : okZ (k, nm, v)) (he : l3[i]? = some (stZ (k, nm, v))) : ref18PrintPath_L1s D N go k0 k1 l2 s l3 (len : Int) (i : Int) = if niceB i (k, nm, v) = true then go l2 (s ++ textP (k, nm, v)) l3 (len : Int) ((i + 1 : Nat) : Int) else k0 [] 6 := by
  unfold ref18PrintPath_L1s
  rw [cond_d (by omega), need_d (by omega), Int.toNat_natCast, he]
  obtain ⟨hk, hnm, hv⟩ := ho
  simp only at hk hnm hv
  have hit := itoa_len v hv
  have hpl := putL_len nm
  simp only [stZ, Option.bind_some, asISIA, asA_a, asC_c, asI_i, asS_s, asN_n]
  rw [wrap_i64 (x := (i : Int) + 1) (by omega) (by omega), show (i : Int) + 1 = ((i + 1 : Nat) : Int) by omega]
  have hnd : ∀ {α : Type} {n : Nat} {x : Option α}, n ≤ 1000000 → need (decide (n ≤ 9223372036854775807)) x = x := fun h => need_d (by omega)
  have hi0 : decide ((i : Int) > 0) = !decide (i = 0) := by by_cases h : i = 0 <;> simp [h]; omega
  by_cases h1 : k = 1
  · subst h1
    simp only [Int.reduceBEq, cond_true, cond_false]
    unfold niceB textP
    simp only [if_true]
    rw [hi0]
    by_cases hm : v = -1
    · subst hm
      simp only [Int.reduceBEq, cond_true, cond_false, if_true]
      rw [hnd (by simp; omega)]
      by_cases h0 : i = 0 <;> simp [h0]
    · rw [cond_ne hm]
      by_cases hv0 : 0 ≤ v
      · rw [cond_d (by omega)]
        by_cases hv1 : v ≤ 999999
        · rw [cond_d hv1, D_DigitsI v hv0 hv1]
          simp only [Option.bind_some, asS_s]
          rw [hnd (by simp; omega), hnd (by simp; omega), if_neg hm]
          by_cases h0 : i = 0 <;> simp [h0, hm, hv0, hv1]
        · rw [cond_nd hv1]; simp [hm, hv1]
      · rw [cond_nd (by omega)]; simp [hm, hv0]
  by_cases h2 : k = 2
  · subst h2
    simp only [Int.reduceBEq, cond_true, cond_false]
    unfold niceB textP nameT
    rw [D_refName nm (by omega), D_refPut6 nm (by omega)]
    simp only [Option.bind_some, asB_b, asSBT, asT_t, asC_c, asS_s, asN_n, Int.reduceEq, if_false, if_true]
    cases hn : nameP nm
    · simp only [cond_false, Bool.false_eq_true, if_false]
      have hq : (if Lib.validD nm = true then putL nm else []).length ≤ 3000 := by
        split
        · omega
        · simp
      rw [hnd (by simp only [List.length_cons, List.length_nil]; omega), hnd (by simp only [List.length_append, List.length_cons, List.length_nil]; omega)]
      rfl
    · simp only [cond_true, if_true]
      rw [hnd (by simp only [List.length_cons, List.length_nil]; omega), hnd (by simp only [List.length_append, List.length_cons, List.length_nil]; omega)]
      rfl
  by_cases h3 : k = 3
  · subst h3
    simp only [Int.reduceBEq, cond_true, cond_false]
    unfold niceB textP
    simp only [Int.reduceEq, if_false, if_true]
    by_cases hv0 : 0 ≤ v
    · rw [cond_d (by omega)]
      by_cases hv1 : v ≤ 999999
      · rw [cond_d hv1, D_DigitsI v hv0 hv1]
        simp only [Option.bind_some, asS_s]
        rw [hnd (by simp; omega), hnd (by simp; omega), hnd (by simp; omega)]
        simp [hv0, hv1]
      · rw [cond_nd hv1]; simp [hv1]
    · rw [cond_nd (by omega)]; simp [hv0]
  by_cases h4 : k = 4
  · subst h4
    simp only [Int.reduceBEq, cond_true, cond_false]
    rw [hnd (by simp; omega)]
    unfold niceB textP
    simp
  by_cases h5 : k = 5
  · subst h5
    simp only [Int.reduceBEq, cond_true, cond_false]
    rw [hnd (by simp; omega)]
    unfold niceB textP
    simp
  · simp only [beq_false_of_ne h1, beq_false_of_ne h2, beq_false_of_ne h3, beq_false_of_ne h4, beq_false_of_ne h5, cond_false]
    unfold niceB
    simp [h1, h2, h3, h4, h5]
theorem pp_loop (l : List StZ) (hl : l.length ≤ 40) (ho : ∀ x ∈ l, okZ x) (N : Nat) (l2 : List AV) (k0 : List UInt8 → Int → Option Res) (k1 : List AV → List UInt8 → Option Res) : ∀ (n i : Nat) (s : List UInt8), l.length < n + i → i ≤ l.length → s.length ≤ 2030 * i →
    ref18PrintPath_L1 D N k0 k1 n l2 s (l.map stZ) ((l.length : Nat) : Int) (i : Int) = if allN i (l.drop i) = true then k1 l2 (s ++ textsP (l.drop i)) else k0 [] 6 := by
  intro n
  induction n with
  | zero => intro i s h _; omega
  | succ n ih =>
    intro i s h hi hs
    rw [show ref18PrintPath_L1 D N k0 k1 (n + 1) l2 s (l.map stZ) ((l.length : Nat) : Int) (i : Int) = ref18PrintPath_L1s D N (ref18PrintPath_L1 D N k0 k1 n) k0 k1 l2 s (l.map stZ) ((l.length : Nat) : Int) (i : Int) from rfl]
    by_cases hlt : i < l.length
    · have e1 : (l.map stZ)[i]? = some (stZ l[i]) := by rw [List.getElem?_map, List.getElem?_eq_getElem hlt]; rfl
      have hx := ho l[i] (List.getElem_mem hlt)
      have hd : textsP (l.drop i) = textP l[i] ++ textsP (l.drop (i + 1)) := by rw [List.drop_eq_getElem_cons hlt]; rfl
      have hd2 : allN i (l.drop i) = (niceB i l[i] && allN (i + 1) (l.drop (i + 1))) := by rw [List.drop_eq_getElem_cons hlt]; rfl
      rw [hd, hd2]
      generalize l[i] = x at hx e1
      obtain ⟨k, nm, v⟩ := x
      have ht := textP_len (k, nm, v) hx.2.2
      have hx2 := hx.2.1
      simp only at ht hx2
      rw [pp_step N _ k0 k1 l2 _ s l.length i hlt hl hs k nm v hx e1]
      cases hb : niceB i (k, nm, v)
      · simp
      · simp only [if_true, Bool.true_and]
        rw [ih (i + 1) _ (by omega) (by omega) (by rw [List.length_append]; omega), List.append_assoc]
    · unfold ref18PrintPath_L1s
      rw [cond_nd (by omega), List.drop_eq_nil_of_le (by omega)]
      simp [textsP, allN]
theorem pp2_loop (a b : List StZ) (hab : a.length = b.length) (ha : a.length ≤ 1000000) (s : List UInt8) (N : Nat) (k0 : List UInt8 → Int → Option Res) (k1 : List UInt8 → Option Res) : ∀ (n i : Nat), a.length < n + i → i ≤ a.length →
    ref18PrintPath_L2 D N k0 k1 n (b.map stZ) s (a.map stZ) ((b.length : Nat) : Int) (i : Int) = if a.drop i = b.drop i then k1 s else k0 [] 6 := by
  intro n
  induction n with
  | zero => intro i h; omega
  | succ n ih =>
    intro i h hi
    simp only [ref18PrintPath_L2, ref18PrintPath_L2s]
    by_cases hlt : i < a.length
    · have e1 : (a.map stZ)[i]? = some (stZ a[i]) := by rw [List.getElem?_map, List.getElem?_eq_getElem hlt]; rfl
      have e2 : (b.map stZ)[i]? = some (stZ (b[i]'(by omega))) := by rw [List.getElem?_map, List.getElem?_eq_getElem (by omega)]; rfl
      have d1 : a.drop i = a[i] :: a.drop (i + 1) := List.drop_eq_getElem_cons hlt
      have d2 : b.drop i = (b[i]'(by omega)) :: b.drop (i + 1) := List.drop_eq_getElem_cons (by omega)
      rw [cond_d (by omega)]
      simp only [need_d (show (0 : Int) ≤ (i : Int) by omega), Int.toNat_natCast]
      rw [e1, e2, d1, d2]
      generalize a[i] = x
      generalize b[i]'(by omega) = y
      obtain ⟨x1, x2, x3⟩ := x
      obtain ⟨y1, y2, y3⟩ := y
      simp only [stZ, Option.bind_some, asISIA, asA_a, asC_c, asI_i, asS_s, asN_n, List.cons.injEq, Prod.mk.injEq]
      by_cases h1 : x1 = y1
      · by_cases h2 : x2 = y2
        · by_cases h3 : x3 = y3
          · subst h1; subst h2; subst h3
            simp only [beq_self_eq_true, Bool.and_self, Bool.not_true, cond_false, true_and]
            rw [wrap_i64 (by omega) (by omega), show (i : Int) + 1 = ((i + 1 : Nat) : Int) by omega]
            exact ih (i + 1) (by omega) (by omega)
          · simp [h3, beq_false_of_ne h3]
        · simp [h2, beq_false_of_ne h2]
      · simp [beq_false_of_ne h1, h1]
    · rw [cond_nd (by omega), List.drop_eq_nil_of_le (by omega), List.drop_eq_nil_of_le (by omega), if_pos rfl]
theorem D_PrintPath (l : List StZ) (hl : l.length ≤ 40) (ho : ∀ x ∈ l, okZ x) : D id_ref18PrintPath [.row 3 (l.map stZ)] = some ⟨.tup [.str (printP l).1, .int .i64 (printP l).2], false, []⟩ := by
  refine den_fn (N := 100) (F := ref18PrintPath) rfl rfl ?_
  rw [ref18PrintPath_eq]
  show ref18PrintPathr D 100 (l.map stZ) = _
  unfold ref18PrintPathr
  rw [List.length_map]
  refine (pp_loop l hl ho 100 _ _ _ 100 0 [] (by omega) (by omega) (by simp)).trans ?_
  rw [List.drop_zero, List.nil_append]
  cases ha : allN 0 l
  · rw [printP_nice ha]; rfl
  · simp only [if_true]
    have ht := textsP_len l ho
    rw [D_ParsePath _ (by omega)]
    simp only [pathR, Option.bind_some, asRIT, asT_t, asC_c, asR_r, asI_i, asN_n]
    unfold printP
    by_cases h0 : (parseP (textsP l)).2 = 0
    · have hp := parseP_len20 (s := textsP l)
      rw [cond_beq h0, List.length_map, List.length_map]
      by_cases hlen : (parseP (textsP l)).1.length = l.length
      · rw [cond_beq (by omega), stA_map]
        refine (pp2_loop ((parseP (textsP l)).1.map toZ) l (by rw [List.length_map]; exact hlen) (by rw [List.length_map]; omega) _ 100 _ _ 100 0 (by rw [List.length_map]; omega) (by omega)).trans ?_
        simp only [List.drop_zero]
        by_cases he : (parseP (textsP l)).1.map toZ = l
        · rw [if_pos he, if_pos ⟨h0, he⟩]
        · rw [if_neg he, if_neg (fun h => he h.2)]
      · rw [cond_bne (by omega), if_neg (fun h => hlen (by have := congrArg List.length h.2; rw [List.length_map] at this; exact this))]
    · rw [cond_bne h0, if_neg (fun h => h0 h.1)]
end Go.Proofs.YtlionohbndehgaaDoor.Vf
