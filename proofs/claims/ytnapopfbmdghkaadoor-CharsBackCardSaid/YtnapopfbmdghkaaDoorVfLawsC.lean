
/- The laws CharsBack, CharsWhole and CharsReturns come to true, whatever the input. No condition but what a Go byte is. -/
import Derived.Test.YtnapopfbmdghkaaDoorVfLawsB
namespace Go.Proofs.YtnapopfbmdghkaaDoor.Vf
set_option linter.unusedVariables false
set_option linter.unusedSimpArgs false

theorem getD_app (l t : List UInt8) {i : Nat} (h : i < l.length) : (l ++ t).getD i 0 = l.getD i 0 := by simp [List.getD, List.getElem?_append_left h]

/-- A rune that there is is read whatever stands behind it. -/
theorem rune_app (l t : List UInt8) (h : (rune l).2.2 = true) : rune (l ++ t) = rune l := by
  cases l with
  | nil => cases h
  | cons c r =>
    have hc := byte_lt c
    rw [rune_cons] at h
    rw [List.cons_append, rune_cons, rune_cons]
    by_cases k1 : c.toNat < 128
    · rw [runeN_1 k1, runeN_1 k1]
    by_cases k2 : c.toNat < 192
    · rw [runeN_bad (by omega) hc] at h; cases h
    by_cases k3 : c.toNat < 224
    · rw [runeN_2 (by omega) k3] at h
      rw [runeN_2 (by omega) k3, runeN_2 (by omega) k3]
      split at h
      · rename_i g
        rw [getD_app _ _ (by omega), if_pos g, if_pos ⟨g.1, by simp; omega, g.2.2⟩]
      · cases h
    by_cases k4 : c.toNat < 240
    · rw [runeN_3 (by omega) k4] at h
      rw [runeN_3 (by omega) k4, runeN_3 (by omega) k4]
      split at h
      · rename_i g
        rw [getD_app _ _ (by omega), getD_app _ _ (by omega), if_pos g, if_pos ⟨by simp; omega, g.2⟩]
      · cases h
    by_cases k5 : c.toNat < 248
    · rw [runeN_4 (by omega) k5] at h
      rw [runeN_4 (by omega) k5, runeN_4 (by omega) k5]
      split at h
      · rename_i g
        rw [getD_app _ _ (by omega), getD_app _ _ (by omega), getD_app _ _ (by omega), if_pos g, if_pos ⟨by simp; omega, g.2⟩]
      · cases h
    · rw [runeN_bad (by omega) hc] at h; cases h

theorem badAt_app (l t : List UInt8) (h : badAt l = false) : badAt (l ++ t) = false := by
  have hok : (rune l).2.2 = true := by
    unfold badAt at h; simp only [Bool.or_eq_false_iff, Bool.not_eq_false'] at h; exact h.1.1
  unfold badAt at h ⊢
  rw [rune_app l t hok]
  simp only [Bool.or_eq_false_iff, Bool.not_eq_false', Bool.and_eq_false_iff, decide_eq_false_iff_not, Bool.and_eq_true, decide_eq_true_eq] at h ⊢
  refine ⟨h.1, h.2.imp id fun g => ⟨by simp; omega, ?_⟩⟩
  rw [getD_app _ _ g.1]; exact g.2

theorem chkL_app : ∀ (n : Nat) (s t : List UInt8), s.length < n → chkL n s = none → chk (s ++ t) = (chk t).map (· + s.length) := by
  intro n
  induction n with
  | zero => intro s t h; omega
  | succ n ih =>
    intro s t h hn
    by_cases hs : s = []
    · subst hs; simp
    · simp only [chkL] at hn
      rw [if_neg hs] at hn
      cases hb : badAt s
      · rw [hb, if_neg (by simp), Option.map_eq_none_iff] at hn
        have hsz := rune_size s hs
        have hok : (rune s).2.2 = true := by
          unfold badAt at hb; simp only [Bool.or_eq_false_iff, Bool.not_eq_false'] at hb; exact hb.1.1
        have h2 := ih (s.drop (rune s).2.1) t (by simp; omega) hn
        have e : chk (s ++ t) = (chk ((s ++ t).drop (rune s).2.1)).map (· + (rune s).2.1) := by
          show chkL ((s ++ t).length + 1) (s ++ t) = _
          simp only [chkL]
          rw [if_neg (by simp [hs]), badAt_app s t hb, if_neg (by simp), rune_app s t hok]
          unfold chk
          rw [chkL_fuel (s ++ t).length (((s ++ t).drop (rune s).2.1).length + 1) _ (by simp; omega) (by omega)]
        rw [e, List.drop_append_of_le_length hsz.2.1, h2, Option.map_map]
        congr 1
        funext x
        simp only [Function.comp, List.length_drop]; omega
      · rw [hb, if_pos rfl] at hn; cases hn
theorem chk_app {s : List UInt8} (t : List UInt8) (h : chk s = none) : chk (s ++ t) = (chk t).map (· + s.length) := chkL_app _ s t (Nat.lt_succ_self _) h
theorem chk_bad (t : List UInt8) (h : t ≠ []) (hb : badAt t = true) : chk t = some 0 := by
  show chkL (t.length + 1) t = _
  simp only [chkL]; rw [if_neg h, hb, if_pos rfl]
theorem chk_good (t : List UInt8) (h : t ≠ []) (hb : badAt t = false) : chk t = (chk (t.drop (rune t).2.1)).map (· + (rune t).2.1) := by
  have hsz := rune_size t h
  show chkL (t.length + 1) t = _
  simp only [chkL]; rw [if_neg h, hb, if_neg (by simp)]
  unfold chk
  rw [chkL_fuel t.length ((t.drop (rune t).2.1).length + 1) _ (by simp; omega) (by omega)]

/-- A text, as Check tells it. -/
def isText (s : List UInt8) : Prop := s.length ≤ 65536 ∧ chk (s.drop (bom s)) = none
theorem checkP_ok (s : List UInt8) : (checkP s).2 = 0 ↔ isText s := by
  unfold checkP isText
  by_cases h : 65536 < s.length
  · rw [if_pos h]; simp; omega
  · rw [if_neg h]
    cases chk (s.drop (bom s)) <;> simp <;> omega
theorem checkP_text {s : List UInt8} (h : isText s) : checkP s = (0, 0) := by
  unfold checkP; rw [if_neg (by have := h.1; omega), h.2]
theorem checkP_bad {s : List UInt8} {j : Nat} (hl : s.length ≤ 65536) (h : chk (s.drop (bom s)) = some j) : checkP s = (((bom s + j : Nat) : Int), 1) := by
  unfold checkP; rw [if_neg (by omega), h]

/-- A text that is not empty begins with the mark wherever it is told further. -/
theorem bom_app {s : List UInt8} (t : List UInt8) (hs : s ≠ []) (h : isText s) : bom (s ++ t) = bom s := by
  by_cases h3 : 3 ≤ s.length
  · unfold bom
    rw [List.take_append_of_le_length h3]
    have : (3 ≤ (s ++ t).length ∧ s.take 3 = [239, 187, 191]) ↔ (3 ≤ s.length ∧ s.take 3 = [239, 187, 191]) := by simp; omega
    by_cases hc : 3 ≤ s.length ∧ s.take 3 = [239, 187, 191]
    · rw [if_pos hc, if_pos (this.2 hc)]
    · rw [if_neg hc, if_neg fun g => hc (this.1 g)]
  · have hb : bom s = 0 := by unfold bom; rw [if_neg fun g => h3 g.1]
    rw [hb]
    unfold bom
    rw [if_neg]
    rintro ⟨_, g⟩
    cases s with
    | nil => exact hs rfl
    | cons c r =>
      have hc : c = 239 := by
        rw [List.cons_append] at g
        simp only [List.take_succ_cons, List.cons.injEq] at g; exact g.1
      subst hc
      have h2 := h.2
      rw [hb, List.drop_zero, chk_bad _ (by simp) ?_] at h2
      · cases h2
      · have hn : (rune (239 :: r)).2.2 = false := by
          rw [rune_cons, runeN_3 (by decide) (by decide), if_neg]
          simp only [List.length_cons] at h3; omega
        unfold badAt; rw [hn]; rfl

theorem text_app {s t : List UInt8} (hs : isText s) (ht : chk t = none) (h0 : s = [] → bom t = 0) (hl : s.length + t.length ≤ 65536) : isText (s ++ t) := by
  refine ⟨by simp; omega, ?_⟩
  by_cases he : s = []
  · subst he
    rw [List.nil_append, h0 rfl]; exact ht
  · rw [bom_app t he hs, List.drop_append_of_le_length (bom_le s), chk_app t hs.2, ht]; rfl
theorem text_bad {s t : List UInt8} (hs : isText s) (ht : chk t = some 0) (h0 : s = [] → bom t = 0) (hl : s.length + t.length ≤ 65536) : checkP (s ++ t) = ((s.length : Int), 1) := by
  by_cases he : s = []
  · subst he
    rw [List.nil_append, checkP_bad (j := 0) (by omega) (by rw [h0 rfl]; exact ht), h0 rfl]; rfl
  · rw [checkP_bad (j := s.length - bom s) (by simp; omega), bom_app t he hs]
    · have := bom_le s
      rw [show bom s + (s.length - bom s) = s.length by omega]
    · rw [bom_app t he hs, List.drop_append_of_le_length (bom_le s), chk_app t hs.2, ht]; simp

theorem not_mark {t : List UInt8} (h : ¬ (3 ≤ t.length ∧ t.take 3 = [239, 187, 191])) : bom t = 0 := by unfold bom; rw [if_neg h]

theorem rune_no (c : UInt8) (t : List UInt8) (h : (128 ≤ c.toNat ∧ c.toNat < 194) ∨ 245 ≤ c.toNat) : (rune (c :: t)).2.2 = false := by
  have hc := byte_lt c
  rw [rune_cons]
  by_cases k1 : c.toNat < 192
  · rw [runeN_bad (by omega) hc]
  by_cases k2 : c.toNat < 224
  · rw [runeN_2 (by omega) k2, if_neg (by omega)]
  by_cases k3 : c.toNat < 248
  · rw [runeN_4 (by omega) k3, if_neg (by omega)]
  · rw [runeN_bad (by omega) hc]
theorem bad_bytes (k : Nat) (hk : k < 8) (t : List UInt8) : badAt (([192, 193, 245, 255, 128, 0, 1, 127] : List UInt8).getD k 0 :: t) = true ∧ bom (([192, 193, 245, 255, 128, 0, 1, 127] : List UInt8).getD k 0 :: t) = 0 := by
  refine ⟨?_, not_mark ?_⟩
  · have no : ∀ c : UInt8, (rune (c :: t)).2.2 = false → badAt (c :: t) = true := fun c h => by unfold badAt; rw [h]; rfl
    have pr : ∀ c : UInt8, c.toNat < 128 → printable c.toNat = false → badAt (c :: t) = true := fun c h h' => by unfold badAt; rw [ascii_rune c t h]; simp [h']
    match k, hk with
    | 0, _ => exact no _ (rune_no _ _ (by decide))
    | 1, _ => exact no _ (rune_no _ _ (by decide))
    | 2, _ => exact no _ (rune_no _ _ (by decide))
    | 3, _ => exact no _ (rune_no _ _ (by decide))
    | 4, _ => exact no _ (rune_no _ _ (by decide))
    | 5, _ => exact pr _ (by decide) rfl
    | 6, _ => exact pr _ (by decide) rfl
    | 7, _ => exact pr _ (by decide) rfl
  · rintro ⟨_, g⟩
    simp only [List.take_succ_cons, List.cons.injEq] at g
    have := g.1
    match k, hk with
    | 0, _ => cases this
    | 1, _ => cases this
    | 2, _ => cases this
    | 3, _ => cases this
    | 4, _ => cases this
    | 5, _ => cases this
    | 6, _ => cases this
    | 7, _ => cases this

theorem wakes_end : ((D id_law01Wakes []).bind fun r => asB r.v fun b => some (⟨AV.bool b, false, []⟩ : Res)) = some ⟨.bool true, false, []⟩ := by rw [D_wakes]; rfl

theorem D_CharsWhole (s t : List UInt8) (c : Int) (hc0 : 0 ≤ c) (hc1 : c ≤ 255) : D id_law01CharsWhole [.str s, .str t, .int .u8 c] = some ⟨.bool true, false, []⟩ := by
  refine den_fn (N := 0) (F := law01CharsWhole) rfl rfl ?_
  rw [law01CharsWhole_eq]
  show law01CharsWholer D 0 s t c = _
  unfold law01CharsWholer
  rw [show (100 : Int) = ((100 : Nat) : Int) from rfl, D_Text s 100 (by omega), D_Text t 100 (by omega)]
  have hs : (s.take 100).length ≤ 100 := by simp; omega
  have ht : (t.take 100).length ≤ 100 := by simp; omega
  generalize s.take 100 = s at hs
  generalize t.take 100 = t at ht
  simp only [Option.bind_some, asS_s]
  have e8 : Int.tmod (IntKind.i64.wrap c) 8 = ((c.toNat % 8 : Nat) : Int) := by
    rw [wrap_i64 (by omega) (by omega), Int.tmod_eq_emod_of_nonneg (by omega)]; omega
  have hbad := bad_bytes (c.toNat % 8) (by omega) t
  have hx := byte_lt (([192, 193, 245, 255, 128, 0, 1, 127] : List UInt8).getD (c.toNat % 8) 0)
  simp (disch := ((try simp only [List.length_append, List.length_cons, List.length_nil, List.length_take, List.length_drop]); omega)) only [e8, need_nd, need_d, need_d2, Int.toNat_natCast, get_bn, UInt8.ofNat_toNat, List.append_assoc, D_Check, Option.bind_some, asIIT, asT_t, asC_c, asI_i, asN_n, wakes_end]
  generalize ([192, 193, 245, 255, 128, 0, 1, 127] : List UInt8).getD (c.toNat % 8) 0 = x at hbad
  have fin : ¬ (3 ≤ t.length ∧ t.take 3 = [239, 187, 191]) → (bif (checkP s).2 != 0 then some (⟨AV.bool true, false, []⟩ : Res) else bif (checkP t).2 != 0 then some ⟨AV.bool true, false, []⟩ else bif (checkP (s ++ t)).2 != 0 then some ⟨AV.bool false, false, []⟩ else bif (checkP (s ++ t)).1 != 0 then some ⟨AV.bool false, false, []⟩ else
      bif (checkP (s ++ ([x] ++ t))).2 == 1 then bif (checkP (s ++ ([x] ++ t))).1 == (s.length : Int) then some ⟨AV.bool true, false, []⟩ else some ⟨AV.bool false, false, []⟩ else some ⟨AV.bool false, false, []⟩) = some ⟨AV.bool true, false, []⟩ := by
    intro hm
    by_cases h1 : (checkP s).2 = 0
    · by_cases h2 : (checkP t).2 = 0
      · have t1 := (checkP_ok s).1 h1
        have t2 := (checkP_ok t).1 h2
        have hbt := not_mark hm
        have t3 := text_app t1 (by have := t2.2; rwa [hbt, List.drop_zero] at this) (fun _ => hbt) (by omega)
        have t4 := text_bad (t := [x] ++ t) t1 (chk_bad _ (by simp) hbad.1) (fun _ => hbad.2) (by simp; omega)
        rw [checkP_text t3, t4, cond_beq h1, cond_beq h2]
        simp
      · rw [cond_beq h1, cond_bne h2]
    · rw [cond_bne h1]
  by_cases h3 : 3 ≤ t.length
  · rw [cond_d (by omega), need_d2 (by omega) (by omega), show (t.take (Int.toNat 3)).drop 0 = t.take 3 from rfl]
    by_cases hm : t.take 3 = [239, 187, 191]
    · rw [hm]; rfl
    · have : (t.take 3 == [239, 187, 191]) = false := by simpa using hm
      rw [this]
      exact fin (fun h => hm h.2)
  · rw [cond_nd (by omega)]
    exact fin (fun h => h3 h.1)

theorem cr_bad (t : List UInt8) (h : ¬ (t ≠ [] ∧ (t.getD 0 0).toNat = 10)) : badAt (13 :: t) = true := by
  unfold badAt
  rw [ascii_rune _ _ (by decide)]
  have : (decide (1 < (13 :: t).length) && decide (((13 :: t).getD 1 0).toNat = 10)) = false := by
    rw [Bool.and_eq_false_iff, decide_eq_false_iff_not, decide_eq_false_iff_not]
    cases t with
    | nil => simp
    | cons c r =>
      right
      exact fun g => h ⟨by simp, g⟩
  rw [this]; rfl
theorem crlf_good (t : List UInt8) : badAt (13 :: 10 :: t) = false := by
  unfold badAt
  rw [ascii_rune _ _ (by decide)]
  have : (decide (1 < (13 :: 10 :: t).length) && decide (((13 :: 10 :: t).getD 1 0).toNat = 10)) = true := by simp
  rw [this]; rfl
theorem lf_good (t : List UInt8) : badAt (10 :: t) = false := by
  unfold badAt
  rw [ascii_rune _ _ (by decide)]; rfl
theorem mark_bad (t : List UInt8) : badAt (239 :: 187 :: 191 :: t) = true := by
  have : rune (239 :: 187 :: 191 :: t) = (65279, 3, true) := by
    rw [rune_cons]
    show runeN ((187 :: 191 :: t).length + 1) 239 187 191 _ = _
    rw [runeN_3 (by decide) (by decide), if_pos]
    simp
  unfold badAt; rw [this]; rfl

theorem D_CharsReturns (s t : List UInt8) : D id_law01CharsReturns [.str s, .str t] = some ⟨.bool true, false, []⟩ := by
  refine den_fn (N := 0) (F := law01CharsReturns) rfl rfl ?_
  rw [law01CharsReturns_eq]
  show law01CharsReturnsr D 0 s t = _
  unfold law01CharsReturnsr
  rw [show (60 : Int) = ((60 : Nat) : Int) from rfl, D_Text s 60 (by omega), D_Text t 60 (by omega)]
  have hs : (s.take 60).length ≤ 60 := by simp; omega
  have ht : (t.take 60).length ≤ 60 := by simp; omega
  generalize s.take 60 = s at hs
  generalize t.take 60 = t at ht
  simp only [Option.bind_some, asS_s]
  rw [D_Check s (by omega), D_Check t (by omega)]
  simp only [Option.bind_some, asIIT, asT_t, asC_c, asI_i, asN_n, wakes_end, List.append_assoc]
  by_cases h1 : (checkP s).2 = 0
  case neg => rw [cond_bne h1]
  by_cases h2 : (checkP t).2 = 0
  case neg => rw [cond_beq h1, cond_bne h2]
  rw [cond_beq h1, cond_beq h2]
  have t1 := (checkP_ok s).1 h1
  have t2 := (checkP_ok t).1 h2
  rw [D_Check (s ++ ([13] ++ t)) (by simp; omega), D_Check (s ++ ([13, 10] ++ t)) (by simp; omega), D_Check (s ++ ([239, 187, 191] ++ t)) (by simp; omega)]
  simp only [Option.bind_some, asIIT, asT_t, asC_c, asI_i, asN_n, wakes_end]
  have key : ¬ (t ≠ [] ∧ (t.getD 0 0).toNat = 10) → ¬ (3 ≤ t.length ∧ t.take 3 = [239, 187, 191]) →
      checkP (s ++ ([13] ++ t)) = ((s.length : Int), 1) ∧ (checkP (s ++ ([13, 10] ++ t))).2 = 0 ∧ (s = [] → (checkP (s ++ ([239, 187, 191] ++ t))).2 = 0) ∧ (s ≠ [] → checkP (s ++ ([239, 187, 191] ++ t)) = ((s.length : Int), 1)) := by
    intro h10 hm
    have hbt := not_mark hm
    have hct : chk t = none := by have := t2.2; rwa [hbt, List.drop_zero] at this
    refine ⟨text_bad t1 (chk_bad _ (by simp) (cr_bad t h10)) (fun _ => not_mark (by rintro ⟨_, g⟩; simp at g)) (by simp; omega), ?_, fun he => ?_, fun he => ?_⟩
    · rw [checkP_ok]
      refine text_app t1 ?_ (fun _ => not_mark (by rintro ⟨_, g⟩; simp at g)) (by simp; omega)
      show chk (13 :: 10 :: t) = none
      rw [chk_good _ (by simp) (crlf_good t), ascii_rune _ _ (by decide)]
      show ((chk (10 :: t)).map _) = none
      rw [chk_good _ (by simp) (lf_good t), ascii_rune _ _ (by decide)]
      show (((chk t).map _).map _) = none
      rw [hct]; rfl
    · subst he
      rw [List.nil_append, checkP_ok]
      refine ⟨by simp; omega, ?_⟩
      have hb3 : bom ([239, 187, 191] ++ t) = 3 := by unfold bom; rw [if_pos ⟨by simp, rfl⟩]
      rw [hb3]; exact hct
    · exact text_bad t1 (chk_bad _ (by simp) (mark_bad t)) (fun h => absurd h he) (by simp; omega)
  simp (disch := ((try simp only [List.length_append, List.length_cons, List.length_nil, List.length_take, List.length_drop]); omega)) only [need_d]
  have fin : ¬ (t ≠ [] ∧ (t.getD 0 0).toNat = 10) → ¬ (3 ≤ t.length ∧ t.take 3 = [239, 187, 191]) →
      (bif (checkP (s ++ ([13] ++ t))).2 == 1 then bif (checkP (s ++ ([13] ++ t))).1 == (s.length : Int) then bif (checkP (s ++ ([13, 10] ++ t))).2 == 0 then bif ((checkP (s ++ ([239, 187, 191] ++ t))).2 == 0) == (s == []) then
        bif s == [] then some (⟨AV.bool true, false, []⟩ : Res) else bif (checkP (s ++ ([239, 187, 191] ++ t))).1 == (s.length : Int) then some ⟨AV.bool true, false, []⟩ else some ⟨AV.bool false, false, []⟩
        else some ⟨AV.bool false, false, []⟩ else some ⟨AV.bool false, false, []⟩ else some ⟨AV.bool false, false, []⟩ else some ⟨AV.bool false, false, []⟩) = some ⟨.bool true, false, []⟩ := by
    intro h10 hm
    obtain ⟨k1, k2, k3, k4⟩ := key h10 hm
    rw [k1, k2]
    by_cases he : s = []
    · rw [k3 he]; simp [he]
    · have hse : (s == []) = false := by simpa using he
      rw [k4 he, hse]; simp
  by_cases ht0 : t = []
  · rw [cond_nd (by rw [ht0]; simp), cond_nd (by rw [ht0]; simp)]
    exact fin (fun h => h.1 ht0) (by rw [ht0]; simp)
  · have hl : 0 < t.length := List.length_pos_iff.2 ht0
    rw [cond_d (by omega)]
    simp only [Int.toNat_zero]
    rw [get_bn hl]
    by_cases h10 : (t.getD 0 0).toNat = 10
    · rw [cond_eq (by omega)]
    rw [cond_ne (by omega)]
    by_cases h3 : 3 ≤ t.length
    · rw [cond_d (by omega), need_d2 (by omega) (by omega), show (t.take (Int.toNat 3)).drop 0 = t.take 3 from rfl]
      by_cases hm : t.take 3 = [239, 187, 191]
      · rw [hm]; rfl
      · have : (t.take 3 == [239, 187, 191]) = false := by simpa using hm
        rw [this]
        exact fin (fun h => h10 h.2) (fun h => hm h.2)
    · rw [cond_nd (by omega)]
      exact fin (fun h => h10 h.2) (fun h => h3 h.1)
end Go.Proofs.YtnapopfbmdghkaaDoor.Vf
