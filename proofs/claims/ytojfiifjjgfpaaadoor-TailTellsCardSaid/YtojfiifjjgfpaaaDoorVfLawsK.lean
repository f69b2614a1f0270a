
/- The laws TailRests and TailTells come to true, whatever the input. No condition. -/
import Derived.Test.YtojfiifjjgfpaaaDoorVfLawsT
namespace Go.Proofs.YtojfiifjjgfpaaaDoor.Vf
set_option linter.unusedVariables false
set_option linter.unusedSimpArgs false

theorem sameB_loop (a b : List UInt8) (hab : a.length = b.length) (ha : a.length ≤ 1000000) (N : Nat) (k0 : Bool → Option Res) (k1 : Option Res) : ∀ (n i : Nat), a.length < n + i → i ≤ a.length →
    keepSameByte_L1 D N k0 k1 n a b i = if a.drop i = b.drop i then k1 else k0 false := by
  intro n
  induction n with
  | zero => intro i h _; omega
  | succ n ih =>
    intro i h hi
    simp only [keepSameByte_L1, keepSameByte_L1s]
    by_cases hlt : i < a.length
    · rw [cond_d (by omega), need_d (by omega)]
      simp only [Int.toNat_natCast]
      rw [get_bn hlt, need_d (by omega), get_bn (by omega), drop_step hlt, drop_step (show i < b.length by omega)]
      by_cases hc : (a.getD i 0).toNat = (b.getD i 0).toNat
      · have he := UInt8.toNat_inj.1 hc
        rw [cond_beq (by omega), wrap_i64 (by omega) (by omega), show (i : Int) + 1 = ((i + 1 : Nat) : Int) by omega, ih (i + 1) (by omega) (by omega), he]
        simp only [List.cons.injEq, true_and]
      · rw [cond_bne (by omega), if_neg]
        intro e
        simp only [List.cons.injEq] at e
        exact hc (by rw [e.1])
    · rw [cond_nd (by omega), List.drop_eq_nil_of_le (by omega), List.drop_eq_nil_of_le (by omega), if_pos rfl]
theorem D_sameB (a b : List UInt8) (ha : a.length ≤ 1000000) : D id_keepSameByte [.bytes a, .bytes b] = some ⟨.bool (decide (a = b)), false, []⟩ := by
  refine den_fn (N := a.length + 1) (F := keepSameByte) rfl rfl ?_
  rw [keepSameByte_eq]
  show keepSameByter D _ _ _ = _
  unfold keepSameByter
  by_cases h : a.length = b.length
  · rw [cond_beq (by omega)]
    refine (sameB_loop a b h ha _ _ _ (a.length + 1) 0 (by omega) (by omega)).trans ?_
    simp only [List.drop_zero]
    by_cases hab : a = b
    · rw [if_pos hab, decide_eq_true hab]
    · rw [if_neg hab, decide_eq_false hab]
  · rw [cond_bne (by omega), decide_eq_false (fun e => h (by rw [e]))]

theorem blanks08_loop (s : List UInt8) (hs : s.length ≤ 1000000) (N : Nat) (k0 : Int → Option Res) : ∀ (n i : Nat), s.length < i + n → i ≤ s.length →
    ref08Blanks_L1 D N k0 n s i = k0 ((i + lead (s.drop i) : Nat) : Int) := by
  intro n
  induction n with
  | zero => intro i h _; omega
  | succ n ih =>
    intro i h hi
    simp only [ref08Blanks_L1, ref08Blanks_L1s]
    by_cases hlt : i < s.length
    · rw [cond_d (by omega), need_d (by omega)]
      simp only [Int.toNat_natCast]
      rw [get_bn hlt, drop_step hlt]
      simp only [lead]
      by_cases hc : (s.getD i 0).toNat = 32
      · rw [cond_eq (by omega), if_pos hc, wrap_i64 (by omega) (by omega), show (i : Int) + 1 = ((i + 1 : Nat) : Int) by omega, ih (i + 1) (by omega) (by omega), show i + 1 + lead (s.drop (i + 1)) = i + (lead (s.drop (i + 1)) + 1) by omega]
      · rw [cond_ne (by omega), if_neg hc]; rfl
    · rw [cond_nd (by omega), List.drop_eq_nil_of_le (by omega)]; rfl
theorem D_refBlanks (s : List UInt8) (hs : s.length ≤ 1000000) : D id_ref08Blanks [.bytes s] = some ⟨.int .i64 (lead s : Nat), false, []⟩ := by
  refine den_fn (N := s.length + 1) (F := ref08Blanks) rfl rfl ?_
  rw [ref08Blanks_eq]
  show ref08Blanksr D _ s = _
  unfold ref08Blanksr
  refine (blanks08_loop s hs _ _ (s.length + 1) 0 (by omega) (by omega)).trans ?_
  rw [List.drop_zero, Nat.zero_add]
theorem D_refClear (s : List UInt8) (hs : s.length ≤ 1000000) : D id_ref08Clear [.bytes s] = some ⟨.bool (clearL s), false, []⟩ := by
  refine den_fn (N := 0) (F := ref08Clear) rfl rfl ?_
  rw [ref08Clear_eq]
  show ref08Clearr D _ s = _
  unfold ref08Clearr
  rw [D_refBlanks s hs]
  simp only [Option.bind_some, asI_i, clearL, isCom]
  have hl := lead_le s
  by_cases h1 : lead s = s.length
  · rw [cond_eq (by omega), decide_eq_true h1, Bool.or_true]
  · rw [cond_ne (by omega), decide_eq_false h1, Bool.or_false]
    by_cases h0 : 0 < lead s
    · rw [cond_d (by omega), need_d (by omega), Int.toNat_natCast, get_bn (by omega), decide_eq_true h0, decide_eq_true (show lead s < s.length by omega)]
      have hb := byte_lt (s.getD (lead s) 0)
      have : ((((s.getD (lead s) 0).toNat : Int) : Int) == 35) = decide ((s.getD (lead s) 0).toNat = 35) := by rw [Bool.eq_iff_iff, beq_iff_eq, decide_eq_true_eq]; omega
      rw [this]; rfl
    · rw [cond_nd (by omega), decide_eq_false h0]; rfl
theorem D_refComment08 (s : List UInt8) (hs : s.length ≤ 1000000) : D id_ref08Comment [.bytes s] = some ⟨.tup [.int .i64 (if isCom s = true then lead s else 0 : Nat), .bool (isCom s)], false, []⟩ := by
  refine den_fn (N := 0) (F := ref08Comment) rfl rfl ?_
  rw [ref08Comment_eq]
  show ref08Commentr D _ s = _
  unfold ref08Commentr
  rw [D_refBlanks s hs, D_refClear s hs]
  simp only [Option.bind_some, asI_i, asB_b, clearL]
  by_cases h1 : lead s = s.length
  · have hc : isCom s = false := by unfold isCom; rw [decide_eq_false (show ¬ lead s < s.length by omega)]; simp
    rw [hc, decide_eq_true h1]
    simp only [Bool.false_or, Bool.not_true, cond_false]
    rw [cond_eq (by omega)]; rfl
  · rw [decide_eq_false h1, Bool.or_false]
    cases isCom s
    · rfl
    · simp only [Bool.not_true, cond_false]
      rw [cond_ne (by omega)]; rfl
theorem D_refMarker08 (s : List UInt8) (hs : s.length ≤ 1000000) : D id_ref08Marker [.bytes s] = some ⟨.int .i64 (markL s), false, []⟩ := by
  refine den_fn (N := 0) (F := ref08Marker) rfl rfl ?_
  rw [ref08Marker_eq]
  show ref08Markerr D _ s = _
  unfold ref08Markerr
  by_cases h3 : s.length < 3
  · rw [cond_d (by omega)]
    have e : decide (3 ≤ s.length) = false := decide_eq_false (by omega)
    unfold markL markK
    rw [e]; rfl
  rw [cond_nd (by omega)]
  simp only [need_d2 (show (0 : Int) ≤ 3 by omega) (show (3 : Int) ≤ ((s.length : Nat) : Int) by omega), show Int.toNat 3 = 3 from rfl, List.drop_zero, List.take_length, need_d (show (0 : Int) ≤ 0 by omega), need_d (show (0 : Int) ≤ 3 by omega), show Int.toNat 0 = 0 from rfl]
  rw [D_refClear _ (by rw [List.length_drop]; omega)]
  simp only [Option.bind_some, asB_b]
  have two : ∀ e : Bool, s.take 3 = sgn3 e → (bif clearL (s.drop 3) then
            (some (⟨AV.int .i64 (sgnK e), false, []⟩ : Res))
          else
            (s[3]?).bind fun c2 =>
            bif ((c2.toNat : Int) : Int) == 32 then
              (some ⟨AV.int .i64 3, false, []⟩)
            else
              (s[3]?).bind fun c3 =>
              bif ((c3.toNat : Int) : Int) == 9 then
                (some ⟨AV.int .i64 3, false, []⟩)
              else
                some ⟨AV.int .i64 0, false, []⟩) = some ⟨.int .i64 (markL s), false, []⟩ := by
    intro e he
    have hse : s = sgn3 e ++ s.drop 3 := by rw [← he, List.take_append_drop]
    have hm : markL s = if clearL (s.drop 3) = true then sgnK e else if ((s.drop 3).getD 0 0).toNat = 32 ∨ ((s.drop 3).getD 0 0).toNat = 9 then 3 else 0 := by
      conv => lhs; rw [hse]
      exact markL_app e _
    rw [hm]
    cases hc : clearL (s.drop 3)
    · have hne := length_pos_of (lead_nil_iff hc)
      rw [List.length_drop] at hne
      have hg : (s.drop 3).getD 0 0 = s.getD 3 0 := by simp [List.getD]
      simp only [cond_false, Bool.false_eq_true, if_false]
      rw [get_bn (by omega), get_bn (by omega), hg]
      have hb := byte_lt (s.getD 3 0)
      by_cases h32 : (s.getD 3 0).toNat = 32
      · rw [cond_eq (by omega), if_pos (.inl h32)]
      · rw [cond_ne (by omega)]
        by_cases h9 : (s.getD 3 0).toNat = 9
        · rw [cond_eq (by omega), if_pos (.inr h9)]
        · rw [cond_ne (by omega), if_neg (by omega)]
    · simp
  have hg0 : ∀ e : Bool, s.take 3 = sgn3 e → (s.getD 0 0).toNat = (if e = true then 46 else 45) := by
    intro e he
    have : s = sgn3 e ++ s.drop 3 := by rw [← he, List.take_append_drop]
    rw [this]; cases e <;> rfl
  have hlt : 0 < s.length := by omega
  by_cases e1 : s.take 3 = [45, 45, 45]
  · have hb : (s.take 3 == ([45, 45, 45] : List UInt8)) = true := by rw [e1]; rfl
    have g0 := hg0 false e1
    simp only [Bool.false_eq_true, if_false] at g0
    rw [hb]
    simp only [Bool.not_true, cond_false]
    rw [get_bn hlt, cond_eq (by omega)]
    have t := two false e1
    cases hc : clearL (s.drop 3)
    · rw [hc] at t; exact t
    · rw [hc] at t; exact t
  · have hb : (s.take 3 == ([45, 45, 45] : List UInt8)) = false := beq_false_of_ne e1
    rw [hb]
    simp only [Bool.not_false, cond_true]
    by_cases e2 : s.take 3 = [46, 46, 46]
    · have hb2 : (s.take 3 == ([46, 46, 46] : List UInt8)) = true := by rw [e2]; rfl
      have g0 := hg0 true e2
      simp only [if_true] at g0
      rw [hb2]
      simp only [Bool.not_true, cond_false]
      rw [get_bn hlt, cond_ne (by omega)]
      have t := two true e2
      cases hc : clearL (s.drop 3)
      · rw [hc] at t; exact t
      · rw [hc] at t; exact t
    · have hb2 : (s.take 3 == ([46, 46, 46] : List UInt8)) = false := beq_false_of_ne e2
      rw [hb2]
      simp only [Bool.not_false, cond_true]
      unfold markL markK
      rw [hb, hb2, Bool.and_false]; rfl

theorem D_Spoil (s : List UInt8) : D id_keepSpoil [.ref (.bytes s)] = some ⟨.tup [], false, [.nilI]⟩ := den_ext rfl

theorem skip11_loop (N : Nat) (k0 : Int → List UInt8 → Option Res) (i3 : Int) : ∀ (n : Nat) (s : List UInt8), s.length < n → law11TailRests_L1 D N k0 n i3 s = k0 i3 (restL s) := by
  intro n
  induction n with
  | zero => intro s h; omega
  | succ n ih =>
    intro s h
    simp only [law11TailRests_L1, law11TailRests_L1s]
    cases s with
    | nil => rfl
    | cons c r =>
      simp only [List.length_cons] at h
      rw [cond_d (by simp only [List.length_cons]; omega), need_d (by omega)]
      simp only [show Int.toNat 0 = 0 from rfl, List.getElem?_cons_zero, Option.bind_some, show Int.toNat 1 = 1 from rfl, List.take_length, List.drop_succ_cons, List.drop_zero]
      unfold restL
      simp only [lead]
      by_cases hc : c.toNat = 32
      · rw [cond_eq (by omega), need_d2 (by omega) (by simp only [List.length_cons]; omega), if_pos hc, List.drop_succ_cons]
        exact ih r (by omega)
      · rw [cond_ne (by omega), if_neg hc]; rfl
theorem lead_rest (s : List UInt8) : lead (restL s) = 0 := by
  induction s with
  | nil => rfl
  | cons c r ih =>
    unfold restL at ih ⊢
    simp only [lead]
    by_cases hc : c.toNat = 32
    · rw [if_pos hc, List.drop_succ_cons]; exact ih
    · rw [if_neg hc, List.drop_zero]
      simp only [lead]; rw [if_neg hc]
theorem gap8 : ∀ k, k < 8 → (([32, 32, 32, 32, 32, 32, 32, 32] : List UInt8).take (Int.toNat (k : Nat))).drop 0 = List.replicate k 32 := by decide

set_option maxHeartbeats 1000000 in
theorem D_TailRests (x : Int) (s : List UInt8) : D id_law11TailRests [.int .i64 x, .str s] = some ⟨.bool true, false, []⟩ := by
  refine den_fn (N := 100) (F := law11TailRests) rfl rfl ?_
  rw [law11TailRests_eq]
  show law11TailRestsr D 100 x s = _
  unfold law11TailRestsr
  rw [D_Within x 8 (by omega) (by omega), show (30 : Int) = ((30 : Nat) : Int) from rfl, D_Text s 30 (by omega)]
  simp only [Option.bind_some, asI_i, asS_s]
  obtain ⟨k, hk, ek⟩ : ∃ k : Nat, k < 8 ∧ x % 8 = (k : Int) := ⟨(x % 8).toNat, by omega, by omega⟩
  have hl : (s.take 30).length ≤ 30 := by rw [List.length_take]; omega
  generalize s.take 30 = u at hl
  refine (skip11_loop 100 _ (x % 8) 100 u (by omega)).trans ?_
  have hr : (restL u).length ≤ 30 := by rw [restL_len]; omega
  have hz := lead_rest u
  generalize restL u = v at hr hz
  rw [ek]
  rw [need_d2 (by omega) (by simp; omega)]
  rw [gap8 k hk]
  rw [need_d (by simp; omega)]
  have e1 : restL (List.replicate k 32 ++ v) = v := by
    unfold restL; rw [lead_rep, hz, Nat.add_zero, List.drop_left' (by simp)]
  have e2 : restL v = v := by unfold restL; rw [hz, List.drop_zero]
  rw [D_Lend _ (by simp; omega)]
  simp only [Option.bind_some, asL_l]
  rw [D_Rest _ (by simp; omega), e1]
  simp only [Option.bind_some, need_true, asY_y, List.drop_zero, List.take_length, beq_self_eq_true, cond_true]
  rw [D_Rest v (by omega), e2]
  simp only [Option.bind_some, need_true, asY_y, List.drop_zero, List.take_length]
  rw [D_sameB _ _ (by omega), D_Spoil]
  simp only [Option.bind_some, asB_b, decide_true, Nat.beq_refl, need_true, asC_c, asN_n, as0T, asT_t, cond_true]
  rw [D_Intact _ _ (by simp; omega), D_Rest [] (by simp), D_wakes11]
  simp only [Option.bind_some, asB_b, decide_true, cond_true, need_true, asY_y]
  rfl

theorem tells11_loop (N : Nat) (k0 : List UInt8 → List UInt8 → Int → Bool → Int → Bool → Int → List UInt8 → Option Res) (s t : List UInt8) (hs : s.length ≤ 1000000) (i5 i6 : Int) (b3 b4 : Bool) (r : List UInt8) : ∀ (n i : Nat), s.length < i + n → i ≤ s.length →
    law11TailTells_L1 D N k0 n s t i5 b3 i6 b4 i r = k0 s t i5 b3 i6 b4 ((i + lead (s.drop i) : Nat) : Int) r := by
  intro n
  induction n with
  | zero => intro i h _; omega
  | succ n ih =>
    intro i h hi
    simp only [law11TailTells_L1, law11TailTells_L1s]
    by_cases hlt : i < s.length
    · rw [cond_d (by omega), need_d (by omega)]
      simp only [Int.toNat_natCast]
      rw [get_bn hlt, drop_step hlt]
      simp only [lead]
      by_cases hc : (s.getD i 0).toNat = 32
      · rw [cond_eq (by omega), if_pos hc, wrap_i64 (by omega) (by omega), show (i : Int) + 1 = ((i + 1 : Nat) : Int) by omega, ih (i + 1) (by omega) (by omega), show i + 1 + lead (s.drop (i + 1)) = i + (lead (s.drop (i + 1)) + 1) by omega]
      · rw [cond_ne (by omega), if_neg hc]; rfl
    · rw [cond_nd (by omega), List.drop_eq_nil_of_le (by omega)]; rfl
def heads11 : List (List UInt8) := [[], [45, 45, 45], [46, 46, 46], [32], [32, 32, 35], [45, 45, 45, 32], [35], [46, 46, 46, 32, 35], [45, 45], [45, 45, 45, 9]]
theorem head11 (j : Nat) (h : j < 10) : (heads11.map AV.str)[j]? = some (.str (heads11.getD j [])) ∧ (heads11.getD j []).length ≤ 5 := by
  have : ∀ j, j < 10 → (heads11.getD j []).length ≤ 5 := by decide
  refine ⟨?_, this j h⟩
  rw [List.getElem?_map, List.getD_eq_getElem?_getD]
  have : j < heads11.length := h
  rw [List.getElem?_eq_getElem this]; rfl

set_option maxHeartbeats 1000000 in
theorem D_TailTells (s : List UInt8) (x : Int) : D id_law11TailTells [.str s, .int .i64 x] = some ⟨.bool true, false, []⟩ := by
  refine den_fn (N := 100) (F := law11TailTells) rfl rfl ?_
  rw [law11TailTells_eq]
  show law11TailTellsr D 100 s x = _
  unfold law11TailTellsr
  rw [show (40 : Int) = ((40 : Nat) : Int) from rfl, D_Text s 40 (by omega), D_Within x 10 (by omega) (by omega)]
  simp only [Option.bind_some, asI_i, asS_s]
  obtain ⟨k, hk, ek⟩ : ∃ k : Nat, k < 10 ∧ x % 10 = (k : Int) := ⟨(x % 10).toNat, by omega, by omega⟩
  obtain ⟨h1, h2⟩ := head11 k hk
  have hl : (s.take 40).length ≤ 40 := by rw [List.length_take]; omega
  generalize s.take 40 = u at hl
  rw [ek, need_d (by omega), Int.toNat_natCast]
  refine (show _ = _ from congrArg (fun o => Option.bind o _) h1).trans ?_
  simp only [Option.bind_some, asS_s]
  generalize heads11.getD k [] = p at h2
  rw [need_d (by omega)]
  have hq : (p ++ u).length ≤ 45 := by rw [List.length_append]; omega
  generalize p ++ u = q at hq
  rw [D_Lend _ (by omega)]
  simp only [Option.bind_some, asL_l]
  rw [D_Comment _ (by omega), D_refComment08 _ (by omega), D_Rest _ (by omega)]
  simp only [Option.bind_some, asIBT, asT_t, asC_c, asI_i, asB_b, asN_n, need_true, asY_y]
  refine (tells11_loop 100 _ q q (by omega) _ _ _ _ (restL q) 100 0 (by omega) (by omega)).trans ?_
  rw [List.drop_zero, Nat.zero_add]
  have hll := lead_le q
  have hrl := restL_len q
  rw [need_d2 (by omega) (by omega)]
  simp only [Int.toNat_natCast, List.take_length, List.drop_zero]
  rw [D_sameB _ _ (by omega), D_Spoil]
  have e : restL q = q.drop (lead q) := rfl
  simp only [e, Option.bind_some, asB_b, decide_true, Nat.beq_refl, need_true, asC_c, asN_n, as0T, asT_t, cond_true, beq_self_eq_true]
  rw [D_Clear _ (by omega), D_refClear _ (by omega), D_Marker _ (by omega), D_refMarker08 _ (by omega), D_Intact _ _ (by omega), D_wakes11]
  simp only [Option.bind_some, asB_b, asI_i, decide_true, cond_true, beq_self_eq_true]
end Go.Proofs.YtojfiifjjgfpaaaDoor.Vf
