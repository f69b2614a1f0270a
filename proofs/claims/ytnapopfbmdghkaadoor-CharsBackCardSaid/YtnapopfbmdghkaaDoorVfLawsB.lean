
/- The laws CharsNames, CharsKinds and CharsLong come to true, whatever the input. No condition but what a Go byte is. -/
import Derived.Test.YtnapopfbmdghkaaDoorVfLawsA
namespace Go.Proofs.YtnapopfbmdghkaaDoor.Vf
set_option linter.unusedVariables false
set_option linter.unusedSimpArgs false

theorem take_set_succ (s : List UInt8) (i : Nat) (x : UInt8) (h : i < s.length) : (s.set i x).take (i + 1) = s.take i ++ [x] := by
  rw [List.take_add_one, List.take_set_of_le (Nat.le_refl _), List.getElem?_set_self h]; rfl

theorem ascii_rune (c : UInt8) (r : List UInt8) (h : c.toNat < 128) : rune (c :: r) = (c.toNat, 1, true) := by rw [rune_cons, runeN_1 h]

theorem chkL_a : ∀ (k n : Nat), chkL k (List.replicate n 97) = none
  | 0, _ => rfl
  | k + 1, 0 => rfl
  | k + 1, n + 1 => by
    have hb : badAt (List.replicate (n + 1) 97) = false := by
      unfold badAt; rw [List.replicate_succ, ascii_rune _ _ (by decide)]; rfl
    simp only [chkL]
    rw [if_neg (by simp), hb, if_neg (by simp), List.replicate_succ, ascii_rune _ _ (by decide)]
    simp [chkL_a k n]

theorem long_loop (n : Nat) (hn : n ≤ 1000000) (N : Nat) (k0 : Int → Nat → List UInt8 → Option Res) (i3 : Int) : ∀ (m i : Nat) (s : List UInt8), n < i + m → i ≤ n → s.length = n →
    law01CharsLong_L1 D N k0 m i3 n n i s = k0 i3 n (s.take i ++ List.replicate (n - i) 97) := by
  intro m
  induction m with
  | zero => intro i s h _; omega
  | succ m ih =>
    intro i s h hi hs
    simp only [law01CharsLong_L1, law01CharsLong_L1s]
    by_cases hlt : i < n
    · rw [cond_d (by omega), need_d2 (by omega) (by omega), need_d2 (by omega) (by omega)]
      have hb : (Nat.beq 0 0 && decide (0 + Int.toNat (i : Int) < s.length) && Nat.beq 1 1) = true := by simp; omega
      rw [hb, need_true, wrap_i64 (by omega) (by omega), show (i : Int) + 1 = ((i + 1 : Nat) : Int) by omega]
      simp only [Int.toNat_natCast, Nat.zero_add]
      rw [ih (i + 1) _ (by omega) (by omega) (by simp [hs]), take_set_succ s i _ (by omega), show n - i = (n - (i + 1)) + 1 by omega, List.replicate_succ, List.append_assoc]
      rfl
    · rw [cond_nd (by omega), show n - i = 0 by omega, List.take_of_length_le (by omega)]; simp

theorem D_CharsLong (v : Int) : D id_law01CharsLong [.int .i64 v] = some ⟨.bool true, false, []⟩ := by
  refine den_fn (N := 65540) (F := law01CharsLong) rfl rfl ?_
  rw [law01CharsLong_eq]
  show law01CharsLongr D 65540 v = _
  unfold law01CharsLongr
  rw [D_Within _ _ (by omega) (by omega)]
  simp only [Option.bind_some, asI_i]
  have h0 := Int.emod_nonneg v (b := 3) (by omega)
  have h1 := Int.emod_lt_of_pos v (b := 3) (by omega)
  obtain ⟨n, hn⟩ : ∃ n : Nat, 65535 + v % 3 = n := ⟨(65535 + v % 3).toNat, by omega⟩
  rw [wrap_i64 (by omega) (by omega), hn, need_d2 (by omega) (by omega)]
  simp only [Int.toNat_natCast]
  rw [show (0 : Int) = ((0 : Nat) : Int) from rfl, long_loop n (by omega) _ _ _ 65540 0 _ (by omega) (by omega) (by simp)]
  simp only [List.take_zero, List.nil_append, Nat.sub_zero, List.drop_zero]
  rw [List.take_of_length_le (by simp), D_Check _ (by simp; omega)]
  simp only [Option.bind_some, asIIT, asT_t, asC_c, asI_i, asN_n, D_wakes, asB_b]
  have hbom : bom (List.replicate n 97) = 0 := by
    unfold bom; rw [if_neg]; intro h
    have := h.2
    rw [show n = (n - 3) + 3 by omega] at this
    simp [List.replicate_succ] at this
  have hc : checkP (List.replicate n 97) = if 65536 < n then (65536, 10) else (0, 0) := by
    unfold checkP chk; rw [hbom, List.drop_zero, chkL_a]; simp
  by_cases hl : 65536 < n
  · rw [hc, if_pos hl, cond_d (by omega)]; rfl
  · rw [hc, if_neg hl, cond_nd (by omega)]; rfl

theorem kinds1_loop (vs : List Int) (hl : vs.length ≤ 1000) (N : Nat) (k0 : Bool → Option Res) (k1 : Int → Option Res) (x : Int) : ∀ (m i : Nat), vs.length < i + m → i ≤ vs.length →
    law01CharsKinds_L1 D N k0 k1 m x (vs.map fun v => AV.int .i32 v) vs.length i = if (vs.drop i).all printable = true then k1 x else k0 false := by
  intro m
  induction m with
  | zero => intro i h _; omega
  | succ m ih =>
    intro i h hi
    simp only [law01CharsKinds_L1, law01CharsKinds_L1s]
    by_cases hlt : i < vs.length
    · rw [cond_d (by omega), need_d (by omega)]
      simp only [Int.toNat_natCast, List.getElem?_map, List.getElem?_eq_getElem hlt, Option.map_some, Option.bind_some, asI_i, D_Printable, asB_b]
      rw [wrap_i64 (by omega) (by omega), show (i : Int) + 1 = ((i + 1 : Nat) : Int) by omega, List.drop_eq_getElem_cons hlt, List.all_cons]
      cases hp : printable vs[i]
      · rfl
      · rw [ih (i + 1) (by omega) (by omega)]; simp
    · rw [cond_nd (by omega), List.drop_eq_nil_of_le (by omega)]; simp

theorem kinds2_loop (vs : List Int) (hl : vs.length ≤ 1000) (N : Nat) (k0 : Bool → Option Res) (k1 : Int → Option Res) (x : Int) : ∀ (m i : Nat), vs.length < i + m → i ≤ vs.length →
    law01CharsKinds_L2 D N k0 k1 m x (vs.map fun v => AV.int .i32 v) vs.length i = if (vs.drop i).all (fun v => !printable v) = true then k1 x else k0 false := by
  intro m
  induction m with
  | zero => intro i h _; omega
  | succ m ih =>
    intro i h hi
    simp only [law01CharsKinds_L2, law01CharsKinds_L2s]
    by_cases hlt : i < vs.length
    · rw [cond_d (by omega), need_d (by omega)]
      simp only [Int.toNat_natCast, List.getElem?_map, List.getElem?_eq_getElem hlt, Option.map_some, Option.bind_some, asI_i, D_Printable, asB_b]
      rw [wrap_i64 (by omega) (by omega), show (i : Int) + 1 = ((i + 1 : Nat) : Int) by omega, List.drop_eq_getElem_cons hlt, List.all_cons]
      cases hp : printable vs[i]
      · rw [ih (i + 1) (by omega) (by omega)]; simp
      · rfl
    · rw [cond_nd (by omega), List.drop_eq_nil_of_le (by omega)]; simp

theorem D_CharsKinds (v : Int) : D id_law01CharsKinds [.int .i64 v] = some ⟨.bool true, false, []⟩ := by
  refine den_fn (N := 40) (F := law01CharsKinds) rfl rfl ?_
  rw [law01CharsKinds_eq]
  show law01CharsKindsr D 40 v = _
  unfold law01CharsKindsr
  refine (kinds1_loop [9, 10, 13, 32, 126, 133, 160, 55295, 57344, 65278, 65533, 65536, 1114111] (by simp) 40 _ _ v 40 0 (by simp) (by simp)).trans ?_
  rw [if_pos (by decide)]
  refine (kinds2_loop [-1, 0, 8, 11, 12, 14, 31, 127, 128, 132, 134, 159, 55296, 57343, 65279, 65534, 65535, 1114112] (by simp) 40 _ _ v 40 0 (by simp) (by simp)).trans ?_
  rw [if_pos (by decide), D_Within _ _ (by omega) (by omega)]
  have h0 := Int.emod_nonneg v (b := 94) (by omega)
  have h1 := Int.emod_lt_of_pos v (b := 94) (by omega)
  simp only [Option.bind_some, asI_i, D_Printable, D_Space, D_Digit, D_wakes, asB_b]
  rw [wrap_i64 (by omega) (by omega), wrap_i32 (by omega) (by omega)]
  have hp : printable (33 + v % 94) = true := by unfold printable; rw [decide_eq_true_eq]; omega
  rw [hp]; rfl

theorem letters_append (a b : List UInt8) : letters (a ++ b) = (letters a && letters b) := by simp [letters]
theorem letters_set {s : List UInt8} (h : letters s = true) (k : Nat) (hk : k < s.length) (c : UInt8) : letters (s.set k c) = letter c.toNat := by
  rw [List.set_eq_take_append_cons_drop, if_pos hk, letters_append, letters_cons]
  have h1 : letters (s.take k) = true ∧ letters (s.drop (k + 1)) = true := by
    have e : s.take (k + 1) ++ s.drop (k + 1) = s := List.take_append_drop _ _
    have e2 : s.take k ++ s.drop k = s := List.take_append_drop _ _
    rw [← e, letters_append, Bool.and_eq_true] at h
    refine ⟨?_, h.2⟩
    have := h.1
    rw [List.take_add_one, letters_append, Bool.and_eq_true] at this
    exact this.1
  rw [h1.1, h1.2]; simp

theorem names_loop (n : Nat) (hn : n ≤ 1000) (N : Nat) (k0 : Int → Int → Int → Nat → List UInt8 → Option Res) (x y z : Int) : ∀ (m i : Nat) (s : List UInt8), n < i + m → i ≤ n → s.length = n → letters (s.take i) = true →
    ∃ s', s'.length = n ∧ letters s' = true ∧ law01CharsNames_L1 D N k0 m x y z n n i s = k0 x y z n s' := by
  intro m
  induction m with
  | zero => intro i s h _; omega
  | succ m ih =>
    intro i s h hi hs hl
    simp only [law01CharsNames_L1, law01CharsNames_L1s]
    by_cases hlt : i < n
    · have e5 : Int.tmod (i : Int) 5 = ((i % 5 : Nat) : Int) := by rw [Int.tmod_eq_emod_of_nonneg (by omega)]; omega
      rw [cond_d (by omega), need_nd (by omega), e5, need_d (by omega)]
      simp only [Int.toNat_natCast]
      have hlen : i % 5 < ([97, 90, 48, 45, 95] : List UInt8).length := by simp; omega
      rw [get_bn hlen]
      generalize hc : ([97, 90, 48, 45, 95] : List UInt8).getD (i % 5) 0 = c
      have hlc : letter c.toNat = true := by
        rw [← hc]
        match i % 5, (show i % 5 < 5 by omega) with
        | 0, _ => rfl
        | 1, _ => rfl
        | 2, _ => rfl
        | 3, _ => rfl
        | 4, _ => rfl
      have hcl := byte_lt c
      have hb : (Nat.beq 0 0 && decide (0 + i < s.length) && Nat.beq 1 1) = true := by simp; omega
      rw [need_d2 (by omega) (by omega), need_d2 (by omega) (by omega), hb, need_true, wrap_i64 (by omega) (by omega), show (i : Int) + 1 = ((i + 1 : Nat) : Int) by omega, Nat.zero_add]
      refine ih (i + 1) _ (by omega) (by omega) (by simp [hs]) ?_
      rw [take_set_succ s i _ (by omega), letters_append, hl, show UInt8.ofNat c.toNat = c by simp]
      simp [letters, hlc]
    · rw [cond_nd (by omega)]
      exact ⟨s, hs, by rwa [List.take_of_length_le (by omega)] at hl, rfl⟩

theorem D_CharsNames (v at_ c : Int) (hc0 : 0 ≤ c) (hc1 : c ≤ 255) : D id_law01CharsNames [.int .i64 v, .int .i64 at_, .int .u8 c] = some ⟨.bool true, false, []⟩ := by
  refine den_fn (N := 40) (F := law01CharsNames) rfl rfl ?_
  rw [law01CharsNames_eq]
  show law01CharsNamesr D 40 v at_ c = _
  unfold law01CharsNamesr
  rw [D_Within _ _ (by omega) (by omega)]
  simp only [Option.bind_some, asI_i]
  have h0 := Int.emod_nonneg v (b := 36) (by omega)
  have h1 := Int.emod_lt_of_pos v (b := 36) (by omega)
  obtain ⟨n, hn⟩ : ∃ n : Nat, v % 36 = n := ⟨(v % 36).toNat, by omega⟩
  rw [hn, need_d2 (by omega) (by omega)]
  simp only [Int.toNat_natCast]
  obtain ⟨s, hs, hl, he⟩ := names_loop n (by omega) 40 (fun i16 i17 i18 n4 s4 => _) (n : Int) at_ c 40 0 (List.replicate n 0) (by omega) (by omega) (by simp) (by simp [letters])
  refine (show _ = _ from he).trans ?_
  simp only [List.drop_zero]
  rw [List.take_of_length_le (by omega), D_Name s (by omega)]
  simp only [Option.bind_some, asB_b]
  have hname : nameP s = decide (1 ≤ n ∧ n ≤ 32) := by unfold nameP; rw [hl, hs]; simp
  rw [hname]
  by_cases hz : n = 0
  · subst hz; rw [D_wakes]; rfl
  · have e1 : decide (1 ≤ n ∧ n ≤ 32) = decide ((n : Int) ≤ 32) := by rw [Bool.eq_iff_iff]; simp only [decide_eq_true_eq]; omega
    rw [cond_d (by omega), e1, D_Within _ _ (by omega) (by omega)]
    have h2 := Int.emod_nonneg at_ (b := (n : Int)) (by omega)
    have h3 := Int.emod_lt_of_pos at_ (b := (n : Int)) (by omega)
    simp only [beq_self_eq_true, Bool.not_true, cond_false, Option.bind_some, asI_i]
    generalize at_ % (n : Int) = k at h2 h3
    have hb : (Nat.beq 0 0 && decide (0 + Int.toNat k < s.length) && Nat.beq 1 1) = true := by simp; omega
    rw [cond_ne (by omega), need_d2 (by omega) (by omega), need_d2 (by omega) (by omega), hb]
    have hset : nameP (s.set (0 + Int.toNat k) (UInt8.ofNat (Int.toNat c))) = (letter c && decide ((n : Int) ≤ 32)) := by
      unfold nameP
      rw [letters_set hl _ (by omega), List.length_set, hs]
      have : ((UInt8.ofNat (Int.toNat c)).toNat : Int) = c := by simp; omega
      rw [this, e1]
    rw [List.take_of_length_le (by simp; omega), D_Name _ (by simp; omega), hset, D_wakes]
    simp only [need_true, Option.bind_some, asB_b]
    generalize decide ((n : Int) ≤ 32) = b
    have hlet : letter c = decide ((97 ≤ c ∧ c ≤ 122) ∨ (65 ≤ c ∧ c ≤ 90) ∨ (48 ≤ c ∧ c ≤ 57) ∨ c = 45 ∨ c = 95) := rfl
    by_cases hcl : letter c = true
    · rw [hcl]
      rw [hlet, decide_eq_true_eq] at hcl
      rcases hcl with h | h | h | h | h <;> simp (disch := omega) only [cond_d, cond_nd, cond_eq, cond_ne, Bool.true_and, beq_self_eq_true, cond_true]
    · rw [Bool.not_eq_true] at hcl
      rw [hcl]
      rw [hlet, decide_eq_false_iff_not] at hcl
      have hg : c < 45 ∨ (45 < c ∧ c < 48) ∨ (57 < c ∧ c < 65) ∨ (90 < c ∧ c < 95) ∨ (95 < c ∧ c < 97) ∨ 122 < c := by omega
      rcases hg with h | h | h | h | h | h <;> simp (disch := omega) only [cond_d, cond_nd, cond_eq, cond_ne, Bool.false_and, beq_self_eq_true, cond_true]
end Go.Proofs.YtnapopfbmdghkaaDoor.Vf
