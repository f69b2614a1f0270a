
/- The laws TailMarkers and TailComments come to true, whatever the input. No condition but a byte's range. -/
import Derived.Test.YtojfiifjjgfpaaaDoorVfTail
namespace Go.Proofs.YtojfiifjjgfpaaaDoor.Vf
set_option linter.unusedVariables false
set_option linter.unusedSimpArgs false

theorem lead_rep (t : List UInt8) : ∀ k, lead (List.replicate k 32 ++ t) = k + lead t
  | 0 => by simp
  | k + 1 => by
    rw [List.replicate_succ, List.cons_append]
    simp only [lead]
    rw [if_pos (by decide), lead_rep t k]; omega
theorem getD_rep (t : List UInt8) (k : Nat) : (List.replicate k (32 : UInt8) ++ t).getD k 0 = t.getD 0 0 := by
  rw [List.getD_eq_getElem?_getD, List.getElem?_append_right (by simp)]; simp [List.getD]
/-- Blanks, and something that is no blank. -/
theorem clear_rep (k : Nat) (c : UInt8) (t : List UInt8) (hc : c.toNat ≠ 32) : clearL (List.replicate k 32 ++ (c :: t)) = (decide (0 < k) && decide (c.toNat = 35)) ∧ isCom (List.replicate k 32 ++ (c :: t)) = (decide (0 < k) && decide (c.toNat = 35)) ∧ lead (List.replicate k 32 ++ (c :: t)) = k := by
  have e : lead (c :: t) = 0 := by simp only [lead]; rw [if_neg hc]
  have e1 : lead (List.replicate k 32 ++ (c :: t)) = k := by rw [lead_rep, e]; rfl
  have e2 : isCom (List.replicate k 32 ++ (c :: t)) = (decide (0 < k) && decide (c.toNat = 35)) := by
    unfold isCom
    rw [e1, getD_rep]
    have : decide (k < (List.replicate k (32 : UInt8) ++ (c :: t)).length) = true := by simp
    rw [this, Bool.and_true]; rfl
  refine ⟨?_, e2, e1⟩
  unfold clearL
  rw [e2, e1]
  have : decide (k = (List.replicate k (32 : UInt8) ++ (c :: t)).length) = false := by simp
  rw [this, Bool.or_false]
theorem clear_blank (k : Nat) : clearL (List.replicate k 32) = true := by
  unfold clearL
  have := lead_rep [] k
  rw [List.append_nil] at this
  rw [this]; simp [lead]

def sgn3 (e : Bool) : List UInt8 := bif e then [46, 46, 46] else [45, 45, 45]
def sgnK (e : Bool) : Int := bif e then 2 else 1
theorem markL_app (e : Bool) (r : List UInt8) : markL (sgn3 e ++ r) = if clearL r = true then sgnK e else if (r.getD 0 0).toNat = 32 ∨ (r.getD 0 0).toNat = 9 then 3 else 0 := by
  cases e
  · have h1 : (decide (3 ≤ (sgn3 false ++ r).length) && (sgn3 false ++ r).take 3 == [45, 45, 45]) = true := by simp [sgn3]
    have h2 : (decide (3 ≤ (sgn3 false ++ r).length) && (sgn3 false ++ r).take 3 == [46, 46, 46]) = false := by simp [sgn3]
    have h3 : (sgn3 false ++ r).drop 3 = r := by simp [sgn3]
    unfold markL markK
    rw [h1, h2, h3]
    simp only [if_true, Bool.false_eq_true, if_false, Option.or_none]
    split
    · rfl
    · split <;> rfl
  · have h1 : (decide (3 ≤ (sgn3 true ++ r).length) && (sgn3 true ++ r).take 3 == [45, 45, 45]) = false := by simp [sgn3]
    have h2 : (decide (3 ≤ (sgn3 true ++ r).length) && (sgn3 true ++ r).take 3 == [46, 46, 46]) = true := by simp [sgn3]
    have h3 : (sgn3 true ++ r).drop 3 = r := by simp [sgn3]
    unfold markL markK
    rw [h1, h2, h3]
    simp only [if_true, Bool.false_eq_true, if_false, Option.none_or]
    split
    · rfl
    · split <;> rfl

def nobr (c : UInt8) : Bool := decide (c.toNat ≠ 10) && decide (c.toNat ≠ 13)
theorem mark_loop (N : Nat) (k0 : List UInt8 → Int → List UInt8 → List UInt8 → Option Res) (m : List UInt8) (x : Int) (g s : List UInt8) (hs : s.length ≤ 1000) : ∀ (n i : Nat) (o : List UInt8), s.length < i + n → i ≤ s.length → o.length ≤ i + 2 →
    law11TailMarkers_L1 D N k0 n m x g o s (s.length : Int) i = k0 m x g (o ++ (s.drop i).filter nobr) := by
  intro n
  induction n with
  | zero => intro i o h _; omega
  | succ n ih =>
    intro i o h hi ho
    simp only [law11TailMarkers_L1, law11TailMarkers_L1s]
    by_cases hlt : i < s.length
    · have hc := byte_lt (s.getD i 0)
      rw [cond_d (by omega)]
      simp only [need_d (show (0 : Int) ≤ (i : Int) by omega), Int.toNat_natCast, get_bn hlt, UInt8.ofNat_toNat]
      rw [drop_step hlt, wrap_i64 (by omega) (by omega), show (i : Int) + 1 = ((i + 1 : Nat) : Int) by omega]
      generalize s.getD i 0 = c at hc ⊢
      have hno : nobr c = false → k0 m x g (o ++ (s.drop (i + 1)).filter nobr) = k0 m x g (o ++ (c :: s.drop (i + 1)).filter nobr) := fun h => by rw [List.filter_cons_of_neg (by rw [h]; decide)]
      by_cases h10 : c.toNat = 10
      · rw [cond_beq (by omega), ih (i + 1) o (by omega) (by omega) (by omega)]
        exact hno (by simp [nobr, h10])
      rw [cond_bne (by omega)]
      by_cases h13 : c.toNat = 13
      · rw [cond_beq (by omega), ih (i + 1) o (by omega) (by omega) (by omega)]
        exact hno (by simp [nobr, h13])
      rw [cond_bne (by omega), need_d2 (by omega) (by omega), need_d (by simp; omega), ih (i + 1) _ (by omega) (by omega) (by simp; omega), List.filter_cons_of_pos (by simp [nobr, h10, h13])]
      simp
    · rw [cond_nd (by omega), List.drop_eq_nil_of_le (by omega)]; simp

theorem gap6 : ∀ k, k < 6 → (([32, 32, 32, 32, 32, 32] : List UInt8).take (Int.toNat (k : Nat))).drop 0 = List.replicate k 32 := by decide

theorem mod6 (x : Int) : ∃ k : Nat, x % 6 = (k : Int) ∧ k < 6 := by
  have h4 := Int.emod_nonneg x (b := 6) (by omega)
  have h5 := Int.emod_lt_of_pos x (b := 6) (by omega)
  exact ⟨(x % 6).toNat, by omega, by omega⟩

theorem D_TailMarkers (x : Int) (s : List UInt8) (e : Bool) : D id_law11TailMarkers [.int .i64 x, .str s, .bool e] = some ⟨.bool true, false, []⟩ := by
  refine den_fn (N := 100) (F := law11TailMarkers) rfl rfl ?_
  rw [law11TailMarkers_eq]
  show law11TailMarkersr D 100 x s e = _
  unfold law11TailMarkersr
  rw [show (12 : Int) = ((12 : Nat) : Int) from rfl, D_Text s 12 (by omega), D_Within x 6 (by omega) (by omega)]
  have hs : (s.take 12).length ≤ 12 := by simp; omega
  generalize s.take 12 = s at hs
  obtain ⟨k, hk, hk6⟩ := mod6 x
  rw [hk]
  simp only [Option.bind_some, asS_s, asI_i]
  have hf : (s.filter nobr).length ≤ 12 := Nat.le_trans (List.length_filter_le _ _) hs
  have hloop := fun (k0 : List UInt8 → Int → List UInt8 → List UInt8 → Option Res) (m : List UInt8) (y : Int) (g : List UInt8) => mark_loop 100 k0 m y g s (by omega) 100 0 [35, 32] (by omega) (by omega) (by simp)
  rw [List.drop_zero] at hloop
  generalize s.filter nobr = f at hf hloop
  have c1 : clearL (List.replicate k 32) = true := clear_blank k
  have c2 : clearL ([32] ++ List.replicate k 32 ++ ([35, 32] ++ f)) = true := by
    have := (clear_rep (k + 1) 35 ([32] ++ f) (by decide)).1
    rw [List.replicate_succ] at this
    exact this
  have c3 : clearL ([35, 32] ++ f) = false := (clear_rep 0 35 ([32] ++ f) (by decide)).1
  have c4 : clearL ([32] ++ List.replicate k 32 ++ [120]) = false := by
    have := (clear_rep (k + 1) 120 [] (by decide)).1
    rw [List.replicate_succ] at this
    exact this
  have fin : ∀ e : Bool, 
      ((D id_tailMarker [AV.bytes (sgn3 e)]).bind fun r14 =>
        asI .i64 r14.v fun i19 =>
        bif (i19 : Int) == sgnK e then
          (need (decide ((sgn3 e).length + (List.replicate k (32 : UInt8)).length ≤ 9223372036854775807)) <|
          (D id_tailMarker [AV.bytes (sgn3 e ++ List.replicate k 32)]).bind fun r15 =>
          asI .i64 r15.v fun i20 =>
          bif (i20 : Int) == sgnK e then
            (need (decide ((sgn3 e).length + (([32] : List UInt8) : List UInt8).length ≤ 9223372036854775807)) <|
            need (decide ((sgn3 e ++ ([32] : List UInt8)).length + (List.replicate k (32 : UInt8)).length ≤ 9223372036854775807)) <|
            need (decide (((sgn3 e ++ ([32] : List UInt8)) ++ List.replicate k 32).length + ([35, 32] ++ f).length ≤ 9223372036854775807)) <|
            (D id_tailMarker [AV.bytes (((sgn3 e ++ ([32] : List UInt8)) ++ List.replicate k 32) ++ ([35, 32] ++ f))]).bind fun r16 =>
            asI .i64 r16.v fun i21 =>
            bif (i21 : Int) == sgnK e then
              (need (decide ((sgn3 e).length + ([35, 32] ++ f).length ≤ 9223372036854775807)) <|
              (D id_tailMarker [AV.bytes (sgn3 e ++ ([35, 32] ++ f))]).bind fun r17 =>
              asI .i64 r17.v fun i22 =>
              bif (i22 : Int) == 0 then
                (need (decide ((sgn3 e).length + (([32] : List UInt8) : List UInt8).length ≤ 9223372036854775807)) <|
                need (decide ((sgn3 e ++ ([32] : List UInt8)).length + (List.replicate k (32 : UInt8)).length ≤ 9223372036854775807)) <|
                need (decide (((sgn3 e ++ ([32] : List UInt8)) ++ List.replicate k 32).length + (([120] : List UInt8) : List UInt8).length ≤ 9223372036854775807)) <|
                (D id_tailMarker [AV.bytes (((sgn3 e ++ ([32] : List UInt8)) ++ List.replicate k 32) ++ ([120] : List UInt8))]).bind fun r18 =>
                asI .i64 r18.v fun i23 =>
                bif (i23 : Int) == 3 then
                  (need (decide ((sgn3 e).length + (([9] : List UInt8) : List UInt8).length ≤ 9223372036854775807)) <|
                  (D id_tailMarker [AV.bytes (sgn3 e ++ ([9] : List UInt8))]).bind fun r19 =>
                  asI .i64 r19.v fun i24 =>
                  bif (i24 : Int) == 3 then
                    (need (decide (0 ≤ (2 : Int)) && decide ((2 : Int) ≤ (((sgn3 e).length : Nat) : Int))) <|
                    (D id_tailMarker [AV.bytes (((sgn3 e).take (Int.toNat 2)).drop 0)]).bind fun r20 =>
                    asI .i64 r20.v fun i25 =>
                    bif (i25 : Int) == 0 then
                      (need (decide (0 ≤ (2 : Int)) && decide ((2 : Int) ≤ (((sgn3 e).length : Nat) : Int))) <|
                      need (decide ((([45] : List UInt8) : List UInt8).length + (((sgn3 e).take (Int.toNat 2)).drop 0).length ≤ 9223372036854775807)) <|
                      need (decide ((([45] : List UInt8) ++ (((sgn3 e).take (Int.toNat 2)).drop 0) : List UInt8).length + (([120] : List UInt8) : List UInt8).length ≤ 9223372036854775807)) <|
                      (D id_tailMarker [AV.bytes ((([45] : List UInt8) ++ (((sgn3 e).take (Int.toNat 2)).drop 0)) ++ ([120] : List UInt8))]).bind fun r21 =>
                      asI .i64 r21.v fun i26 =>
                      bif (i26 : Int) == 0 then
                        ((D id_law11Wakes []).bind fun r22 =>
                        asB r22.v fun b3 =>
                        some ⟨AV.bool b3, false, []⟩)
                      else
                        some ⟨AV.bool false, false, []⟩)
                    else
                      some ⟨AV.bool false, false, []⟩)
                  else
                    some ⟨AV.bool false, false, []⟩)
                else
                  some ⟨AV.bool false, false, []⟩)
              else
                some ⟨AV.bool false, false, []⟩)
            else
              some ⟨AV.bool false, false, []⟩)
          else
            some ⟨AV.bool false, false, []⟩)
        else
          some ⟨AV.bool false, false, []⟩) = some (⟨.bool true, false, []⟩ : Res) := by
    intro e
    have hl3 : (sgn3 e).length = 3 := by cases e <;> rfl
    have m0 : markL (sgn3 e) = sgnK e := by
      have := markL_app e []
      rw [List.append_nil] at this
      rw [this]; rfl
    have m1 : markL (sgn3 e ++ List.replicate k 32) = sgnK e := by rw [markL_app, if_pos c1]
    have m2 : markL (((sgn3 e ++ ([32] : List UInt8)) ++ List.replicate k 32) ++ ([35, 32] ++ f)) = sgnK e := by
      rw [List.append_assoc (sgn3 e), List.append_assoc (sgn3 e), markL_app, if_pos c2]
    have m3 : markL (sgn3 e ++ ([35, 32] ++ f)) = 0 := by
      rw [markL_app, if_neg (by rw [c3]; decide)]
      exact if_neg (show ¬ ((35 : UInt8).toNat = 32 ∨ (35 : UInt8).toNat = 9) by decide)
    have m4 : markL (((sgn3 e ++ ([32] : List UInt8)) ++ List.replicate k 32) ++ ([120] : List UInt8)) = 3 := by
      rw [List.append_assoc (sgn3 e), List.append_assoc (sgn3 e), markL_app, if_neg (by rw [c4]; decide), if_pos (.inl rfl)]
    have m5 : markL (sgn3 e ++ [9]) = 3 := by rw [markL_app]; rfl
    have m6 : markL (((sgn3 e).take (Int.toNat 2)).drop 0) = 0 := by cases e <;> decide
    have m7 : markL ((([45] : List UInt8) ++ (((sgn3 e).take (Int.toNat 2)).drop 0)) ++ ([120] : List UInt8)) = 0 := by cases e <;> decide
    have hl6 : (((sgn3 e).take (Int.toNat 2)).drop 0).length = 2 := by cases e <;> rfl
    simp (disch := ((try simp only [List.length_append, List.length_cons, List.length_nil, List.length_replicate, hl3, hl6]); omega)) only [need_d, need_d2, D_Marker, m0, m1, m2, m3, m4, m5, m6, m7, Option.bind_some, asI_i, asB_b, beq_self_eq_true, cond_true, D_wakes11]
  cases e
  · rw [cond_false, need_d2 (by omega) (by simp; omega), gap6 k hk6]
    refine (hloop _ _ _ _).trans ?_
    exact fin false
  · rw [cond_true, need_d2 (by omega) (by simp; omega), gap6 k hk6]
    refine (hloop _ _ _ _).trans ?_
    exact fin true

theorem com_loop (N : Nat) (k0 : Int → List UInt8 → Int → List UInt8 → Option Res) (k : Nat) (s : List UInt8) (x : Int) (hk : k < 6) : ∀ (n i : Nat), k < i + n → i ≤ k →
    law11TailComments_L1 D N k0 n (k : Int) s x (List.replicate i 32) i = k0 k s x (List.replicate k 32) := by
  intro n
  induction n with
  | zero => intro i h _; omega
  | succ n ih =>
    intro i h hi
    simp only [law11TailComments_L1, law11TailComments_L1s]
    by_cases hlt : i < k
    · rw [cond_d (by omega), need_d (by simp; omega), wrap_i64 (by omega) (by omega), show (i : Int) + 1 = ((i + 1 : Nat) : Int) by omega]
      have e : List.replicate i (32 : UInt8) ++ [32] = List.replicate (i + 1) 32 := by rw [List.replicate_succ']
      rw [e]
      exact ih (i + 1) (by omega) (by omega)
    · rw [cond_nd (by omega)]
      obtain rfl : i = k := by omega
      rfl

theorem D_TailComments (x : Int) (s : List UInt8) (c : Int) (hc0 : 0 ≤ c) (hc1 : c ≤ 255) : D id_law11TailComments [.int .i64 x, .str s, .int .u8 c] = some ⟨.bool true, false, []⟩ := by
  refine den_fn (N := 100) (F := law11TailComments) rfl rfl ?_
  rw [law11TailComments_eq]
  show law11TailCommentsr D 100 x s c = _
  unfold law11TailCommentsr
  rw [show (20 : Int) = ((20 : Nat) : Int) from rfl, D_Text s 20 (by omega), D_Within x 6 (by omega) (by omega)]
  have hs : (s.take 20).length ≤ 20 := by simp; omega
  generalize s.take 20 = s at hs
  obtain ⟨k, hk, hk6⟩ := mod6 x
  rw [hk]
  simp only [Option.bind_some, asS_s, asI_i]
  refine (com_loop 100 _ k s c hk6 100 0 (by omega) (by omega)).trans ?_
  have hrl : (List.replicate k (32 : UInt8)).length = k := by simp
  have e1 : (List.replicate k (32 : UInt8) ++ [35]) ++ s = List.replicate k 32 ++ (35 :: s) := by simp
  obtain ⟨a1, a2, a3⟩ := clear_rep k 35 s (by decide)
  have hdec : (decide ((k : Int) > 0)) = decide (0 < k) := by rw [Bool.eq_iff_iff]; simp
  rw [need_d (by simp; omega), need_d (by simp; omega), e1, D_Comment _ (by simp; omega), D_Clear _ (by simp; omega), D_Clear _ (by simp; omega), clear_blank k, a1, a2, a3, hdec]
  simp only [Option.bind_some, asIBT, asT_t, asC_c, asN_n, asI_i, asB_b, Bool.not_true, cond_false]
  have e35 : decide ((35 : UInt8).toNat = 35) = true := by decide
  rw [e35, Bool.and_true, beq_self_eq_true, Bool.not_true, cond_false, D_wakes11]
  simp only [Option.bind_some, asB_b]
  have fin :
      (bif (c : Int) == 32 then (some ⟨AV.bool true, false, []⟩) else
        bif (c : Int) == 35 then (some ⟨AV.bool true, false, []⟩) else
                  need (decide (0 ≤ (c : Int)) && decide ((c : Int) < 256)) <|
                  need (decide ((List.replicate k (32 : UInt8)).length + ([UInt8.ofNat (Int.toNat c)] : List UInt8).length ≤ 9223372036854775807)) <|
                  need (decide ((List.replicate k (32 : UInt8) ++ [UInt8.ofNat (Int.toNat c)]).length + s.length ≤ 9223372036854775807)) <|
                  (D id_tailClear [AV.bytes ((List.replicate k (32 : UInt8) ++ [UInt8.ofNat (Int.toNat c)]) ++ s)]).bind fun r18 =>
                  asB r18.v fun b10 =>
                  bif !b10 then
                    (need (decide ((([45, 45, 45] : List UInt8) : List UInt8).length + (List.replicate k (32 : UInt8)).length ≤ 9223372036854775807)) <|
                    (D id_tailMarker [AV.bytes (([45, 45, 45] : List UInt8) ++ List.replicate k (32 : UInt8))]).bind fun r19 =>
                    asI .i64 r19.v fun i20 =>
                    bif (i20 : Int) == 1 then
                      (need (decide ((([46, 46, 46] : List UInt8) : List UInt8).length + (List.replicate k (32 : UInt8)).length ≤ 9223372036854775807)) <|
                      (D id_tailMarker [AV.bytes (([46, 46, 46] : List UInt8) ++ List.replicate k (32 : UInt8))]).bind fun r20 =>
                      asI .i64 r20.v fun i21 =>
                      bif (i21 : Int) == 2 then
                        (need (decide ((([45, 45] : List UInt8) : List UInt8).length + (List.replicate k (32 : UInt8)).length ≤ 9223372036854775807)) <|
                        (D id_tailMarker [AV.bytes (([45, 45] : List UInt8) ++ List.replicate k (32 : UInt8))]).bind fun r11 =>
                        asI .i64 r11.v fun i16 =>
                        bif (i16 : Int) == 0 then
                          (need (decide ((([45, 45, 45, 32, 120] : List UInt8) : List UInt8).length + s.length ≤ 9223372036854775807)) <|
                          (D id_tailMarker [AV.bytes (([45, 45, 45, 32, 120] : List UInt8) ++ s)]).bind fun r12 =>
                          asI .i64 r12.v fun i17 =>
                          bif (i17 : Int) == 3 then
                            (need (decide ((([45, 45, 45, 120] : List UInt8) : List UInt8).length + s.length ≤ 9223372036854775807)) <|
                            (D id_tailMarker [AV.bytes (([45, 45, 45, 120] : List UInt8) ++ s)]).bind fun r13 =>
                            asI .i64 r13.v fun i18 =>
                            bif (i18 : Int) == 0 then
                              (need (decide ((([32, 45, 45, 45] : List UInt8) : List UInt8).length + (List.replicate k (32 : UInt8)).length ≤ 9223372036854775807)) <|
                              (D id_tailMarker [AV.bytes (([32, 45, 45, 45] : List UInt8) ++ List.replicate k (32 : UInt8))]).bind fun r14 =>
                              asI .i64 r14.v fun i19 =>
                              bif (i19 : Int) == 0 then
                                (some ⟨AV.bool true, false, []⟩)
                              else
                                some ⟨AV.bool false, false, []⟩)
                            else
                              some ⟨AV.bool false, false, []⟩)
                          else
                            some ⟨AV.bool false, false, []⟩)
                        else
                          some ⟨AV.bool false, false, []⟩)
                      else
                        some ⟨AV.bool false, false, []⟩)
                    else
                      some ⟨AV.bool false, false, []⟩)
                  else
                    some ⟨AV.bool false, false, []⟩) = some (⟨.bool true, false, []⟩ : Res) := by
    by_cases h32 : c = 32
    · rw [cond_eq h32]
    rw [cond_ne h32]
    by_cases h35 : c = 35
    · rw [cond_eq h35]
    rw [cond_ne h35, need_d2 (by omega) (by omega), need_d (by simp; omega), need_d (by simp; omega)]
    have hb : (UInt8.ofNat (Int.toNat c)).toNat = c.toNat := by simp; omega
    obtain ⟨b1, _, _⟩ := clear_rep k (UInt8.ofNat (Int.toNat c)) s (by omega)
    have e2 : (List.replicate k (32 : UInt8) ++ [UInt8.ofNat (Int.toNat c)]) ++ s = List.replicate k 32 ++ (UInt8.ofNat (Int.toNat c) :: s) := by simp
    rw [e2, D_Clear _ (by simp; omega), b1, hb, decide_eq_false (show ¬ c.toNat = 35 by omega), Bool.and_false]
    simp only [Option.bind_some, asB_b, Bool.not_false, cond_true]
    have n1 : markL ([45, 45, 45] ++ List.replicate k 32) = 1 := by have := markL_app false (List.replicate k 32); rw [if_pos (clear_blank k)] at this; exact this
    have n2 : markL ([46, 46, 46] ++ List.replicate k 32) = 2 := by have := markL_app true (List.replicate k 32); rw [if_pos (clear_blank k)] at this; exact this
    have n3 : ∀ k, k < 6 → markL ([45, 45] ++ List.replicate k 32) = 0 := by decide
    have n6 : ∀ k, k < 6 → markL ([32, 45, 45, 45] ++ List.replicate k 32) = 0 := by decide
    have n4 : markL ([45, 45, 45, 32, 120] ++ s) = 3 := by
      have := markL_app false ([32, 120] ++ s)
      rw [if_neg (by have := (clear_rep 1 120 s (by decide)).1; rw [show ([32, 120] ++ s : List UInt8) = List.replicate 1 32 ++ (120 :: s) from rfl, this]; decide), if_pos (by simp)] at this
      exact this
    have n5 : markL ([45, 45, 45, 120] ++ s) = 0 := by
      have := markL_app false ([120] ++ s)
      rw [if_neg (by have := (clear_rep 0 120 s (by decide)).1; rw [show ([120] ++ s : List UInt8) = List.replicate 0 32 ++ (120 :: s) from rfl, this]; decide), if_neg (by simp)] at this
      exact this
    rw [D_Marker _ (by simp; omega), n1, D_Marker _ (by simp; omega), n2, D_Marker _ (by simp; omega), n3 k hk6, D_Marker _ (by simp; omega), n4, D_Marker _ (by simp; omega), n5, D_Marker _ (by simp; omega), n6 k hk6]
    simp only [Option.bind_some, asI_i, asB_b, beq_self_eq_true, cond_true]
    rw [need_d (by simp; omega), need_d (by simp; omega), need_d (by simp; omega), need_d (by simp; omega), need_d (by simp; omega), need_d (by simp; omega)]
  rw [need_d (by simp; omega), need_d (by simp; omega)]
  by_cases h0 : 0 < k
  · simp only [h0, decide_true, cond_true, if_true, beq_self_eq_true, Bool.not_true, cond_false]
    rw [cond_beq rfl]
    exact fin
  · simp only [h0, decide_false, cond_false, beq_self_eq_true, Bool.not_true]
    exact fin
end Go.Proofs.YtojfiifjjgfpaaaDoor.Vf
