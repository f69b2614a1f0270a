
/- A rune is read as it is written; the law CharsBack comes to true, whatever the input. No condition. -/
import Derived.Test.YtnapopfbmdghkaaDoorVfLawsC
namespace Go.Proofs.YtnapopfbmdghkaaDoor.Vf
set_option linter.unusedVariables false
set_option linter.unusedSimpArgs false

def enc (r : Int) : List UInt8 := (Utf8.encode r).data.toList
theorem ofNat_toNat {n : Nat} (h : n < 256) : (UInt8.ofNat n).toNat = n := by simp; omega

set_option maxRecDepth 100000 in
theorem enc_eq (r : Nat) (hv : r < 55296 ∨ (57344 ≤ r ∧ r ≤ 1114111)) : enc (r : Int) = if r < 128 then [UInt8.ofNat r] else if r < 2048 then [UInt8.ofNat (192 + r / 64), UInt8.ofNat (128 + r % 64)]
    else if r < 65536 then [UInt8.ofNat (224 + r / 4096), UInt8.ofNat (128 + r / 64 % 64), UInt8.ofNat (128 + r % 64)]
    else [UInt8.ofNat (240 + r / 262144), UInt8.ofNat (128 + r / 4096 % 64), UInt8.ofNat (128 + r / 64 % 64), UInt8.ofNat (128 + r % 64)] := by
  have hval : Utf8.valid (r : Int) = true := by unfold Utf8.valid; simp; omega
  unfold enc Utf8.encode
  rw [hval]
  simp only [if_true, Int.toNat_natCast]
  by_cases h1 : r < 128
  · rw [if_pos h1, if_pos h1]
  · rw [if_neg h1, if_neg h1]
    by_cases h2 : r < 2048
    · rw [if_pos h2, if_pos h2]
    · rw [if_neg h2, if_neg h2]
      by_cases h3 : r < 65536
      · rw [if_pos h3, if_pos h3]
      · rw [if_neg h3, if_neg h3]

theorem rune_enc (r : Nat) (hv : r < 55296 ∨ (57344 ≤ r ∧ r ≤ 1114111)) (t : List UInt8) : rune (enc r ++ t) = (r, (enc r).length, true) := by
  rw [enc_eq r hv]
  by_cases h1 : r < 128
  · rw [if_pos h1, List.cons_append, rune_cons, runeN_1 (by rw [ofNat_toNat (by omega)]; exact h1), ofNat_toNat (by omega)]; rfl
  rw [if_neg h1]
  by_cases h2 : r < 2048
  · rw [if_pos h2]
    have e0 := ofNat_toNat (n := 192 + r / 64) (by omega)
    have e1 := ofNat_toNat (n := 128 + r % 64) (by omega)
    show rune (UInt8.ofNat (192 + r / 64) :: (UInt8.ofNat (128 + r % 64) :: t)) = _
    rw [rune_cons, e0]
    show runeN _ _ (UInt8.ofNat (128 + r % 64)).toNat _ _ = _
    rw [e1, runeN_2 (by omega) (by omega), if_pos ⟨by omega, by simp, by omega⟩]
    have : (192 + r / 64) % 32 * 64 + (128 + r % 64) % 64 = r := by omega
    rw [this]; rfl
  rw [if_neg h2]
  by_cases h3 : r < 65536
  · rw [if_pos h3]
    have e0 := ofNat_toNat (n := 224 + r / 4096) (by omega)
    have e1 := ofNat_toNat (n := 128 + r / 64 % 64) (by omega)
    have e2 := ofNat_toNat (n := 128 + r % 64) (by omega)
    show rune (UInt8.ofNat (224 + r / 4096) :: (UInt8.ofNat (128 + r / 64 % 64) :: UInt8.ofNat (128 + r % 64) :: t)) = _
    rw [rune_cons, e0]
    show runeN _ _ (UInt8.ofNat (128 + r / 64 % 64)).toNat (UInt8.ofNat (128 + r % 64)).toNat _ = _
    have : (224 + r / 4096) % 16 * 4096 + (128 + r / 64 % 64) % 64 * 64 + (128 + r % 64) % 64 = r := by omega
    rw [e1, e2, runeN_3 (by omega) (by omega), if_pos ⟨by simp, by omega, by omega, by omega, by omega⟩, this]; rfl
  · rw [if_neg h3]
    have e0 := ofNat_toNat (n := 240 + r / 262144) (by omega)
    have e1 := ofNat_toNat (n := 128 + r / 4096 % 64) (by omega)
    have e2 := ofNat_toNat (n := 128 + r / 64 % 64) (by omega)
    have e3 := ofNat_toNat (n := 128 + r % 64) (by omega)
    show rune (UInt8.ofNat (240 + r / 262144) :: (UInt8.ofNat (128 + r / 4096 % 64) :: UInt8.ofNat (128 + r / 64 % 64) :: UInt8.ofNat (128 + r % 64) :: t)) = _
    rw [rune_cons, e0]
    show runeN _ _ (UInt8.ofNat (128 + r / 4096 % 64)).toNat (UInt8.ofNat (128 + r / 64 % 64)).toNat (UInt8.ofNat (128 + r % 64)).toNat = _
    have : (240 + r / 262144) % 8 * 262144 + (128 + r / 4096 % 64) % 64 * 4096 + (128 + r / 64 % 64) % 64 * 64 + (128 + r % 64) % 64 = r := by omega
    rw [e1, e2, e3, runeN_4 (by omega) (by omega), if_pos ⟨by simp, by omega, by omega, by omega, by omega, by omega⟩, this]; rfl

theorem enc_len (r : Nat) (hv : r < 55296 ∨ (57344 ≤ r ∧ r ≤ 1114111)) : 1 ≤ (enc r).length ∧ (enc r).length ≤ 4 := by
  rw [enc_eq r hv]
  repeat' split
  all_goals simp

/-- Cut short it is none. -/
theorem rune_cut (l : List UInt8) (h : (rune l).2.2 = true) (k : Nat) (hk : k < (rune l).2.1) : rune (l.take k) = (0, min k 1, false) := by
  cases l with
  | nil => cases h
  | cons c r =>
    cases k with
    | zero => rfl
    | succ k =>
      have hc := byte_lt c
      rw [List.take_succ_cons]
      rw [rune_cons] at h hk
      rw [rune_cons, show min (k + 1) 1 = 1 by omega]
      by_cases k1 : c.toNat < 128
      · rw [runeN_1 k1] at hk; dsimp only at hk; omega
      by_cases k2 : c.toNat < 192
      · rw [runeN_bad (by omega) hc] at h; cases h
      by_cases k3 : c.toNat < 224
      · rw [runeN_2 (by omega) k3] at hk
        rw [runeN_2 (by omega) k3, if_neg]
        simp only [List.length_take]
        split at hk <;> dsimp only at hk <;> omega
      by_cases k4 : c.toNat < 240
      · rw [runeN_3 (by omega) k4] at hk
        rw [runeN_3 (by omega) k4, if_neg]
        simp only [List.length_take]
        split at hk <;> dsimp only at hk <;> omega
      by_cases k5 : c.toNat < 248
      · rw [runeN_4 (by omega) k5] at hk
        rw [runeN_4 (by omega) k5, if_neg]
        simp only [List.length_take]
        split at hk <;> dsimp only at hk <;> omega
      · rw [runeN_bad (by omega) hc] at h; cases h

set_option maxRecDepth 100000 in
theorem D_CharsBack (v : Int) (tail : List UInt8) (cut : Int) : D id_law01CharsBack [.int .i64 v, .str tail, .int .i64 cut] = some ⟨.bool true, false, []⟩ := by
  refine den_fn (N := 0) (F := law01CharsBack) rfl rfl ?_
  rw [law01CharsBack_eq]
  show law01CharsBackr D 0 v tail cut = _
  unfold law01CharsBackr
  rw [D_Within v _ (by omega) (by omega)]
  have h0 := Int.emod_nonneg v (b := 1114112) (by omega)
  have h1 := Int.emod_lt_of_pos v (b := 1114112) (by omega)
  obtain ⟨r, hr⟩ : ∃ r : Nat, v % 1114112 = r := ⟨(v % 1114112).toNat, by omega⟩
  rw [hr] at h0 h1
  simp only [Option.bind_some, asI_i]
  rw [hr, show (5 : Int) = ((5 : Nat) : Int) from rfl, D_Text tail 5 (by omega)]
  have ht : (tail.take 5).length ≤ 5 := by simp; omega
  generalize tail.take 5 = t at ht
  simp only [Option.bind_some, asS_s]
  rw [wrap_i32 (x := (r : Int)) (by omega) (by omega)]
  have fin : (r < 55296 ∨ (57344 ≤ r ∧ r ≤ 1114111)) → (need (decide (((Utf8.encode (r : Int)).data.toList).length + t.length ≤ 9223372036854775807)) <|
      (D id_charsRune [AV.bytes (((Utf8.encode (r : Int)).data.toList) ++ t)]).bind fun r10 =>
      asJIBT r10.v fun i9 i10 b6 =>
      bif !b6 then
        (some (⟨AV.bool false, false, []⟩ : Res))
      else
        bif (i9 : Int) != (r : Int) then
          (some (⟨AV.bool false, false, []⟩ : Res))
        else
          bif (i10 : Int) != ((((Utf8.encode (r : Int)).data.toList).length : Nat) : Int) then
            (some (⟨AV.bool false, false, []⟩ : Res))
          else
            (D id_keepWithin [AV.int .i64 cut, AV.int .i64 ((((Utf8.encode (r : Int)).data.toList).length : Nat) : Int)]).bind fun r11 =>
            asI .i64 r11.v fun i11 =>
            need (decide (0 ≤ (i11 : Int)) && decide ((i11 : Int) ≤ ((((Utf8.encode (r : Int)).data.toList).length : Nat) : Int))) <|
            (D id_charsRune [AV.bytes ((((Utf8.encode (r : Int)).data.toList).take (Int.toNat i11)).drop 0)]).bind fun r12 =>
            asJIBT r12.v fun i12 i13 b7 =>
            bif !b7 then
              (bif (i13 : Int) == (if 1 < i11 then 1 else i11) then
                ((D id_law01Wakes []).bind fun r13 =>
                asB r13.v fun b8 =>
                some (⟨AV.bool b8, false, []⟩ : Res))
              else
                some (⟨AV.bool false, false, []⟩ : Res))
            else
              some (⟨AV.bool false, false, []⟩ : Res)) = some ⟨.bool true, false, []⟩ := by
    intro hv
    have hlen := enc_len r hv
    change 1 ≤ ((Utf8.encode (r : Int)).data.toList).length ∧ ((Utf8.encode (r : Int)).data.toList).length ≤ 4 at hlen
    have hrun := rune_enc r hv t
    have hrun0 := rune_enc r hv []
    rw [List.append_nil] at hrun0
    change rune ((Utf8.encode (r : Int)).data.toList ++ t) = (r, ((Utf8.encode (r : Int)).data.toList).length, true) at hrun
    change rune ((Utf8.encode (r : Int)).data.toList) = (r, ((Utf8.encode (r : Int)).data.toList).length, true) at hrun0
    generalize (Utf8.encode (r : Int)).data.toList = e at hlen hrun hrun0
    have g0 := Int.emod_nonneg cut (b := (e.length : Int)) (by omega)
    have g1 := Int.emod_lt_of_pos cut (b := (e.length : Int)) (by omega)
    rw [need_d (by omega), D_Rune, hrun]
    simp only [Option.bind_some, asJIBT, asT_t, asC_c, asI_i, asB_b, asN_n, Bool.not_true, cond_false, bne_self_eq_false]
    rw [D_Within cut _ (by omega) (by omega)]
    simp only [Option.bind_some, asI_i]
    obtain ⟨k, hk⟩ : ∃ k : Nat, cut % (e.length : Int) = k := ⟨(cut % (e.length : Int)).toNat, by omega⟩
    rw [hk] at g1 ⊢
    rw [need_d2 (by omega) (by omega)]
    simp only [Int.toNat_natCast, List.drop_zero]
    rw [D_Rune, rune_cut e (by rw [hrun0]) k (by rw [hrun0]; dsimp only; omega), D_wakes]
    simp only [Option.bind_some, asJIBT, asT_t, asC_c, asI_i, asB_b, asN_n, Bool.not_false, cond_true]
    rw [cond_eq]
    split <;> omega
  by_cases hs : 55296 ≤ r
  · rw [cond_d (by omega)]
    by_cases hs2 : r ≤ 57343
    · rw [cond_d (by omega), D_Printable, D_wakes]
      have : printable (r : Int) = false := by unfold printable; rw [decide_eq_false_iff_not]; omega
      rw [this]; rfl
    · rw [cond_nd (by omega)]; exact fin (by omega)
  · rw [cond_nd (by omega)]; exact fin (by omega)
end Go.Proofs.YtnapopfbmdghkaaDoor.Vf
