
/- The reference's runes are ours; a rune is what it is written as. No condition. -/
import Derived.Test.YthdefengmkcacaaDoorVfChars
namespace Go.Proofs.YthdefengmkcacaaDoor.Vf
set_option linter.unusedVariables false
set_option linter.unusedSimpArgs false

theorem b31 : ∀ c : Fin 256, IntKind.u8.wrap (BitVec.ofInt IntKind.u8.bits (c.val : Int) &&& BitVec.ofInt IntKind.u8.bits 31).toNat = ((c.val % 32 : Nat) : Int) := by decide +kernel
theorem b15 : ∀ c : Fin 256, IntKind.u8.wrap (BitVec.ofInt IntKind.u8.bits (c.val : Int) &&& BitVec.ofInt IntKind.u8.bits 15).toNat = ((c.val % 16 : Nat) : Int) := by decide +kernel
theorem b7 : ∀ c : Fin 256, IntKind.u8.wrap (BitVec.ofInt IntKind.u8.bits (c.val : Int) &&& BitVec.ofInt IntKind.u8.bits 7).toNat = ((c.val % 8 : Nat) : Int) := by decide +kernel
theorem b63 : ∀ c : Fin 256, IntKind.u8.wrap (BitVec.ofInt IntKind.u8.bits (c.val : Int) &&& BitVec.ofInt IntKind.u8.bits 63).toNat = ((c.val % 64 : Nat) : Int) := by decide +kernel
theorem b192 : ∀ c : Fin 256, IntKind.u8.wrap (BitVec.ofInt IntKind.u8.bits (c.val : Int) &&& BitVec.ofInt IntKind.u8.bits 192).toNat = ((c.val / 64 * 64 : Nat) : Int) := by decide +kernel
theorem and31 (c : UInt8) : IntKind.u8.wrap (BitVec.ofInt IntKind.u8.bits (c.toNat : Int) &&& BitVec.ofInt IntKind.u8.bits 31).toNat = ((c.toNat % 32 : Nat) : Int) := b31 ⟨c.toNat, byte_lt c⟩
theorem and15 (c : UInt8) : IntKind.u8.wrap (BitVec.ofInt IntKind.u8.bits (c.toNat : Int) &&& BitVec.ofInt IntKind.u8.bits 15).toNat = ((c.toNat % 16 : Nat) : Int) := b15 ⟨c.toNat, byte_lt c⟩
theorem and7 (c : UInt8) : IntKind.u8.wrap (BitVec.ofInt IntKind.u8.bits (c.toNat : Int) &&& BitVec.ofInt IntKind.u8.bits 7).toNat = ((c.toNat % 8 : Nat) : Int) := b7 ⟨c.toNat, byte_lt c⟩
theorem and63 (c : UInt8) : IntKind.u8.wrap (BitVec.ofInt IntKind.u8.bits (c.toNat : Int) &&& BitVec.ofInt IntKind.u8.bits 63).toNat = ((c.toNat % 64 : Nat) : Int) := b63 ⟨c.toNat, byte_lt c⟩
theorem and192 (c : UInt8) : IntKind.u8.wrap (BitVec.ofInt IntKind.u8.bits (c.toNat : Int) &&& BitVec.ofInt IntKind.u8.bits 192).toNat = ((c.toNat / 64 * 64 : Nat) : Int) := b192 ⟨c.toNat, byte_lt c⟩

theorem or6 (a b : Nat) (ha : a < 16777216) (hb : b < 64) : IntKind.i32.wrap (BitVec.ofInt IntKind.i32.bits (IntKind.i32.wrap ((a : Int) * 2 ^ (min (Int.toNat 6) IntKind.i32.bits))) ||| BitVec.ofInt IntKind.i32.bits (b : Int)).toNat = ((a * 64 + b : Nat) : Int) := by
  have e : ((a : Int) * 2 ^ (min (Int.toNat 6) IntKind.i32.bits)) = ((a * 64 : Nat) : Int) := by
    rw [show (min (Int.toNat 6) IntKind.i32.bits) = 6 from rfl]; omega
  rw [e, wrap_i32 (x := ((a * 64 : Nat) : Int)) (by omega) (by omega)]
  have h : (BitVec.ofInt IntKind.i32.bits ((a * 64 : Nat) : Int) ||| BitVec.ofInt IntKind.i32.bits (b : Int)).toNat = a * 64 + b := by
    rw [BitVec.ofInt_natCast, BitVec.ofInt_natCast, BitVec.toNat_or, BitVec.toNat_ofNat, BitVec.toNat_ofNat, Nat.mod_eq_of_lt (show a * 64 < 2 ^ IntKind.i32.bits from by show a * 64 < 4294967296; omega), Nat.mod_eq_of_lt (show b < 2 ^ IntKind.i32.bits from by show b < 4294967296; omega)]
    have := Nat.two_pow_add_eq_or_of_lt (i := 6) (b := b) (by omega) a
    rw [show 2 ^ 6 * a = a * 64 by omega] at this
    exact this.symm
  rw [h, wrap_i32 (by omega) (by omega)]

theorem refRune_step {N : Nat} {k0 : Int → Int → Bool → Option Res} {k1 : Int → Int → Int → Option Res} {n : Nat} {s : List UInt8} {m i acc : Nat} {low : Int} (hi : i < m) (hm : m ≤ s.length) (ha : acc < 16777216) (h4 : m ≤ 10) :
    ref01Rune_L1 D N k0 k1 (n + 1) s m low acc i = if (s.getD i 0).toNat / 64 = 2 then ref01Rune_L1 D N k0 k1 n s m low ((acc * 64 + (s.getD i 0).toNat % 64 : Nat) : Int) ((i + 1 : Nat) : Int) else k0 0 1 false := by
  have hb := byte_lt (s.getD i 0)
  simp only [ref01Rune_L1, ref01Rune_L1s]
  rw [cond_d (by omega), need_d (by omega)]
  simp only [Int.toNat_natCast]
  rw [get_bn (by omega), and192]
  by_cases h : (s.getD i 0).toNat / 64 = 2
  · rw [cond_beq (by omega), if_pos h, need_nd (by omega), need_d (by omega), get_bn (by omega), and63, wrap_i32 (x := (((s.getD i 0).toNat % 64 : Nat) : Int)) (by omega) (by omega), or6 acc _ ha (by omega), wrap_i64 (by omega) (by omega)]
    rfl
  · rw [cond_bne (by omega), if_neg h]
theorem refRune_end {N : Nat} {k0 : Int → Int → Bool → Option Res} {k1 : Int → Int → Int → Option Res} {n : Nat} {s : List UInt8} {m acc : Nat} {low : Int} :
    ref01Rune_L1 D N k0 k1 (n + 1) s m low acc m = k1 m low acc := by
  simp only [ref01Rune_L1, ref01Rune_L1s]
  rw [cond_nd (by omega)]

def runeN (n b0 b1 b2 b3 : Nat) : Nat × Nat × Bool := if (Lib.decodeN n b0 b1 b2 b3).1 = 65533 ∧ (Lib.decodeN n b0 b1 b2 b3).2 < 2 then (0, (Lib.decodeN n b0 b1 b2 b3).2, false) else ((Lib.decodeN n b0 b1 b2 b3).1, (Lib.decodeN n b0 b1 b2 b3).2, true)
theorem rune_cons (c : UInt8) (r : List UInt8) : rune (c :: r) = runeN (r.length + 1) c.toNat (r.getD 0 0).toNat (r.getD 1 0).toNat (r.getD 2 0).toNat := by
  have e : dec (c :: r) = Lib.decodeN (r.length + 1) c.toNat (r.getD 0 0).toNat (r.getD 1 0).toNat (r.getD 2 0).toNat := by
    unfold dec; rw [if_neg (fun h => by cases h)]; rfl
  unfold rune runeN
  rw [e]
theorem runeN_ok {n b0 b1 b2 b3 v k : Nat} (h : Lib.decodeN n b0 b1 b2 b3 = (v, k)) (h' : v ≠ 65533 ∨ 2 ≤ k) : runeN n b0 b1 b2 b3 = (v, k, true) := by
  unfold runeN; rw [h]; dsimp only; rw [if_neg (by omega)]
theorem runeN_no {n b0 b1 b2 b3 : Nat} (h : Lib.decodeN n b0 b1 b2 b3 = (65533, 1)) : runeN n b0 b1 b2 b3 = (0, 1, false) := by
  unfold runeN; rw [h]; rfl

theorem runeN_1 {n b0 b1 b2 b3 : Nat} (h : b0 < 128) : runeN n b0 b1 b2 b3 = (b0, 1, true) :=
  runeN_ok (by unfold Lib.decodeN; rw [if_pos h]) (by omega)
theorem runeN_2 {n b0 b1 b2 b3 : Nat} (h : 192 ≤ b0) (h' : b0 < 224) : runeN n b0 b1 b2 b3 = if 194 ≤ b0 ∧ 1 < n ∧ b1 / 64 = 2 then (b0 % 32 * 64 + b1 % 64, 2, true) else (0, 1, false) := by
  by_cases hc : 1 < n ∧ b1 / 64 = 2
  · by_cases hr : b0 % 32 * 64 + b1 % 64 ≥ 128
    · rw [if_pos (by omega)]
      refine runeN_ok ?_ (.inr (Nat.le_refl _))
      unfold Lib.decodeN
      rw [if_neg (show ¬ b0 < 128 by omega), if_pos (show b0 / 32 = 6 ∧ (1 < n ∧ b1 / 64 = 2) from ⟨by omega, hc⟩), if_pos hr]
    · rw [if_neg (by omega)]
      refine runeN_no ?_
      unfold Lib.decodeN
      rw [if_neg (show ¬ b0 < 128 by omega), if_pos (show b0 / 32 = 6 ∧ (1 < n ∧ b1 / 64 = 2) from ⟨by omega, hc⟩), if_neg hr]
  · rw [if_neg (by omega)]
    refine runeN_no ?_
    unfold Lib.decodeN
    rw [if_neg (by omega), if_neg (by omega), if_neg (by omega), if_neg (by omega)]
theorem runeN_3 {n b0 b1 b2 b3 : Nat} (h : 224 ≤ b0) (h' : b0 < 240) : runeN n b0 b1 b2 b3 = if 2 < n ∧ b1 / 64 = 2 ∧ b2 / 64 = 2 ∧ 2048 ≤ b0 % 16 * 4096 + b1 % 64 * 64 + b2 % 64 ∧ (b0 % 16 * 4096 + b1 % 64 * 64 + b2 % 64 < 55296 ∨ 57344 ≤ b0 % 16 * 4096 + b1 % 64 * 64 + b2 % 64) then (b0 % 16 * 4096 + b1 % 64 * 64 + b2 % 64, 3, true) else (0, 1, false) := by
  by_cases hc : (1 < n ∧ b1 / 64 = 2) ∧ (2 < n ∧ b2 / 64 = 2)
  · by_cases hr : b0 % 16 * 4096 + b1 % 64 * 64 + b2 % 64 ≥ 2048 ∧ (b0 % 16 * 4096 + b1 % 64 * 64 + b2 % 64 < 55296 ∨ (57344 ≤ b0 % 16 * 4096 + b1 % 64 * 64 + b2 % 64 ∧ b0 % 16 * 4096 + b1 % 64 * 64 + b2 % 64 ≤ 1114111))
    · rw [if_pos (by omega)]
      refine runeN_ok ?_ (.inr (by omega))
      unfold Lib.decodeN
      rw [if_neg (show ¬ b0 < 128 by omega), if_neg (by omega), if_pos (show b0 / 16 = 14 ∧ _ from ⟨by omega, hc⟩), if_pos hr]
    · rw [if_neg (by omega)]
      refine runeN_no ?_
      unfold Lib.decodeN
      rw [if_neg (show ¬ b0 < 128 by omega), if_neg (by omega), if_pos (show b0 / 16 = 14 ∧ _ from ⟨by omega, hc⟩), if_neg hr]
  · rw [if_neg (by omega)]
    refine runeN_no ?_
    unfold Lib.decodeN
    rw [if_neg (by omega), if_neg (by omega), if_neg (by omega), if_neg (by omega)]
theorem runeN_4 {n b0 b1 b2 b3 : Nat} (h : 240 ≤ b0) (h' : b0 < 248) : runeN n b0 b1 b2 b3 = if 3 < n ∧ b1 / 64 = 2 ∧ b2 / 64 = 2 ∧ b3 / 64 = 2 ∧ 65536 ≤ b0 % 8 * 262144 + b1 % 64 * 4096 + b2 % 64 * 64 + b3 % 64 ∧ b0 % 8 * 262144 + b1 % 64 * 4096 + b2 % 64 * 64 + b3 % 64 ≤ 1114111 then (b0 % 8 * 262144 + b1 % 64 * 4096 + b2 % 64 * 64 + b3 % 64, 4, true) else (0, 1, false) := by
  by_cases hc : (1 < n ∧ b1 / 64 = 2) ∧ (2 < n ∧ b2 / 64 = 2) ∧ (3 < n ∧ b3 / 64 = 2)
  · by_cases hr : b0 % 8 * 262144 + b1 % 64 * 4096 + b2 % 64 * 64 + b3 % 64 ≥ 65536 ∧ (b0 % 8 * 262144 + b1 % 64 * 4096 + b2 % 64 * 64 + b3 % 64 < 55296 ∨ (57344 ≤ b0 % 8 * 262144 + b1 % 64 * 4096 + b2 % 64 * 64 + b3 % 64 ∧ b0 % 8 * 262144 + b1 % 64 * 4096 + b2 % 64 * 64 + b3 % 64 ≤ 1114111))
    · rw [if_pos (by omega)]
      refine runeN_ok ?_ (.inr (by omega))
      unfold Lib.decodeN
      rw [if_neg (show ¬ b0 < 128 by omega), if_neg (by omega), if_neg (by omega), if_pos (show b0 / 8 = 30 ∧ _ from ⟨by omega, hc⟩), if_pos hr]
    · rw [if_neg (by omega)]
      refine runeN_no ?_
      unfold Lib.decodeN
      rw [if_neg (show ¬ b0 < 128 by omega), if_neg (by omega), if_neg (by omega), if_pos (show b0 / 8 = 30 ∧ _ from ⟨by omega, hc⟩), if_neg hr]
  · rw [if_neg (by omega)]
    refine runeN_no ?_
    unfold Lib.decodeN
    rw [if_neg (by omega), if_neg (by omega), if_neg (by omega), if_neg (by omega)]
theorem runeN_bad {n b0 b1 b2 b3 : Nat} (h : (128 ≤ b0 ∧ b0 < 192) ∨ 248 ≤ b0) (h' : b0 < 256) : runeN n b0 b1 b2 b3 = (0, 1, false) := by
  refine runeN_no ?_
  unfold Lib.decodeN
  rw [if_neg (by omega), if_neg (by omega), if_neg (by omega), if_neg (by omega)]

theorem D_refRune (s : List UInt8) : D id_ref01Rune [.bytes s] = some ⟨.tup [.int .i32 (rune s).1, .int .i64 (rune s).2.1, .bool (rune s).2.2], false, []⟩ := by
  refine den_fn (N := 4) (F := ref01Rune) rfl rfl ?_
  rw [ref01Rune_eq]
  show ref01Runer D 4 s = _
  unfold ref01Runer
  cases s with
  | nil => rfl
  | cons c r =>
    have hc := byte_lt c
    have h1 := byte_lt (r.getD 0 0)
    have h2 := byte_lt (r.getD 1 0)
    have h3 := byte_lt (r.getD 2 0)
    rw [cond_ne (by simp; omega), need_d (by omega)]
    simp only [Int.toNat_zero, List.getElem?_cons_zero, Option.bind_some]
    rw [rune_cons]
    have bad : runeN (r.length + 1) c.toNat (r.getD 0 0).toNat (r.getD 1 0).toNat (r.getD 2 0).toNat = (0, 1, false) → some (⟨.tup [.int .i32 0, .int .i64 1, .bool false], false, []⟩ : Res) = some ⟨.tup [.int .i32 (runeN (r.length + 1) c.toNat (r.getD 0 0).toNat (r.getD 1 0).toNat (r.getD 2 0).toNat).1, .int .i64 (runeN (r.length + 1) c.toNat (r.getD 0 0).toNat (r.getD 1 0).toNat (r.getD 2 0).toNat).2.1, .bool (runeN (r.length + 1) c.toNat (r.getD 0 0).toNat (r.getD 1 0).toNat (r.getD 2 0).toNat).2.2], false, []⟩ := by
      intro h; rw [h] <;> rfl
    by_cases k1 : c.toNat < 128
    · rw [cond_d (by omega), runeN_1 k1, wrap_i32 (by omega) (by omega)] <;> rfl
    rw [cond_nd (by omega)]
    have g1 : (c :: r).getD 1 0 = r.getD 0 0 := rfl
    have g2 : (c :: r).getD 2 0 = r.getD 1 0 := rfl
    have g3 : (c :: r).getD 3 0 = r.getD 2 0 := rfl
    by_cases k2 : 194 ≤ c.toNat
    · rw [cond_d (by omega)]
      by_cases k3 : c.toNat ≤ 223
      · rw [cond_d (by omega)]
        by_cases k4 : (c :: r).length < 2
        · rw [cond_d (by omega)]; exact bad (by rw [runeN_2 (by omega) (by omega), if_neg (by simp at k4 ⊢; omega)])
        rw [cond_nd (by omega), and31, wrap_i32 (by omega) (by omega)]
        rw [show (2 : Int) = ((2 : Nat) : Int) from rfl, show (1 : Int) = ((1 : Nat) : Int) from rfl, refRune_step (by omega) (by omega) (by omega) (by omega), g1]
        by_cases q1 : (r.getD 0 0).toNat / 64 = 2
        · rw [if_pos q1, refRune_end, cond_nd (by omega), cond_nd (by omega), cond_nd (by omega)]
          rw [runeN_2 (by omega) (by omega), if_pos (by simp at k4; omega)] <;> rfl
        · rw [if_neg q1]; exact bad (by rw [runeN_2 (by omega) (by omega), if_neg (by omega)])
      rw [cond_nd (by omega), cond_d (by omega)]
      by_cases k5 : c.toNat ≤ 239
      · rw [cond_d (by omega)]
        by_cases k4 : (c :: r).length < 3
        · rw [cond_d (by omega)]; exact bad (by rw [runeN_3 (by omega) (by omega), if_neg (by simp at k4 ⊢; omega)])
        rw [cond_nd (by omega), and15, wrap_i32 (by omega) (by omega)]
        rw [show (3 : Int) = ((3 : Nat) : Int) from rfl, show (1 : Int) = ((1 : Nat) : Int) from rfl, refRune_step (by omega) (by omega) (by omega) (by omega), g1]
        by_cases q1 : (r.getD 0 0).toNat / 64 = 2
        · rw [if_pos q1, refRune_step (by omega) (by omega) (by omega) (by omega), g2]
          by_cases q2 : (r.getD 1 0).toNat / 64 = 2
          · rw [if_pos q2, refRune_end, runeN_3 (by omega) (by omega)]
            have e : ((c.toNat % 16 * 64 + (r.getD 0 0).toNat % 64) * 64 + (r.getD 1 0).toNat % 64) = c.toNat % 16 * 4096 + (r.getD 0 0).toNat % 64 * 64 + (r.getD 1 0).toNat % 64 := by omega
            rw [e]
            generalize hv : c.toNat % 16 * 4096 + (r.getD 0 0).toNat % 64 * 64 + (r.getD 1 0).toNat % 64 = v
            have hv2 : v < 65536 := by omega
            simp only [bool_cond, decide_eq_true_eq]
            simp only [List.length_cons, Nat.not_lt] at k4
            split
            · rw [if_neg (by omega)] <;> rfl
            · rw [if_neg (by omega)]
              split
              · split
                · rw [if_neg (by omega)] <;> rfl
                · rw [if_pos (by omega)] <;> rfl
              · rw [if_pos (by omega)] <;> rfl
          · rw [if_neg q2]; exact bad (by rw [runeN_3 (by omega) (by omega), if_neg (by omega)])
        · rw [if_neg q1]; exact bad (by rw [runeN_3 (by omega) (by omega), if_neg (by omega)])
      rw [cond_nd (by omega), cond_d (by omega)]
      by_cases k6 : c.toNat ≤ 244
      · rw [cond_d (by omega)]
        by_cases k4 : (c :: r).length < 4
        · rw [cond_d (by omega)]; exact bad (by rw [runeN_4 (by omega) (by omega), if_neg (by simp at k4 ⊢; omega)])
        rw [cond_nd (by omega), and7, wrap_i32 (by omega) (by omega)]
        rw [show (4 : Int) = ((4 : Nat) : Int) from rfl, show (1 : Int) = ((1 : Nat) : Int) from rfl, refRune_step (by omega) (by omega) (by omega) (by omega), g1]
        by_cases q1 : (r.getD 0 0).toNat / 64 = 2
        · rw [if_pos q1, refRune_step (by omega) (by omega) (by omega) (by omega), g2]
          by_cases q2 : (r.getD 1 0).toNat / 64 = 2
          · rw [if_pos q2, refRune_step (by omega) (by omega) (by omega) (by omega), g3]
            by_cases q3 : (r.getD 2 0).toNat / 64 = 2
            · rw [if_pos q3, refRune_end, runeN_4 (by omega) (by omega)]
              have e : (((c.toNat % 8 * 64 + (r.getD 0 0).toNat % 64) * 64 + (r.getD 1 0).toNat % 64) * 64 + (r.getD 2 0).toNat % 64) = c.toNat % 8 * 262144 + (r.getD 0 0).toNat % 64 * 4096 + (r.getD 1 0).toNat % 64 * 64 + (r.getD 2 0).toNat % 64 := by omega
              rw [e]
              generalize hv : c.toNat % 8 * 262144 + (r.getD 0 0).toNat % 64 * 4096 + (r.getD 1 0).toNat % 64 * 64 + (r.getD 2 0).toNat % 64 = v
              simp only [bool_cond, decide_eq_true_eq]
              simp only [List.length_cons, Nat.not_lt] at k4
              split
              · rw [if_neg (by omega)] <;> rfl
              · split
                · rw [if_neg (by omega)] <;> rfl
                · rw [if_pos (by omega), if_neg (by omega), if_pos (by omega)] <;> rfl
            · rw [if_neg q3]; exact bad (by rw [runeN_4 (by omega) (by omega), if_neg (by omega)])
          · rw [if_neg q2]; exact bad (by rw [runeN_4 (by omega) (by omega), if_neg (by omega)])
        · rw [if_neg q1]; exact bad (by rw [runeN_4 (by omega) (by omega), if_neg (by omega)])
      rw [cond_nd (by omega)]
      refine bad ?_
      by_cases k7 : c.toNat < 248
      · rw [runeN_4 (by omega) k7, if_neg (by omega)]
      · exact runeN_bad (by omega) hc
    rw [cond_nd (by omega), cond_nd (by omega), cond_nd (by omega)]
    refine bad ?_
    by_cases k8 : c.toNat < 192
    · exact runeN_bad (by omega) hc
    · rw [runeN_2 (by omega) (by omega), if_neg (by omega)]
end Go.Proofs.YthdefengmkcacaaDoor.Vf
