
/- The reference's runes are ours; a rune is what it is written as. No condition. -/
import Derived.Test.YtpgcjcggnfagfaaDoorVfChars
namespace Go.Proofs.YtpgcjcggnfagfaaDoor.Vf
set_option linter.unusedVariables false
set_option linter.unusedSimpArgs false

theorem b31 : ∀ c : Fin 256, IntKind.u8.wrap (BitVec.ofInt IntKind.u8.bits (c.val : Int) &&& BitVec.ofInt IntKind.u8.bits 31).toNat = ((c.val % 32 : Nat) : Int) := by decide +kernel
theorem b15 : ∀ c : Fin 256, IntKind.u8.wrap (BitVec.ofInt IntKind.u8.bits (c.val : Int) &&& BitVec.ofInt IntKind.u8.bits 15).toNat = ((c.val % 16 : Nat) : Int) := by decide +kernel
theorem b7 : ∀ c : Fin 256, IntKind.u8.wrap (BitVec.ofInt IntKind.u8.bits (c.val : Int) &&& BitVec.ofInt IntKind.u8.bits 7).toNat = ((c.val % 8 : Nat) : Int) := by decide +kernel
theorem b63 : ∀ c : Fin 256, IntKind.u8.wrap (BitVec.ofInt IntKind.u8.bits (c.val : Int) &&& BitVec.ofInt IntKind.u8.bits 63).toNat = ((c.val % 64 : Nat) : Int) := by decide +kernel
theorem b192 : ∀ c : Fin 256, IntKind.u8.wrap (BitVec.ofInt IntKind.u8.bits (c.val : Int) &&& BitVec.ofInt IntKind.u8.bits 192).toNat = ((c.val / 64 * 64 : Nat) : Int) := by decide +kernel
theorem and31 (c : UInt8) : IntKind.u8.wrap (BitVec.ofInt IntKind.u8.bits (c.toNat : Int) &&& BitVec.ofInt IntKind.u8.bits 31).toNat = ((c.toNat % 32 : Nat) : Int) := b31 ⟨c.toNat, byte_lt c⟩
theorem and15 (c : UInt8) : IntKind.u8.wrap (BitVec.ofInt IntKind.u8.bits (c.toNat : Int) &&& BitVec.ofInt IntKind.u8.bits 15).toNat = ((c.toNat % 16 : Nat) : Int) := b15 ⟨c.toNat, byte_lt c⟩
theorem and7 (c : UInt8) : IntKind.u8.wrap (BitVec.ofInt IntKind.u8.bits (c.toNat : Int) &&& BitVec.ofInt IntKind.u8.bits 7).toNat = ((c.toNat % 8 : Nat) : Int) := b7 ⟨c.toNat, byte_lt c⟩
theorem and63 (c : UInt8) : IntKind.u8.wrap (BitVec.ofInt IntKind.u8.bits (c.toNat : Int) &&& BitVec.ofInt IntKind.u8.bits 63).toNat = ((c.toNat % 64 : Nat) : Int) := b63 ⟨c.toNat, byte_lt c⟩
theorem and192 (c : UInt8) : IntKind.u8.wrap (BitVec.ofInt IntKind.u8.bits (c.toNat : Int) &&& BitVec.ofInt IntKind.u8.bits 192).toNat = ((c.toNat / 64 * 64 : Nat) : Int) := b192 ⟨c.toNat, byte_lt c⟩

theorem or6 (a b : Nat) (ha : a < 16777216) (hb : b < 64) : IntKind.i32.wrap (BitVec.ofInt IntKind.i32.bits (IntKind.i32.wrap ((a : Int) * 2 ^ (min (Int.toNat 6) IntKind.i32.bits))) ||| BitVec.ofInt IntKind.i32.bits (b : Int)).toNat = ((a * 64 + b : Nat) : Int) := by
  have e : ((a : Int) * 2 ^ (min (Int.toNat 6) IntKind.i32.bits)) = ((a * 64 : Nat) : Int) := by
    rw [show (min (Int.toNat 6) IntKind.i32.bits) = 6 from rfl]; omega
  rw [e, wrap_i32 (x := ((a * 64 : Nat) : Int)) (by omega) (by omega)]
  have h : (BitVec.ofInt IntKind.i32.bits ((a * 64 : Nat) : Int) ||| BitVec.ofInt IntKind.i32.bits (b : Int)).toNat = a * 64 + b := by
    rw [BitVec.ofInt_natCast, BitVec.ofInt_natCast, BitVec.toNat_or, BitVec.toNat_ofNat, BitVec.toNat_ofNat, Nat.mod_eq_of_lt (show a * 64 < 2 ^ IntKind.i32.bits from by show a * 64 < 4294967296; omega), Nat.mod_eq_of_lt (show b < 2 ^ IntKind.i32.bits from by show b < 4294967296; omega)]
    have := Nat.two_pow_add_eq_or_of_lt (i := 6) (b := b) (by omega) a
    rw [show 2 ^ 6 * a = a * 64 by omega] at this
    exact this.symm
  rw [h, wrap_i32 (by omega) (by omega)]

def runeN (n b0 b1 b2 b3 : Nat) : Nat × Nat × Bool := if (Lib.decodeN n b0 b1 b2 b3).1 = 65533 ∧ (Lib.decodeN n b0 b1 b2 b3).2 < 2 then (0, (Lib.decodeN n b0 b1 b2 b3).2, false) else ((Lib.decodeN n b0 b1 b2 b3).1, (Lib.decodeN n b0 b1 b2 b3).2, true)
theorem rune_cons (c : UInt8) (r : List UInt8) : rune (c :: r) = runeN (r.length + 1) c.toNat (r.getD 0 0).toNat (r.getD 1 0).toNat (r.getD 2 0).toNat := by
  have e : dec (c :: r) = Lib.decodeN (r.length + 1) c.toNat (r.getD 0 0).toNat (r.getD 1 0).toNat (r.getD 2 0).toNat := by
    unfold dec; rw [if_neg (fun h => by cases h)]; rfl
  unfold rune runeN
  rw [e]
theorem rune_nil : rune [] = (0, 0, false) := rfl
theorem runeN_ok {n b0 b1 b2 b3 v k : Nat} (h : Lib.decodeN n b0 b1 b2 b3 = (v, k)) (h' : v ≠ 65533 ∨ 2 ≤ k) : runeN n b0 b1 b2 b3 = (v, k, true) := by
  unfold runeN; rw [h]; dsimp only; rw [if_neg (by omega)]
theorem runeN_no {n b0 b1 b2 b3 : Nat} (h : Lib.decodeN n b0 b1 b2 b3 = (65533, 1)) : runeN n b0 b1 b2 b3 = (0, 1, false) := by
  unfold runeN; rw [h]; rfl

theorem runeN_1 {n b0 b1 b2 b3 : Nat} (h : b0 < 128) : runeN n b0 b1 b2 b3 = (b0, 1, true) :=
  runeN_ok (by unfold Lib.decodeN; rw [if_pos h]) (by omega)
theorem runeN_2 {n b0 b1 b2 b3 : Nat} (h : 192 ≤ b0) (h' : b0 < 224) : runeN n b0 b1 b2 b3 = if 194 ≤ b0 ∧ 1 < n ∧ b1 / 64 = 2 then (b0 % 32 * 64 + b1 % 64, 2, true) else (0, 1, false) := by
  by_cases hc : 1 < n ∧ b1 / 64 = 2
  · by_cases hr : b0 % 32 * 64 + b1 % 64 ≥ 128
    · rw [if_pos (by omega)]
      refine runeN_ok ?_ (.inr (Nat.le_refl _))
      unfold Lib.decodeN
      rw [if_neg (show ¬ b0 < 128 by omega), if_pos (show b0 / 32 = 6 ∧ (1 < n ∧ b1 / 64 = 2) from ⟨by omega, hc⟩), if_pos hr]
    · rw [if_neg (by omega)]
      refine runeN_no ?_
      unfold Lib.decodeN
      rw [if_neg (show ¬ b0 < 128 by omega), if_pos (show b0 / 32 = 6 ∧ (1 < n ∧ b1 / 64 = 2) from ⟨by omega, hc⟩), if_neg hr]
  · rw [if_neg (by omega)]
    refine runeN_no ?_
    unfold Lib.decodeN
    rw [if_neg (by omega), if_neg (by omega), if_neg (by omega), if_neg (by omega)]
theorem runeN_3 {n b0 b1 b2 b3 : Nat} (h : 224 ≤ b0) (h' : b0 < 240) : runeN n b0 b1 b2 b3 = if 2 < n ∧ b1 / 64 = 2 ∧ b2 / 64 = 2 ∧ 2048 ≤ b0 % 16 * 4096 + b1 % 64 * 64 + b2 % 64 ∧ (b0 % 16 * 4096 + b1 % 64 * 64 + b2 % 64 < 55296 ∨ 57344 ≤ b0 % 16 * 4096 + b1 % 64 * 64 + b2 % 64) then (b0 % 16 * 4096 + b1 % 64 * 64 + b2 % 64, 3, true) else (0, 1, false) := by
  by_cases hc : (1 < n ∧ b1 / 64 = 2) ∧ (2 < n ∧ b2 / 64 = 2)
  · by_cases hr : b0 % 16 * 4096 + b1 % 64 * 64 + b2 % 64 ≥ 2048 ∧ (b0 % 16 * 4096 + b1 % 64 * 64 + b2 % 64 < 55296 ∨ (57344 ≤ b0 % 16 * 4096 + b1 % 64 * 64 + b2 % 64 ∧ b0 % 16 * 4096 + b1 % 64 * 64 + b2 % 64 ≤ 1114111))
    · rw [if_pos (by omega)]
      refine runeN_ok ?_ (.inr (by omega))
      unfold Lib.decodeN
      rw [if_neg (show ¬ b0 < 128 by omega), if_neg (by omega), if_pos (show b0 / 16 = 14 ∧ _ from ⟨by omega, hc⟩), if_pos hr]
    · rw [if_neg (by omega)]
      refine runeN_no ?_
      unfold Lib.decodeN
      rw [if_neg (show ¬ b0 < 128 by omega), if_neg (by omega), if_pos (show b0 / 16 = 14 ∧ _ from ⟨by omega, hc⟩), if_neg hr]
  · rw [if_neg (by omega)]
    refine runeN_no ?_
    unfold Lib.decodeN
    rw [if_neg (by omega), if_neg (by omega), if_neg (by omega), if_neg (by omega)]
theorem runeN_4 {n b0 b1 b2 b3 : Nat} (h : 240 ≤ b0) (h' : b0 < 248) : runeN n b0 b1 b2 b3 = if 3 < n ∧ b1 / 64 = 2 ∧ b2 / 64 = 2 ∧ b3 / 64 = 2 ∧ 65536 ≤ b0 % 8 * 262144 + b1 % 64 * 4096 + b2 % 64 * 64 + b3 % 64 ∧ b0 % 8 * 262144 + b1 % 64 * 4096 + b2 % 64 * 64 + b3 % 64 ≤ 1114111 then (b0 % 8 * 262144 + b1 % 64 * 4096 + b2 % 64 * 64 + b3 % 64, 4, true) else (0, 1, false) := by
  by_cases hc : (1 < n ∧ b1 / 64 = 2) ∧ (2 < n ∧ b2 / 64 = 2) ∧ (3 < n ∧ b3 / 64 = 2)
  · by_cases hr : b0 % 8 * 262144 + b1 % 64 * 4096 + b2 % 64 * 64 + b3 % 64 ≥ 65536 ∧ (b0 % 8 * 262144 + b1 % 64 * 4096 + b2 % 64 * 64 + b3 % 64 < 55296 ∨ (57344 ≤ b0 % 8 * 262144 + b1 % 64 * 4096 + b2 % 64 * 64 + b3 % 64 ∧ b0 % 8 * 262144 + b1 % 64 * 4096 + b2 % 64 * 64 + b3 % 64 ≤ 1114111))
    · rw [if_pos (by omega)]
      refine runeN_ok ?_ (.inr (by omega))
      unfold Lib.decodeN
      rw [if_neg (show ¬ b0 < 128 by omega), if_neg (by omega), if_neg (by omega), if_pos (show b0 / 8 = 30 ∧ _ from ⟨by omega, hc⟩), if_pos hr]
    · rw [if_neg (by omega)]
      refine runeN_no ?_
      unfold Lib.decodeN
      rw [if_neg (show ¬ b0 < 128 by omega), if_neg (by omega), if_neg (by omega), if_pos (show b0 / 8 = 30 ∧ _ from ⟨by omega, hc⟩), if_neg hr]
  · rw [if_neg (by omega)]
    refine runeN_no ?_
    unfold Lib.decodeN
    rw [if_neg (by omega), if_neg (by omega), if_neg (by omega), if_neg (by omega)]
theorem runeN_bad {n b0 b1 b2 b3 : Nat} (h : (128 ≤ b0 ∧ b0 < 192) ∨ 248 ≤ b0) (h' : b0 < 256) : runeN n b0 b1 b2 b3 = (0, 1, false) := by
  refine runeN_no ?_
  unfold Lib.decodeN
  rw [if_neg (by omega), if_neg (by omega), if_neg (by omega), if_neg (by omega)]

end Go.Proofs.YtpgcjcggnfagfaaDoor.Vf
