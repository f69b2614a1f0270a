
/- Scalars in double quotes: the program's functions as plain functions on lists. No condition but sizes. -/
import Derived.Test.YtlionohbndehgaaDoorVfPlain
import Derived.Lib.RuneBytes
import Derived.Lib.MapLaws
namespace Go.Proofs.YtlionohbndehgaaDoor.Vf
set_option linter.unusedVariables false
set_option linter.unusedSimpArgs false

theorem or_add (k m b : Nat) (hb : b < 2 ^ k) (h : m * 2 ^ k + b < 256) (a : Int) (ha : a = ((m * 2 ^ k : Nat) : Int)) : IntKind.u8.wrap ((BitVec.ofInt IntKind.u8.bits a ||| BitVec.ofInt IntKind.u8.bits (IntKind.u8.wrap (b : Int))).toNat : Int) = ((m * 2 ^ k + b : Nat) : Int) := by
  subst ha
  have e : ∀ x : Nat, x < 256 → (BitVec.ofInt IntKind.u8.bits (x : Int)).toNat = x := fun x hx => by
    rw [BitVec.toNat_ofInt]
    show ((x : Int) % ((2 ^ 8 : Nat) : Int)).toNat = x
    omega
  have e2 : (BitVec.ofInt IntKind.u8.bits ((m * 2 ^ k : Nat) : Int) ||| BitVec.ofInt IntKind.u8.bits (IntKind.u8.wrap (b : Int))).toNat = m * 2 ^ k + b := by
    rw [BitVec.toNat_or, wrap_u8 (by omega) (by omega), e _ (by omega), e _ (by omega), ← Nat.shiftLeft_eq, ← Nat.shiftLeft_add_eq_or_of_lt hb, Nat.shiftLeft_eq]
  rw [e2, wrap_u8 (by omega) (by omega)]
theorem top2 (m : Nat) (h : m < 64) : IntKind.u8.wrap ((BitVec.ofInt IntKind.u8.bits 192 ||| BitVec.ofInt IntKind.u8.bits (IntKind.u8.wrap (m : Int))).toNat : Int) = ((192 + m : Nat) : Int) := or_add 6 3 m h (by omega) 192 rfl
theorem top3 (m : Nat) (h : m < 32) : IntKind.u8.wrap ((BitVec.ofInt IntKind.u8.bits 224 ||| BitVec.ofInt IntKind.u8.bits (IntKind.u8.wrap (m : Int))).toNat : Int) = ((224 + m : Nat) : Int) := or_add 5 7 m h (by omega) 224 rfl
theorem top4 (m : Nat) (h : m < 16) : IntKind.u8.wrap ((BitVec.ofInt IntKind.u8.bits 240 ||| BitVec.ofInt IntKind.u8.bits (IntKind.u8.wrap (m : Int))).toNat : Int) = ((240 + m : Nat) : Int) := or_add 4 15 m h (by omega) 240 rfl
theorem wrap8_mod (m : Nat) : IntKind.u8.wrap (m : Int) = ((m % 256 : Nat) : Int) := by
  have e : IntKind.u8.wrap (m : Int) = (m : Int) % 256 := by
    unfold IntKind.wrap; rfl
  rw [e]; omega
theorem ofInt8 (m : Nat) : (BitVec.ofInt IntKind.u8.bits (m : Int)).toNat = m % 256 := by
  rw [BitVec.toNat_ofInt]
  show ((m : Int) % ((2 ^ 8 : Nat) : Int)).toNat = m % 256
  omega
theorem ofInt32 (m : Nat) : (BitVec.ofInt IntKind.i32.bits (m : Int)).toNat = m % 4294967296 := by
  rw [BitVec.toNat_ofInt]
  show ((m : Int) % ((2 ^ 32 : Nat) : Int)).toNat = m % 4294967296
  omega
theorem low6 (m : Nat) : IntKind.u8.wrap ((BitVec.ofInt IntKind.u8.bits 128 ||| BitVec.ofInt IntKind.u8.bits (IntKind.u8.wrap ((BitVec.ofInt IntKind.u8.bits (IntKind.u8.wrap (m : Int)) &&& BitVec.ofInt IntKind.u8.bits 63).toNat : Int))).toNat : Int) = ((128 + m % 64 : Nat) : Int) := by
  have e : (BitVec.ofInt IntKind.u8.bits (IntKind.u8.wrap (m : Int)) &&& BitVec.ofInt IntKind.u8.bits 63).toNat = m % 64 := by
    rw [BitVec.toNat_and, wrap8_mod, ofInt8, show (BitVec.ofInt IntKind.u8.bits 63).toNat = 2 ^ 6 - 1 from by decide, Nat.and_two_pow_sub_one_eq_mod]
    omega
  rw [e]
  exact or_add 6 2 (m % 64) (by omega) (by omega) 128 rfl
theorem low6r (m : Nat) : IntKind.u8.wrap ((BitVec.ofInt IntKind.u8.bits 128 ||| BitVec.ofInt IntKind.u8.bits (IntKind.u8.wrap (IntKind.i32.wrap ((BitVec.ofInt IntKind.i32.bits (m : Int) &&& BitVec.ofInt IntKind.i32.bits 63).toNat : Int)))).toNat : Int) = ((128 + m % 64 : Nat) : Int) := by
  have e : (BitVec.ofInt IntKind.i32.bits (m : Int) &&& BitVec.ofInt IntKind.i32.bits 63).toNat = m % 64 := by
    rw [BitVec.toNat_and, ofInt32, show (BitVec.ofInt IntKind.i32.bits 63).toNat = 2 ^ 6 - 1 from by decide, Nat.and_two_pow_sub_one_eq_mod]
    omega
  rw [e, wrap_i32 (by omega) (by omega)]
  exact or_add 6 2 (m % 64) (by omega) (by omega) 128 rfl
theorem fdiv6 (r : Nat) : Int.fdiv (r : Int) (2 ^ (min (Int.toNat 6) IntKind.i32.bits)) = ((r / 64 : Nat) : Int) := by
  show Int.fdiv (r : Int) 64 = _
  rw [Int.fdiv_eq_ediv_of_nonneg _ (by omega)]; omega
theorem fdiv12 (r : Nat) : Int.fdiv (r : Int) (2 ^ (min (Int.toNat 12) IntKind.i32.bits)) = ((r / 4096 : Nat) : Int) := by
  show Int.fdiv (r : Int) 4096 = _
  rw [Int.fdiv_eq_ediv_of_nonneg _ (by omega)]; omega
theorem fdiv18 (r : Nat) : Int.fdiv (r : Int) (2 ^ (min (Int.toNat 18) IntKind.i32.bits)) = ((r / 262144 : Nat) : Int) := by
  show Int.fdiv (r : Int) 262144 = _
  rw [Int.fdiv_eq_ediv_of_nonneg _ (by omega)]; omega

/-- The bytes of a rune. -/
theorem enc1 {r : Nat} (h : r < 128) : Lib.encodeRune (r : Int) = [UInt8.ofNat r] := by
  unfold Lib.encodeRune; rw [Lib.encodeRuneZ_one (by omega) (by omega)]; simp
theorem enc2 {r : Nat} (h : 128 ≤ r) (h' : r < 2048) : Lib.encodeRune (r : Int) = [UInt8.ofNat (192 + r / 64), UInt8.ofNat (128 + r % 64)] := by
  unfold Lib.encodeRune; rw [Lib.encodeRuneZ_two (by omega) (by omega)]
  simp only [List.map_cons, List.map_nil, show ((192 : Int) + (r : Int) / 64).toNat = 192 + r / 64 by omega, show ((128 : Int) + (r : Int) % 64).toNat = 128 + r % 64 by omega]
theorem enc3 {r : Nat} (h : (2048 ≤ r ∧ r < 55296) ∨ (57343 < r ∧ r ≤ 65535)) : Lib.encodeRune (r : Int) = [UInt8.ofNat (224 + r / 4096), UInt8.ofNat (128 + r / 64 % 64), UInt8.ofNat (128 + r % 64)] := by
  unfold Lib.encodeRune; rw [Lib.encodeRuneZ_three (by omega)]
  simp only [List.map_cons, List.map_nil, show ((224 : Int) + (r : Int) / 4096).toNat = 224 + r / 4096 by omega, show ((128 : Int) + (r : Int) / 64 % 64).toNat = 128 + r / 64 % 64 by omega, show ((128 : Int) + (r : Int) % 64).toNat = 128 + r % 64 by omega]
theorem enc4 {r : Nat} (h : 65536 ≤ r) (h' : r ≤ 1114111) : Lib.encodeRune (r : Int) = [UInt8.ofNat (240 + r / 262144), UInt8.ofNat (128 + r / 4096 % 64), UInt8.ofNat (128 + r / 64 % 64), UInt8.ofNat (128 + r % 64)] := by
  unfold Lib.encodeRune; rw [Lib.encodeRuneZ_four (by omega) (by omega)]
  simp only [List.map_cons, List.map_nil, show ((240 : Int) + (r : Int) / 262144).toNat = 240 + r / 262144 by omega, show ((128 : Int) + (r : Int) / 4096 % 64).toNat = 128 + r / 4096 % 64 by omega, show ((128 : Int) + (r : Int) / 64 % 64).toNat = 128 + r / 64 % 64 by omega, show ((128 : Int) + (r : Int) % 64).toNat = 128 + r % 64 by omega]

/-- Is it a rune that there is? -/
def isRune (r : Nat) : Prop := r < 55296 ∨ (57343 < r ∧ r ≤ 1114111)

theorem D_AppendHigh (s : List UInt8) (r : Nat) (hs : s.length ≤ 1000000) (hr : isRune r) (h : 128 ≤ r) : D id_unicodeUtf8AppendRuneNonASCII [.ref (.bytes s), .int .i32 r] = some ⟨.bytes (s ++ Lib.encodeRune r), true, [.nilI]⟩ := by
  unfold isRune at hr
  refine den_fn (N := 0) (F := unicodeUtf8AppendRuneNonASCII) rfl rfl ?_
  rw [unicodeUtf8AppendRuneNonASCII_eq]
  show unicodeUtf8AppendRuneNonASCIIr D 0 s r = _
  unfold unicodeUtf8AppendRuneNonASCIIr
  rw [wrap_u32 (show (0 : Int) ≤ (r : Int) by omega) (by omega)]
  simp only [fdiv6, fdiv12, fdiv18, low6, List.drop_zero, List.take_length]
  by_cases h2 : r < 2048
  · rw [cond_d (by omega), top2 _ (by omega), need_nd (by decide), need_d2 (by omega) (by omega), need_d2 (by omega) (by omega), need_d (by simp; omega), enc2 h h2]
    simp only [Int.toNat_natCast]
  · rw [cond_nd (by omega)]
    have three : ∀ (_ : (2048 ≤ r ∧ r < 55296) ∨ (57343 < r ∧ r ≤ 65535)),
        (need (!decide ((12 : Int) < 0)) <|
        need (!decide ((6 : Int) < 0)) <|
        need (decide (0 ≤ (IntKind.u8.wrap ((BitVec.ofInt IntKind.u8.bits 224 ||| BitVec.ofInt IntKind.u8.bits (IntKind.u8.wrap ((r / 4096 : Nat) : Int))).toNat : Int))) && decide ((IntKind.u8.wrap ((BitVec.ofInt IntKind.u8.bits 224 ||| BitVec.ofInt IntKind.u8.bits (IntKind.u8.wrap ((r / 4096 : Nat) : Int))).toNat : Int)) < 256)) <|
        need (decide (0 ≤ ((128 + r / 64 % 64 : Nat) : Int)) && decide (((128 + r / 64 % 64 : Nat) : Int) < 256)) <|
        need (decide (0 ≤ ((128 + r % 64 : Nat) : Int)) && decide (((128 + r % 64 : Nat) : Int) < 256)) <|
        need (decide (s.length + [UInt8.ofNat (Int.toNat (IntKind.u8.wrap ((BitVec.ofInt IntKind.u8.bits 224 ||| BitVec.ofInt IntKind.u8.bits (IntKind.u8.wrap ((r / 4096 : Nat) : Int))).toNat : Int))), UInt8.ofNat (Int.toNat ((128 + r / 64 % 64 : Nat) : Int)), UInt8.ofNat (Int.toNat ((128 + r % 64 : Nat) : Int))].length ≤ 1099511627776)) <|
        some (⟨.bytes (s ++ [UInt8.ofNat (Int.toNat (IntKind.u8.wrap ((BitVec.ofInt IntKind.u8.bits 224 ||| BitVec.ofInt IntKind.u8.bits (IntKind.u8.wrap ((r / 4096 : Nat) : Int))).toNat : Int))), UInt8.ofNat (Int.toNat ((128 + r / 64 % 64 : Nat) : Int)), UInt8.ofNat (Int.toNat ((128 + r % 64 : Nat) : Int))]), true, [.nilI]⟩ : Res)) = some ⟨.bytes (s ++ Lib.encodeRune r), true, [.nilI]⟩ := by
      intro hh
      rw [top3 _ (by omega), need_nd (by decide), need_nd (by decide), need_d2 (by omega) (by omega), need_d2 (by omega) (by omega), need_d2 (by omega) (by omega), need_d (by simp; omega), enc3 hh]
      simp only [Int.toNat_natCast]
    by_cases h3 : r < 55296
    · rw [cond_d (by omega), cond_d (by omega)]
      exact three (by omega)
    · rw [cond_nd (by omega), cond_d (by omega)]
      by_cases h4 : r ≤ 65535
      · rw [cond_d (by omega)]
        exact three (by omega)
      · rw [cond_nd (by omega), cond_d (by omega), cond_d (by omega), top4 _ (by omega), need_nd (by decide), need_nd (by decide), need_nd (by decide), need_d2 (by omega) (by omega), need_d2 (by omega) (by omega), need_d2 (by omega) (by omega), need_d2 (by omega) (by omega), need_d (by simp; omega), enc4 (by omega) (by omega)]
        simp only [Int.toNat_natCast]

theorem D_AppendRune (s : List UInt8) (r : Nat) (hs : s.length ≤ 1000000) (hr : isRune r) : D id_unicodeUtf8AppendRune [.ref (.bytes s), .int .i32 r] = some ⟨.bytes (s ++ Lib.encodeRune r), true, [.nilI]⟩ := by
  have hr' := hr
  unfold isRune at hr'
  refine den_fn (N := 0) (F := unicodeUtf8AppendRune) rfl rfl ?_
  rw [unicodeUtf8AppendRune_eq]
  show unicodeUtf8AppendRuner D 0 s r = _
  unfold unicodeUtf8AppendRuner
  rw [wrap_u32 (show (0 : Int) ≤ (r : Int) by omega) (by omega)]
  by_cases h : r < 128
  · rw [cond_d (by omega), wrap_u8 (by omega) (by omega), need_d2 (by omega) (by omega), need_d (by simp; omega), enc1 h]
    simp only [Int.toNat_natCast, List.drop_zero, List.take_length]
  · rw [cond_nd (by omega), D_AppendHigh s r hs hr (by omega)]
    simp only [Option.bind_some, asC_c, asN_n, asY_y, List.drop_zero, List.take_length, Nat.beq_refl]
    rfl

/-- Digits of sixteen. -/
def hexV (c : UInt8) : Option Nat := if 48 ≤ c.toNat ∧ c.toNat ≤ 57 then some (c.toNat - 48) else if 65 ≤ c.toNat ∧ c.toNat ≤ 70 then some (c.toNat - 55) else if 97 ≤ c.toNat ∧ c.toNat ≤ 102 then some (c.toNat - 87) else none
def numL : List UInt8 → Nat → Option Nat
  | [], a => some a
  | c :: r, a => match hexV c with | none => none | some d => numL r (a * 16 + d)
theorem hexV_lt {c : UInt8} {d : Nat} (h : hexV c = some d) : d < 16 := by
  unfold hexV at h
  split at h
  · simp at h; omega
  · split at h
    · simp at h; omega
    · split at h
      · simp at h; omega
      · cases h
theorem numL_lt : ∀ (l : List UInt8) (a u : Nat), numL l a = some u → u < (a + 1) * 16 ^ l.length
  | [], a, u, h => by simp [numL] at h; simp; omega
  | c :: r, a, u, h => by
    simp only [numL] at h
    cases hc : hexV c with
    | none => rw [hc] at h; cases h
    | some d =>
      rw [hc] at h
      have h1 := numL_lt r _ u h
      have h2 := hexV_lt hc
      have h3 : (a * 16 + d + 1) * 16 ^ r.length ≤ (a + 1) * 16 * 16 ^ r.length := Nat.mul_le_mul_right _ (by omega)
      rw [List.length_cons, Nat.pow_succ]
      have h4 : (a + 1) * 16 * 16 ^ r.length = (a + 1) * (16 ^ r.length * 16) := by rw [Nat.mul_assoc, Nat.mul_comm 16]
      omega
def upF : Fin 256 → Bool := fun k =>
  let c := UInt8.ofNat k.1
  let d : UInt8 := if 97 ≤ c.toNat ∧ c.toNat ≤ 102 then UInt8.ofNat (c.toNat - 32) else c
  Lib.indexByte [48, 49, 50, 51, 52, 53, 54, 55, 56, 57, 65, 66, 67, 68, 69, 70] d == (match hexV c with | some v => (v : Int) | none => -1)
theorem upF_all : ∀ k : Fin 256, upF k = true := by decide +kernel
theorem index16 (c : UInt8) : Lib.indexByte [48, 49, 50, 51, 52, 53, 54, 55, 56, 57, 65, 66, 67, 68, 69, 70] (if 97 ≤ c.toNat ∧ c.toNat ≤ 102 then UInt8.ofNat (c.toNat - 32) else c) = (match hexV c with | some v => (v : Int) | none => -1) := by
  have := upF_all ⟨c.toNat, byte_lt c⟩
  unfold upF at this
  simp only [UInt8.ofNat_toNat] at this
  exact beq_iff_eq.1 this

theorem or16 (a d : Nat) (ha : a * 16 + d < 4294967296) (hd : d < 16) : IntKind.u32.wrap ((BitVec.ofInt IntKind.u32.bits (IntKind.u32.wrap ((a : Int) * 2 ^ (min (Int.toNat 4) IntKind.u32.bits))) ||| BitVec.ofInt IntKind.u32.bits (IntKind.u32.wrap (d : Int))).toNat : Int) = ((a * 16 + d : Nat) : Int) := by
  have e : ∀ x : Nat, x < 4294967296 → (BitVec.ofInt IntKind.u32.bits (x : Int)).toNat = x := fun x hx => by
    rw [BitVec.toNat_ofInt]
    show ((x : Int) % ((2 ^ 32 : Nat) : Int)).toNat = x
    omega
  have e0 : ((a : Int) * 2 ^ (min (Int.toNat 4) IntKind.u32.bits)) = ((a * 16 : Nat) : Int) := by
    show (a : Int) * 16 = _
    omega
  have e2 : (BitVec.ofInt IntKind.u32.bits (IntKind.u32.wrap ((a * 16 : Nat) : Int)) ||| BitVec.ofInt IntKind.u32.bits (IntKind.u32.wrap (d : Int))).toNat = a * 16 + d := by
    rw [BitVec.toNat_or, wrap_u32 (by omega) (by omega), wrap_u32 (by omega) (by omega), e _ (by omega), e _ (by omega), show a * 16 = a * 2 ^ 4 from rfl, ← Nat.shiftLeft_eq, ← Nat.shiftLeft_add_eq_or_of_lt (show d < 2 ^ 4 from hd), Nat.shiftLeft_eq]
  rw [e0, e2, wrap_u32 (by omega) (by omega)]

def numR (x : Option Nat) : Option Res := some ⟨.tup [.int .u32 ((x.getD 0 : Nat) : Int), .bool x.isSome], false, []⟩
theorem num_loop (s : List UInt8) (hs : s.length ≤ 8) (N : Nat) (k0 : Int → Bool → Option Res) (k1 : Int → Option Res) (hk0 : k0 0 false = numR none) (hk1 : ∀ n : Nat, k1 n = numR (some n)) : ∀ (f i a : Nat), s.length < i + f → i ≤ s.length → (a + 1) * 16 ^ (s.length - i) ≤ 4294967296 →
    doubleNumber_L1 D N k0 k1 f (a : Int) s (s.length : Nat) (i : Int) = numR (numL (s.drop i) a) := by
  intro f
  induction f with
  | zero => intro i a h; omega
  | succ f ih =>
    intro i a h hi ha
    simp only [doubleNumber_L1, doubleNumber_L1s]
    by_cases hlt : i < s.length
    · rw [cond_d (by omega), need_d (by omega)]
      simp only [Int.toNat_natCast]
      rw [get_bn hlt, drop_step hlt]
      generalize s.getD i 0 = c
      simp only [numL]
      have hb := byte_lt c
      obtain ⟨k, hk⟩ : ∃ k, s.length - i = k + 1 := ⟨s.length - i - 1, by omega⟩
      have hk' : s.length - (i + 1) = k := by omega
      rw [hk, Nat.pow_succ] at ha
      have hp : 1 ≤ 16 ^ k := Nat.pow_pos (by omega)
      have ha16 : (a + 1) * 16 ≤ 4294967296 := by
        have : (a + 1) * (1 * 16) ≤ (a + 1) * (16 ^ k * 16) := Nat.mul_le_mul_left _ (Nat.mul_le_mul_right _ hp)
        omega
      have go : ∀ v : Nat, v < 16 → (need (!decide ((4 : Int) < 0)) <|
          doubleNumber_L1 D N k0 k1 f (IntKind.u32.wrap ((BitVec.ofInt IntKind.u32.bits (IntKind.u32.wrap ((a : Int) * 2 ^ (min (Int.toNat 4) IntKind.u32.bits))) ||| BitVec.ofInt IntKind.u32.bits (IntKind.u32.wrap (v : Int))).toNat : Int)) s (s.length : Nat) (IntKind.i64.wrap ((i : Int) + 1))) = numR (numL (s.drop (i + 1)) (a * 16 + v)) := by
        intro v hv
        rw [need_nd (by decide), or16 a v (by omega) hv, wrap_i64 (by omega) (by omega), show (i : Int) + 1 = ((i + 1 : Nat) : Int) by omega]
        refine ih (i + 1) _ (by omega) (by omega) ?_
        rw [hk']
        have : (a * 16 + v + 1) * 16 ^ k ≤ (a + 1) * 16 * 16 ^ k := Nat.mul_le_mul_right _ (by omega)
        have h4 : (a + 1) * 16 * 16 ^ k = (a + 1) * (16 ^ k * 16) := by rw [Nat.mul_assoc, Nat.mul_comm 16]
        omega
      have fin : ∀ d : UInt8, d = (if 97 ≤ c.toNat ∧ c.toNat ≤ 102 then UInt8.ofNat (c.toNat - 32) else c) →
          ((D id_stringsIndexByte [AV.str ([48, 49, 50, 51, 52, 53, 54, 55, 56, 57, 65, 66, 67, 68, 69, 70] : List UInt8), AV.int .u8 (d.toNat : Int)]).bind fun r1 =>
          asI .i64 r1.v fun i5 =>
          bif decide ((i5 : Int) < 0) then
            (k0 0 false)
          else
            need (!decide ((4 : Int) < 0)) <|
            doubleNumber_L1 D N k0 k1 f (IntKind.u32.wrap ((BitVec.ofInt IntKind.u32.bits (IntKind.u32.wrap ((a : Int) * 2 ^ (min (Int.toNat 4) IntKind.u32.bits))) ||| BitVec.ofInt IntKind.u32.bits (IntKind.u32.wrap i5)).toNat : Int)) s (s.length : Nat) (IntKind.i64.wrap ((i : Int) + 1))) =
          numR (match hexV c with | none => none | some d => numL (s.drop (i + 1)) (a * 16 + d)) := by
        intro d hd
        rw [D_sIndexByte, hd, index16]
        simp only [Option.bind_some, asI_i]
        cases hv : hexV c with
        | none => exact hk0
        | some v =>
          simp only
          rw [cond_nd (by omega)]
          exact go v (hexV_lt hv)
      by_cases h1 : 97 ≤ c.toNat
      · rw [cond_d (by omega)]
        by_cases h2 : c.toNat ≤ 102
        · rw [cond_d (by omega), wrap_u8 (x := (c.toNat : Int) - 97) (by omega) (by omega), wrap_u8 (by omega) (by omega), show (c.toNat : Int) - 97 + 65 = ((UInt8.ofNat (c.toNat - 32)).toNat : Int) by rw [UInt8.toNat_ofNat', Nat.mod_eq_of_lt (by omega)]; omega]
          exact fin _ (by rw [if_pos ⟨h1, h2⟩])
        · rw [cond_nd (by omega)]
          exact fin _ (by rw [if_neg (fun h => h2 h.2)])
      · rw [cond_nd (by omega)]
        exact fin _ (by rw [if_neg (fun h => h1 h.1)])
    · rw [cond_nd (by omega), List.drop_eq_nil_of_le (by omega)]
      exact hk1 a
theorem D_number (b : List UInt8) (n : Nat) (hn : n ≤ 8) : D id_doubleNumber [.bytes b, .int .i64 n] = numR (if b.length < n then none else numL (b.take n) 0) := by
  refine den_fn (N := 100) (F := doubleNumber) rfl rfl ?_
  rw [doubleNumber_eq]
  show doubleNumberr D 100 b n = _
  unfold doubleNumberr
  by_cases h : b.length < n
  · rw [cond_d (by omega), if_pos h]; rfl
  · rw [cond_nd (by omega), if_neg h, need_d2 (by omega) (by omega)]
    simp only [Int.toNat_natCast, List.drop_zero]
    have hl : (b.take n).length = n := by rw [List.length_take]; omega
    refine (num_loop (b.take n) (by omega) 100 _ _ rfl (fun _ => rfl) 100 0 0 (by omega) (by omega) ?_).trans ?_
    · rw [hl, Nat.sub_zero, Nat.zero_add, Nat.one_mul]
      have : 16 ^ n ≤ 16 ^ 8 := Nat.pow_le_pow_right (by omega) hn
      exact this
    · rw [List.drop_zero]; rfl

/-- What a letter behind a backslash stands for. -/
def inTab : List (Nat × Nat) := [(48, 0), (97, 7), (98, 8), (116, 9), (110, 10), (118, 11), (102, 12), (114, 13), (101, 27), (34, 34), (47, 47), (92, 92), (32, 32), (78, 133), (95, 160), (76, 8232), (80, 8233)]
def inOf : List (Nat × Nat) → Nat → Option Nat
  | [], _ => none
  | (k, v) :: t, c => if k = c then some v else inOf t c
def digs (c : Nat) : Nat := if c = 120 then 2 else if c = 117 then 4 else if c = 85 then 8 else 0
def escL : List UInt8 → Option (Nat × Nat)
  | [] => none
  | c :: r => match inOf inTab c.toNat with
    | some v => some (v, 1)
    | none => if digs c.toNat = 0 then none else
      match (if r.length < digs c.toNat then none else numL (r.take (digs c.toNat)) 0) with
      | none => none
      | some u => if u < 55296 ∨ (57343 < u ∧ u ≤ 1114111) then some (u, digs c.toNat + 1) else none
def escR (x : Option (Nat × Nat)) : Option Res := some ⟨.tup [.int .i32 (((x.getD (0, 0)).1 : Nat) : Int), .int .i64 (((x.getD (0, 0)).2 : Nat) : Int), .bool x.isSome], false, []⟩
theorem inTab_rune : ∀ p ∈ inTab, p.2 < 55296 := by decide
theorem inOf_rune : ∀ (t : List (Nat × Nat)) (c v : Nat), (∀ p ∈ t, p.2 < 55296) → inOf t c = some v → v < 55296
  | [], c, v, _, h => by cases h
  | (k, w) :: t, c, v, ht, h => by
    simp only [inOf] at h
    split at h
    · cases h; exact ht (k, w) (List.mem_cons_self ..)
    · exact inOf_rune t c v (fun p hp => ht p (List.mem_cons_of_mem _ hp)) h
theorem escL_rune {l : List UInt8} {u k : Nat} (h : escL l = some (u, k)) : isRune u ∧ 1 ≤ k ∧ k ≤ l.length := by
  cases l with
  | nil => cases h
  | cons c r =>
    simp only [escL] at h
    cases hi : inOf inTab c.toNat with
    | some v =>
      rw [hi] at h
      simp only [Option.some.injEq, Prod.mk.injEq] at h
      obtain ⟨rfl, rfl⟩ := h
      exact ⟨.inl (inOf_rune _ _ _ inTab_rune hi), Nat.le_refl _, by simp⟩
    | none =>
      rw [hi] at h
      simp only at h
      split at h
      · cases h
      · by_cases hr : r.length < digs c.toNat
        · rw [if_pos hr] at h; cases h
        · rw [if_neg hr] at h
          cases hn : numL (r.take (digs c.toNat)) 0 with
          | none => rw [hn] at h; cases h
          | some x =>
            rw [hn] at h
            simp only at h
            split at h
            · simp only [Option.some.injEq, Prod.mk.injEq] at h
              obtain ⟨rfl, rfl⟩ := h
              rename_i hh
              exact ⟨hh, by omega, by simp only [List.length_cons]; omega⟩
            · cases h

def lettersF : Fin 256 → Bool := fun k =>
  let c := UInt8.ofNat k.1
  let i := Lib.indexByte [48, 97, 98, 116, 110, 118, 102, 114, 101, 78, 95, 76, 80] c
  let j := Lib.indexByte [34, 47, 92, 32] c
  if 0 ≤ i then decide (i.toNat < 13) && (inOf inTab c.toNat == some (([0, 7, 8, 9, 10, 11, 12, 13, 27, 133, 160, 8232, 8233] : List Nat).getD i.toNat 0))
  else if 0 ≤ j then inOf inTab c.toNat == some c.toNat else inOf inTab c.toNat == none
theorem lettersF_all : ∀ k : Fin 256, lettersF k = true := by decide +kernel
theorem D_runes : D id_doubleRunes [] = some ⟨.row 1 (([0, 7, 8, 9, 10, 11, 12, 13, 27, 133, 160, 8232, 8233] : List Nat).map fun n : Nat => AV.int .i32 (n : Int)), false, []⟩ :=
  den_fn (N := 0) (F := doubleRunes) rfl rfl (by rw [doubleRunes_eq]; rfl)
theorem D_digits (c : Nat) : D id_doubleDigits [.int .u8 c] = some ⟨.int .i64 (digs c : Nat), false, []⟩ := by
  refine den_fn (N := 0) (F := doubleDigits) rfl rfl ?_
  rw [doubleDigits_eq]
  show doubleDigitsr D 0 c = _
  unfold doubleDigitsr digs
  by_cases h1 : c = 120
  · rw [cond_eq (by omega), if_pos h1]; rfl
  rw [cond_ne (by omega), if_neg h1]
  by_cases h2 : c = 117
  · rw [cond_eq (by omega), if_pos h2]; rfl
  rw [cond_ne (by omega), if_neg h2]
  by_cases h3 : c = 85
  · rw [cond_eq (by omega), if_pos h3]; rfl
  rw [cond_ne (by omega), if_neg h3]; rfl

theorem D_escape (s : List UInt8) (hs : s.length ≤ 1000000) : D id_doubleEscape [.bytes s] = escR (escL s) := by
  refine den_fn (N := 0) (F := doubleEscape) rfl rfl ?_
  rw [doubleEscape_eq]
  show doubleEscaper D 0 s = _
  unfold doubleEscaper
  cases s with
  | nil => rfl
  | cons c r =>
    have hF := lettersF_all ⟨c.toNat, byte_lt c⟩
    simp only [lettersF, UInt8.ofNat_toNat] at hF
    have hb := byte_lt c
    rw [cond_ne (by simp only [List.length_cons]; omega)]
    simp only [need_d (show (0 : Int) ≤ 0 by omega), show Int.toNat 0 = 0 from rfl, List.getElem?_cons_zero, Option.bind_some, D_sIndexByte, asI_i, D_runes, asR_r, D_digits]
    simp only [escL]
    by_cases hi : 0 ≤ Lib.indexByte [48, 97, 98, 116, 110, 118, 102, 114, 101, 78, 95, 76, 80] c
    · rw [if_pos hi] at hF
      simp only [Bool.and_eq_true, decide_eq_true_eq, beq_iff_eq] at hF
      rw [cond_d hi, need_d hi, hF.2]
      generalize (Lib.indexByte [48, 97, 98, 116, 110, 118, 102, 114, 101, 78, 95, 76, 80] c).toNat = i at hF
      have : (([0, 7, 8, 9, 10, 11, 12, 13, 27, 133, 160, 8232, 8233] : List Nat).map fun n : Nat => AV.int .i32 (n : Int))[i]? = some (.int .i32 ((([0, 7, 8, 9, 10, 11, 12, 13, 27, 133, 160, 8232, 8233] : List Nat).getD i 0 : Nat) : Int)) := by
        have hl : i < ([0, 7, 8, 9, 10, 11, 12, 13, 27, 133, 160, 8232, 8233] : List Nat).length := hF.1
        rw [List.getElem?_map, List.getD_eq_getElem?_getD, List.getElem?_eq_getElem hl]; rfl
      rw [this]
      simp only [Option.bind_some, asI_i]
      rfl
    · rw [if_neg hi] at hF
      rw [cond_nd hi]
      by_cases hj : 0 ≤ Lib.indexByte [34, 47, 92, 32] c
      · rw [if_pos hj] at hF
        simp only [beq_iff_eq] at hF
        rw [cond_d hj, hF, wrap_i32 (by omega) (by omega)]
        rfl
      · rw [if_neg hj] at hF
        simp only [beq_iff_eq] at hF
        rw [cond_nd hj, hF]
        simp only
        by_cases hd : digs c.toNat = 0
        · rw [cond_eq (by omega), if_pos hd]; rfl
        · have hd8 : digs c.toNat ≤ 8 := by
            unfold digs; repeat' split
            all_goals omega
          rw [cond_ne (by omega), if_neg hd, need_d2 (by omega) (by simp only [List.length_cons]; omega)]
          simp only [List.take_length, show Int.toNat 1 = 1 from rfl, List.drop_succ_cons, List.drop_zero]
          rw [D_number r _ hd8]
          have hx : ∀ u, (if r.length < digs c.toNat then none else numL (r.take (digs c.toNat)) 0) = some u → u < 4294967296 := by
            intro u hu
            by_cases hr : r.length < digs c.toNat
            · rw [if_pos hr] at hu; cases hu
            · rw [if_neg hr] at hu
              have h1 := numL_lt _ _ _ hu
              have h2 : (r.take (digs c.toNat)).length = digs c.toNat := by rw [List.length_take]; omega
              rw [h2] at h1
              have : 16 ^ digs c.toNat ≤ 16 ^ 8 := Nat.pow_le_pow_right (by omega) hd8
              omega
          generalize (if r.length < digs c.toNat then none else numL (r.take (digs c.toNat)) 0) = x at hx
          cases x with
          | none => rfl
          | some u =>
            have hu := hx u rfl
            simp only [numR, Option.bind_some, asJBT, asT_t, asC_c, asI_i, asB_b, asN_n, Option.getD_some, Option.isSome_some, Bool.not_true, cond_false]
            by_cases h1 : u ≤ 1114111
            · rw [cond_nd (by omega), wrap_i64 (by omega) (by omega), wrap_i32 (by omega) (by omega)]
              by_cases h2 : 55296 ≤ u
              · rw [cond_d (by omega)]
                by_cases h3 : u ≤ 57343
                · rw [cond_d (by omega), if_neg (by omega)]; rfl
                · rw [cond_nd (by omega), if_pos (by omega)]; rfl
              · rw [cond_nd (by omega), if_pos (by omega)]; rfl
            · rw [cond_d (by omega), if_neg (by omega)]; rfl
end Go.Proofs.YtlionohbndehgaaDoor.Vf
