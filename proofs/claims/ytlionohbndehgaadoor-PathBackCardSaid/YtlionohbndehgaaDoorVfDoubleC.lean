
/- Scalars in double quotes: the reference's functions answer as the program's. No condition but sizes. -/
import Derived.Test.YtlionohbndehgaaDoorVfDoubleB
namespace Go.Proofs.YtlionohbndehgaaDoor.Vf
set_option linter.unusedVariables false
set_option linter.unusedSimpArgs false

theorem in_at (i : Nat) (h : i < 17) : ([48, 97, 98, 116, 110, 118, 102, 114, 101, 34, 47, 92, 32, 78, 95, 76, 80] : List UInt8).getD i 0 = UInt8.ofNat (inTab.getD i (0, 0)).1 ∧ (inTab.getD i (0, 0)).1 < 256 ∧
    ([.int .i32 0, .int .i32 7, .int .i32 8, .int .i32 9, .int .i32 10, .int .i32 11, .int .i32 12, .int .i32 13, .int .i32 27, .int .i32 34, .int .i32 47, .int .i32 92, .int .i32 32, .int .i32 133, .int .i32 160, .int .i32 8232, .int .i32 8233] : List AV)[i]? = some (.int .i32 ((inTab.getD i (0, 0)).2 : Nat)) ∧ inTab.drop i = inTab.getD i (0, 0) :: inTab.drop (i + 1) := by
  rcases (show i = 0 ∨ i = 1 ∨ i = 2 ∨ i = 3 ∨ i = 4 ∨ i = 5 ∨ i = 6 ∨ i = 7 ∨ i = 8 ∨ i = 9 ∨ i = 10 ∨ i = 11 ∨ i = 12 ∨ i = 13 ∨ i = 14 ∨ i = 15 ∨ i = 16 by omega) with rfl | rfl | rfl | rfl | rfl | rfl | rfl | rfl | rfl | rfl | rfl | rfl | rfl | rfl | rfl | rfl | rfl
  all_goals exact ⟨rfl, by decide, rfl, rfl⟩
theorem refEsc_loop (N : Nat) (k0 : Int → Option Res) (k1 : Option Res) (c : Nat) : ∀ (f i : Nat), 17 < f + i → i ≤ 17 →
    ref01Escape_L1 D N k0 k1 f (c : Int) [48, 97, 98, 116, 110, 118, 102, 114, 101, 34, 47, 92, 32, 78, 95, 76, 80] [.int .i32 0, .int .i32 7, .int .i32 8, .int .i32 9, .int .i32 10, .int .i32 11, .int .i32 12, .int .i32 13, .int .i32 27, .int .i32 34, .int .i32 47, .int .i32 92, .int .i32 32, .int .i32 133, .int .i32 160, .int .i32 8232, .int .i32 8233] (i : Int) = match inOf (inTab.drop i) c with | some v => k0 (v : Nat) | none => k1 := by
  intro f
  induction f with
  | zero => intro i h h2; omega
  | succ f ih =>
    intro i h hi
    simp only [ref01Escape_L1, ref01Escape_L1s]
    have l17 : ([48, 97, 98, 116, 110, 118, 102, 114, 101, 34, 47, 92, 32, 78, 95, 76, 80] : List UInt8).length = 17 := rfl
    by_cases hlt : i < 17
    · obtain ⟨e1, e0, e2, e3⟩ := in_at i hlt
      rw [cond_d (by omega)]
      simp only [need_d (show (0 : Int) ≤ (i : Int) by omega), Int.toNat_natCast]
      rw [get_bn (by omega), e1, ofNat8 e0, e3]
      simp only [inOf]
      by_cases hc : (inTab.getD i (0, 0)).1 = c
      · rw [cond_eq (by omega), if_pos hc, e2]
        simp only [Option.bind_some, asI_i]
      · rw [cond_ne (by omega), if_neg hc, wrap_i64 (by omega) (by omega), show (i : Int) + 1 = ((i + 1 : Nat) : Int) by omega, ih (i + 1) (by omega) (by omega)]
    · rw [cond_nd (by omega), show i = 17 by omega]; rfl
def inI (c : Nat) : Int := match inOf inTab c with | some v => (v : Int) | none => -1
theorem D_refEscape (c : Nat) : D id_ref01Escape [.int .u8 c] = some ⟨.int .i32 (inI c), false, []⟩ := by
  refine den_fn (N := 100) (F := ref01Escape) rfl rfl ?_
  rw [ref01Escape_eq]
  show ref01Escaper D 100 c = _
  unfold ref01Escaper inI
  refine (refEsc_loop 100 _ _ c 100 0 (by omega) (by omega)).trans ?_
  rw [List.drop_zero]
  cases inOf inTab c <;> rfl

theorem D_refUtf8 (r : Nat) (hr : isRune r) : D id_ref01Utf8 [.int .i32 r] = some ⟨.bytes (Lib.encodeRune (r : Int)), false, []⟩ := by
  unfold isRune at hr
  refine den_fn (N := 0) (F := ref01Utf8) rfl rfl ?_
  rw [ref01Utf8_eq]
  show ref01Utf8r D 0 r = _
  unfold ref01Utf8r
  simp only [fdiv6, fdiv12, fdiv18, low6r]
  by_cases h1 : r < 128
  · rw [cond_d (by omega), wrap_u8 (by omega) (by omega), need_d2 (by omega) (by omega), enc1 h1]
    simp only [Int.toNat_natCast]
  rw [cond_nd (by omega)]
  by_cases h2 : r < 2048
  · rw [cond_d (by omega), top2 _ (by omega), need_nd (by decide), need_d2 (by omega) (by omega), need_d2 (by omega) (by omega), enc2 (by omega) h2]
    simp only [Int.toNat_natCast]
  rw [cond_nd (by omega)]
  by_cases h3 : r < 65536
  · rw [cond_d (by omega), top3 _ (by omega), need_nd (by decide), need_nd (by decide), need_d2 (by omega) (by omega), need_d2 (by omega) (by omega), need_d2 (by omega) (by omega), enc3 (by omega)]
    simp only [Int.toNat_natCast]
  rw [cond_nd (by omega), top4 _ (by omega), need_nd (by decide), need_nd (by decide), need_nd (by decide), need_d2 (by omega) (by omega), need_d2 (by omega) (by omega), need_d2 (by omega) (by omega), need_d2 (by omega) (by omega), enc4 (by omega) (by omega)]
  simp only [Int.toNat_natCast]

def digI (c : UInt8) : Int := match hexV c with | some v => (v : Int) | none => -1
theorem D_refDigit (c : UInt8) : D id_ref01Digit [.int .u8 (c.toNat : Int)] = some ⟨.int .i64 (digI c), false, []⟩ := by
  refine den_fn (N := 0) (F := ref01Digit) rfl rfl ?_
  rw [ref01Digit_eq]
  show ref01Digitr D 0 c.toNat = _
  unfold ref01Digitr digI hexV
  have hb := byte_lt c
  by_cases h1 : 48 ≤ c.toNat ∧ c.toNat ≤ 57
  · rw [cond_d (by omega), cond_d (by omega), if_pos h1, wrap_u8 (by omega) (by omega), wrap_i64 (by omega) (by omega), show (c.toNat : Int) - 48 = ((c.toNat - 48 : Nat) : Int) by omega]
  rw [if_neg h1]
  have upper : ∀ z : Option Res, (65 ≤ c.toNat ∧ c.toNat ≤ 70) → (bif decide ((c.toNat : Int) ≥ 65) then (bif decide ((c.toNat : Int) ≤ 70) then (some (⟨AV.int .i64 (IntKind.i64.wrap ((IntKind.i64.wrap (IntKind.u8.wrap ((c.toNat : Int) - 65))) + 10)), false, []⟩ : Res)) else z) else z) = some ⟨.int .i64 ((c.toNat - 55 : Nat) : Int), false, []⟩ := by
    intro z h
    rw [cond_d (by omega), cond_d (by omega), wrap_u8 (by omega) (by omega), wrap_i64 (x := (c.toNat : Int) - 65) (by omega) (by omega), wrap_i64 (by omega) (by omega), show (c.toNat : Int) - 65 + 10 = ((c.toNat - 55 : Nat) : Int) by omega]
  by_cases h2 : 65 ≤ c.toNat ∧ c.toNat ≤ 70
  · rw [if_pos h2, cond_d (by omega), cond_nd (by omega), cond_d (by omega), cond_d (by omega), wrap_u8 (by omega) (by omega), wrap_i64 (x := (c.toNat : Int) - 65) (by omega) (by omega), wrap_i64 (by omega) (by omega), show (c.toNat : Int) - 65 + 10 = ((c.toNat - 55 : Nat) : Int) by omega]
  rw [if_neg h2]
  by_cases h3 : 97 ≤ c.toNat ∧ c.toNat ≤ 102
  · rw [if_pos h3, cond_d (by omega), cond_nd (by omega), cond_d (by omega), cond_nd (by omega), cond_d (by omega), cond_d (by omega), wrap_u8 (by omega) (by omega), wrap_i64 (x := (c.toNat : Int) - 97) (by omega) (by omega), wrap_i64 (by omega) (by omega), show (c.toNat : Int) - 97 + 10 = ((c.toNat - 87 : Nat) : Int) by omega]
  rw [if_neg h3]
  by_cases g1 : 48 ≤ c.toNat
  · rw [cond_d (by omega), cond_nd (by omega)]
    by_cases g2 : 65 ≤ c.toNat
    · rw [cond_d (by omega), cond_nd (by omega)]
      by_cases g3 : 97 ≤ c.toNat
      · rw [cond_d (by omega), cond_nd (by omega)]
      · rw [cond_nd (by omega)]
    · rw [cond_nd (by omega), cond_nd (by omega)]
  · rw [cond_nd (by omega), cond_nd (by omega), cond_nd (by omega)]

/-- So many digits, as the reference takes them. -/
def numS : List UInt8 → Nat → Nat → Option Nat
  | _, 0, a => some a
  | [], _ + 1, _ => none
  | c :: r, k + 1, a => match hexV c with | none => none | some d => numS r k (a * 16 + d)
theorem numS_eq : ∀ (k : Nat) (l : List UInt8) (a : Nat), numS l k a = if l.length < k then none else numL (l.take k) a
  | 0, l, a => by cases l <;> simp [numS, numL]
  | k + 1, [], a => by simp [numS]
  | k + 1, c :: r, a => by
    simp only [numS, List.length_cons, List.take_succ_cons, numL]
    cases hexV c with
    | none => simp
    | some d =>
      simp only
      rw [numS_eq k r]
      by_cases h : r.length < k
      · rw [if_pos h, if_pos (by omega)]
      · rw [if_neg h, if_neg (by omega)]

theorem escL_num (c : UInt8) (r : List UInt8) (h : digs c.toNat ≠ 0) : escL (c :: r) = match numS r (digs c.toNat) 0 with | none => none | some u => if u < 55296 ∨ (57343 < u ∧ u ≤ 1114111) then some (u, digs c.toNat + 1) else none := by
  have hi : inOf inTab c.toNat = none := by
    unfold digs at h
    by_cases h1 : c.toNat = 120
    · rw [h1]; rfl
    rw [if_neg h1] at h
    by_cases h2 : c.toNat = 117
    · rw [h2]; rfl
    rw [if_neg h2] at h
    by_cases h3 : c.toNat = 85
    · rw [h3]; rfl
    rw [if_neg h3] at h
    exact absurd rfl h
  simp only [escL]
  rw [hi]
  simp only
  rw [if_neg h, numS_eq]
  generalize (if r.length < digs c.toNat then none else numL (r.take (digs c.toNat)) 0) = x
  cases x <;> rfl

end Go.Proofs.YtlionohbndehgaaDoor.Vf
