
/- Scalars in double quotes: the reference's functions answer as the program's. No condition but sizes. -/
import Derived.Test.YtlionohbndehgaaDoorVfDoubleB
namespace Go.Proofs.YtlionohbndehgaaDoor.Vf
set_option linter.unusedVariables false
set_option linter.unusedSimpArgs false

theorem in_at (i : Nat) (h : i < 17) : ([48, 97, 98, 116, 110, 118, 102, 114, 101, 34, 47, 92, 32, 78, 95, 76, 80] : List UInt8).getD i 0 = UInt8.ofNat (inTab.getD i (0, 0)).1 ∧ (inTab.getD i (0, 0)).1 < 256 ∧
    ([.int .i32 0, .int .i32 7, .int .i32 8, .int .i32 9, .int .i32 10, .int .i32 11, .int .i32 12, .int .i32 13, .int .i32 27, .int .i32 34, .int .i32 47, .int .i32 92, .int .i32 32, .int .i32 133, .int .i32 160, .int .i32 8232, .int .i32 8233] : List AV)[i]? = some (.int .i32 ((inTab.getD i (0, 0)).2 : Nat)) ∧ inTab.drop i = inTab.getD i (0, 0) :: inTab.drop (i + 1) := by
  rcases (show i = 0 ∨ i = 1 ∨ i = 2 ∨ i = 3 ∨ i = 4 ∨ i = 5 ∨ i = 6 ∨ i = 7 ∨ i = 8 ∨ i = 9 ∨ i = 10 ∨ i = 11 ∨ i = 12 ∨ i = 13 ∨ i = 14 ∨ i = 15 ∨ i = 16 by omega) with rfl | rfl | rfl | rfl | rfl | rfl | rfl | rfl | rfl | rfl | rfl | rfl | rfl | rfl | rfl | rfl | rfl
  all_goals exact ⟨rfl, by decide, rfl, rfl⟩
theorem refEsc_loop (N : Nat) (k0 : Int → Option Res) (k1 : Option Res) (c : Nat) : ∀ (f i : Nat), 17 < f + i → i ≤ 17 →
    ref01Escape_L1 D N k0 k1 f (c : Int) [48, 97, 98, 116, 110, 118, 102, 114, 101, 34, 47, 92, 32, 78, 95, 76, 80] [.int .i32 0, .int .i32 7, .int .i32 8, .int .i32 9, .int .i32 10, .int .i32 11, .int .i32 12, .int .i32 13, .int .i32 27, .int .i32 34, .int .i32 47, .int .i32 92, .int .i32 32, .int .i32 133, .int .i32 160, .int .i32 8232, .int .i32 8233] (i : Int) = match inOf (inTab.drop i) c with | some v => k0 (v : Nat) | none => k1 := by
  intro f
  induction f with
  | zero => intro i h h2; omega
  | succ f ih =>
    intro i h hi
    simp only [ref01Escape_L1, ref01Escape_L1s]
    have l17 : ([48, 97, 98, 116, 110, 118, 102, 114, 101, 34, 47, 92, 32, 78, 95, 76, 80] : List UInt8).length = 17 := rfl
    by_cases hlt : i < 17
    · obtain ⟨e1, e0, e2, e3⟩ := in_at i hlt
      rw [cond_d (by omega)]
      simp only [need_d (show (0 : Int) ≤ (i : Int) by omega), Int.toNat_natCast]
      rw [get_bn (by omega), e1, ofNat8 e0, e3]
      simp only [inOf]
      by_cases hc : (inTab.getD i (0, 0)).1 = c
      · rw [cond_eq (by omega), if_pos hc, e2]
        simp only [Option.bind_some, asI_i]
      · rw [cond_ne (by omega), if_neg hc, wrap_i64 (by omega) (by omega), show (i : Int) + 1 = ((i + 1 : Nat) : Int) by omega, ih (i + 1) (by omega) (by omega)]
    · rw [cond_nd (by omega), show i = 17 by omega]; rfl
def inI (c : Nat) : Int := match inOf inTab c with | some v => (v : Int) | none => -1
theorem D_refEscape (c : Nat) : D id_ref01Escape [.int .u8 c] = some ⟨.int .i32 (inI c), false, []⟩ := by
  refine den_fn (N := 100) (F := ref01Escape) rfl rfl ?_
  rw [ref01Escape_eq]
  show ref01Escaper D 100 c = _
  unfold ref01Escaper inI
  refine (refEsc_loop 100 _ _ c 100 0 (by omega) (by omega)).trans ?_
  rw [List.drop_zero]
  cases inOf inTab c <;> rfl

theorem D_refUtf8 (r : Nat) (hr : isRune r) : D id_ref01Utf8 [.int .i32 r] = some ⟨.bytes (Lib.encodeRune (r : Int)), false, []⟩ := by
  unfold isRune at hr
  refine den_fn (N := 0) (F := ref01Utf8) rfl rfl ?_
  rw [ref01Utf8_eq]
  show ref01Utf8r D 0 r = _
  unfold ref01Utf8r
  simp only [fdiv6, fdiv12, fdiv18, low6r]
  by_cases h1 : r < 128
  · rw [cond_d (by omega), wrap_u8 (by omega) (by omega), need_d2 (by omega) (by omega), enc1 h1]
    simp only [Int.toNat_natCast]
  rw [cond_nd (by omega)]
  by_cases h2 : r < 2048
  · rw [cond_d (by omega), top2 _ (by omega), need_nd (by decide), need_d2 (by omega) (by omega), need_d2 (by omega) (by omega), enc2 (by omega) h2]
    simp only [Int.toNat_natCast]
  rw [cond_nd (by omega)]
  by_cases h3 : r < 65536
  · rw [cond_d (by omega), top3 _ (by omega), need_nd (by decide), need_nd (by decide), need_d2 (by omega) (by omega), need_d2 (by omega) (by omega), need_d2 (by omega) (by omega), enc3 (by omega)]
    simp only [Int.toNat_natCast]
  rw [cond_nd (by omega), top4 _ (by omega), need_nd (by decide), need_nd (by decide), need_nd (by decide), need_d2 (by omega) (by omega), need_d2 (by omega) (by omega), need_d2 (by omega) (by omega), need_d2 (by omega) (by omega), enc4 (by omega) (by omega)]
  simp only [Int.toNat_natCast]

def digI (c : UInt8) : Int := match hexV c with | some v => (v : Int) | none => -1
theorem D_refDigit (c : UInt8) : D id_ref01Digit [.int .u8 (c.toNat : Int)] = some ⟨.int .i64 (digI c), false, []⟩ := by
  refine den_fn (N := 0) (F := ref01Digit) rfl rfl ?_
  rw [ref01Digit_eq]
  show ref01Digitr D 0 c.toNat = _
  unfold ref01Digitr digI hexV
  have hb := byte_lt c
  by_cases h1 : 48 ≤ c.toNat ∧ c.toNat ≤ 57
  · rw [cond_d (by omega), cond_d (by omega), if_pos h1, wrap_u8 (by omega) (by omega), wrap_i64 (by omega) (by omega), show (c.toNat : Int) - 48 = ((c.toNat - 48 : Nat) : Int) by omega]
  rw [if_neg h1]
  have upper : ∀ z : Option Res, (65 ≤ c.toNat ∧ c.toNat ≤ 70) → (bif decide ((c.toNat : Int) ≥ 65) then (bif decide ((c.toNat : Int) ≤ 70) then (some (⟨AV.int .i64 (IntKind.i64.wrap ((IntKind.i64.wrap (IntKind.u8.wrap ((c.toNat : Int) - 65))) + 10)), false, []⟩ : Res)) else z) else z) = some ⟨.int .i64 ((c.toNat - 55 : Nat) : Int), false, []⟩ := by
    intro z h
    rw [cond_d (by omega), cond_d (by omega), wrap_u8 (by omega) (by omega), wrap_i64 (x := (c.toNat : Int) - 65) (by omega) (by omega), wrap_i64 (by omega) (by omega), show (c.toNat : Int) - 65 + 10 = ((c.toNat - 55 : Nat) : Int) by omega]
  by_cases h2 : 65 ≤ c.toNat ∧ c.toNat ≤ 70
  · rw [if_pos h2, cond_d (by omega), cond_nd (by omega), cond_d (by omega), cond_d (by omega), wrap_u8 (by omega) (by omega), wrap_i64 (x := (c.toNat : Int) - 65) (by omega) (by omega), wrap_i64 (by omega) (by omega), show (c.toNat : Int) - 65 + 10 = ((c.toNat - 55 : Nat) : Int) by omega]
  rw [if_neg h2]
  by_cases h3 : 97 ≤ c.toNat ∧ c.toNat ≤ 102
  · rw [if_pos h3, cond_d (by omega), cond_nd (by omega), cond_d (by omega), cond_nd (by omega), cond_d (by omega), cond_d (by omega), wrap_u8 (by omega) (by omega), wrap_i64 (x := (c.toNat : Int) - 97) (by omega) (by omega), wrap_i64 (by omega) (by omega), show (c.toNat : Int) - 97 + 10 = ((c.toNat - 87 : Nat) : Int) by omega]
  rw [if_neg h3]
  by_cases g1 : 48 ≤ c.toNat
  · rw [cond_d (by omega), cond_nd (by omega)]
    by_cases g2 : 65 ≤ c.toNat
    · rw [cond_d (by omega), cond_nd (by omega)]
      by_cases g3 : 97 ≤ c.toNat
      · rw [cond_d (by omega), cond_nd (by omega)]
      · rw [cond_nd (by omega)]
    · rw [cond_nd (by omega), cond_nd (by omega)]
  · rw [cond_nd (by omega), cond_nd (by omega), cond_nd (by omega)]

/-- So many digits, as the reference takes them. -/
def numS : List UInt8 → Nat → Nat → Option Nat
  | _, 0, a => some a
  | [], _ + 1, _ => none
  | c :: r, k + 1, a => match hexV c with | none => none | some d => numS r k (a * 16 + d)
theorem numS_eq : ∀ (k : Nat) (l : List UInt8) (a : Nat), numS l k a = if l.length < k then none else numL (l.take k) a
  | 0, l, a => by cases l <;> simp [numS, numL]
  | k + 1, [], a => by simp [numS]
  | k + 1, c :: r, a => by
    simp only [numS, List.length_cons, List.take_succ_cons, numL]
    cases hexV c with
    | none => simp
    | some d =>
      simp only
      rw [numS_eq k r]
      by_cases h : r.length < k
      · rw [if_pos h, if_pos (by omega)]
      · rw [if_neg h, if_neg (by omega)]

theorem refNum_loop (s out : List UInt8) (hs : s.length ≤ 100000) (N : Nat) (i n : Nat) (hn : n ≤ 8) (k0 : List UInt8 → Int → Bool → Option Res) (k1 : List UInt8 → Int → Int → Int → List UInt8 → Option Res) : ∀ (f j a : Nat), n < f + j → j ≤ n → i + 2 ≤ s.length + 1 → (a + 1) * 16 ^ (n - j) ≤ 4294967296 →
    ref01TakeDouble_L2 D N k0 k1 f s i n a j out = match numS (s.drop (i + 2 + j)) (n - j) a with | none => k0 [] 0 false | some u => k1 s i n (u : Nat) out := by
  intro f
  induction f with
  | zero => intro j a h; omega
  | succ f ih =>
    intro j a h hj hi ha
    simp only [ref01TakeDouble_L2, ref01TakeDouble_L2s]
    by_cases hlt : j < n
    · obtain ⟨k, hk⟩ : ∃ k, n - j = k + 1 := ⟨n - j - 1, by omega⟩
      have w1 : IntKind.i64.wrap ((IntKind.i64.wrap ((i : Int) + 2)) + (j : Int)) = ((i + 2 + j : Nat) : Int) := by
        rw [wrap_i64 (x := (i : Int) + 2) (by omega) (by omega), wrap_i64 (by omega) (by omega)]; omega
      rw [cond_d (by omega), w1]
      by_cases hend : s.length ≤ i + 2 + j
      · rw [cond_d (by omega), List.drop_eq_nil_of_le hend, hk]; rfl
      · have hil : i + 2 + j < s.length := by omega
        rw [cond_nd (by omega)]
        simp only [need_d (show (0 : Int) ≤ ((i + 2 + j : Nat) : Int) by omega), Int.toNat_natCast, get_bn hil, D_refDigit, Option.bind_some, asI_i]
        rw [drop_step hil, hk]
        generalize s.getD (i + 2 + j) 0 = c
        rw [hk, Nat.pow_succ] at ha
        have hp : 1 ≤ 16 ^ k := Nat.pow_pos (by omega)
        have ha16 : (a + 1) * 16 ≤ 4294967296 := by
          have : (a + 1) * (1 * 16) ≤ (a + 1) * (16 ^ k * 16) := Nat.mul_le_mul_left _ (Nat.mul_le_mul_right _ hp)
          omega
        cases hv : hexV c with
        | none =>
          have e1 : digI c = -1 := by unfold digI; rw [hv]
          have e2 : ∀ r : List UInt8, numS (c :: r) (k + 1) a = none := fun r => by simp only [numS, hv]
          rw [e1, e2, cond_d (by omega)]
        | some d =>
          have hd := hexV_lt hv
          have e1 : digI c = (d : Int) := by unfold digI; rw [hv]
          have e2 : ∀ r : List UInt8, numS (c :: r) (k + 1) a = numS r k (a * 16 + d) := fun r => by simp only [numS, hv]
          rw [e1, e2, cond_nd (by omega), wrap_i64 (x := 16 * (a : Int)) (by omega) (by omega), wrap_i64 (x := 16 * (a : Int) + (d : Int)) (by omega) (by omega), wrap_i64 (by omega) (by omega), show 16 * (a : Int) + (d : Int) = ((a * 16 + d : Nat) : Int) by omega, show (j : Int) + 1 = ((j + 1 : Nat) : Int) by omega]
          refine (ih (j + 1) (a * 16 + d) (by omega) (by omega) hi ?_).trans ?_
          · rw [show n - (j + 1) = k by omega]
            have : (a * 16 + d + 1) * 16 ^ k ≤ (a + 1) * 16 * 16 ^ k := Nat.mul_le_mul_right _ (by omega)
            have h4 : (a + 1) * 16 * 16 ^ k = (a + 1) * (16 ^ k * 16) := by rw [Nat.mul_assoc, Nat.mul_comm 16]
            omega
          · rw [show n - (j + 1) = k by omega, show i + 2 + (j + 1) = i + 2 + j + 1 by omega]
    · rw [cond_nd (by omega), show n - j = 0 by omega]
      cases s.drop (i + 2 + j) <;> rfl

theorem escL_num (c : UInt8) (r : List UInt8) (h : digs c.toNat ≠ 0) : escL (c :: r) = match numS r (digs c.toNat) 0 with | none => none | some u => if u < 55296 ∨ (57343 < u ∧ u ≤ 1114111) then some (u, digs c.toNat + 1) else none := by
  have hi : inOf inTab c.toNat = none := by
    unfold digs at h
    by_cases h1 : c.toNat = 120
    · rw [h1]; rfl
    rw [if_neg h1] at h
    by_cases h2 : c.toNat = 117
    · rw [h2]; rfl
    rw [if_neg h2] at h
    by_cases h3 : c.toNat = 85
    · rw [h3]; rfl
    rw [if_neg h3] at h
    exact absurd rfl h
  simp only [escL]
  rw [hi]
  simp only
  rw [if_neg h, numS_eq]
  generalize (if r.length < digs c.toNat then none else numL (r.take (digs c.toNat)) 0) = x
  cases x <;> rfl

theorem refTake6_loop (s : List UInt8) (hs : s.length ≤ 100000) (N : Nat) (hN : 10 ≤ N) (k0 : List UInt8 → Int → Bool → Option Res) (k1 : Option Res) (hk0 : k0 [] 0 false = dR none) (hk0' : ∀ (out : List UInt8) (n : Nat), k0 out n true = dR (some (out, n))) (hk1 : k1 = dR none) : ∀ (f i : Nat) (out : List UInt8), s.length < i + f → i ≤ s.length → out.length ≤ 4 * i →
    ref01TakeDouble_L1 D N k0 k1 f s i out = dR (dt (s.drop i) i out) := by
  intro f
  induction f with
  | zero => intro i out h; omega
  | succ f ih =>
    intro i out h hi ho
    simp only [ref01TakeDouble_L1, ref01TakeDouble_L1s]
    by_cases hlt : i < s.length
    · rw [cond_d (by omega), need_d (by omega)]
      simp only [Int.toNat_natCast]
      rw [get_bn hlt, drop_step hlt, dt_cons]
      have hb := byte_lt (s.getD i 0)
      generalize s.getD i 0 = c at hb
      have w1 : IntKind.i64.wrap ((i : Int) + 1) = ((i + 1 : Nat) : Int) := by rw [wrap_i64 (by omega) (by omega)]; omega
      have w2 : IntKind.i64.wrap ((i : Int) + 2) = ((i + 2 : Nat) : Int) := by rw [wrap_i64 (by omega) (by omega)]; omega
      rw [w1]
      simp only [w2, List.drop_zero, List.take_length, Int.toNat_natCast, UInt8.ofNat_toNat]
      by_cases h10 : c.toNat = 10
      · rw [cond_eq (by omega), if_pos (.inl h10)]; exact hk0
      rw [cond_ne (by omega)]
      by_cases h13 : c.toNat = 13
      · rw [cond_eq (by omega), if_pos (.inr h13)]; exact hk0
      rw [cond_ne (by omega), if_neg (by omega)]
      by_cases h34 : c.toNat = 34
      · rw [cond_eq (by omega), if_pos h34]; exact hk0' _ _
      rw [cond_ne (by omega), if_neg h34]
      by_cases h92 : c.toNat = 92
      · rw [cond_beq (by omega), if_pos h92]
        by_cases hend : i + 1 < s.length
        · rw [cond_nd (by omega)]
          simp only [need_d (show (0 : Int) ≤ ((i + 1 : Nat) : Int) by omega), get_bn hend, D_refEscape, Option.bind_some, asI_i]
          rw [drop_step hend]
          have hb2 := byte_lt (s.getD (i + 1) 0)
          generalize s.getD (i + 1) 0 = d at hb2
          -- by number
          have num : ∀ n : Nat, n ≤ 8 → n ≠ 0 → digs d.toNat = n → ∀ (K0 : List UInt8 → Int → Bool → Option Res) (K1 : List UInt8 → Int → Int → Int → List UInt8 → Option Res), K0 = (fun s13 i17 b3 => k0 s13 i17 b3) → K1 = (fun s14 i18 i19 i20 s15 =>
                      bif decide ((i20 : Int) > 1114111) then
                        (k0 ([] : List UInt8) 0 false)
                      else
                        bif decide ((i20 : Int) ≥ 55296) then
                          (bif decide ((i20 : Int) ≤ 57343) then
                            (k0 ([] : List UInt8) 0 false)
                          else
                            (D id_ref01Utf8 [AV.int .i32 (IntKind.i32.wrap i20)]).bind fun r5 =>
                            asY r5.v fun s16 =>
                            need (decide (s15.length + s16.length ≤ 1099511627776)) <|
                            ref01TakeDouble_L1 D N k0 k1 f s14 (IntKind.i64.wrap (i18 + (IntKind.i64.wrap (2 + i19)))) (s15 ++ s16))
                        else
                          (D id_ref01Utf8 [AV.int .i32 (IntKind.i32.wrap i20)]).bind fun r6 =>
                          asY r6.v fun s17 =>
                          need (decide (s15.length + s17.length ≤ 1099511627776)) <|
                          ref01TakeDouble_L1 D N k0 k1 f s14 (IntKind.i64.wrap (i18 + (IntKind.i64.wrap (2 + i19)))) (s15 ++ s17)) →
              ref01TakeDouble_L2 D N K0 K1 N s i n 0 0 out = dR (match escL (d :: s.drop (i + 1 + 1)) with | none => none | some (u, m) => dt ((d :: s.drop (i + 1 + 1)).drop m) (i + 1 + m) (out ++ Lib.encodeRune (u : Int))) := by
            intro n hn8 hn0 hdg K0 K1 hK0 hK1
            have hp8 : (0 + 1) * 16 ^ (n - 0) ≤ 4294967296 := by
              have : 16 ^ n ≤ 16 ^ 8 := Nat.pow_le_pow_right (by omega) hn8
              rw [Nat.sub_zero, Nat.zero_add, Nat.one_mul]
              exact this
            refine (refNum_loop s out hs N i n hn8 K0 K1 N 0 0 (by omega) (by omega) (by omega) hp8).trans ?_
            rw [escL_num d _ (by omega), hdg, Nat.sub_zero, Nat.add_zero]
            have hbound : ∀ u, numS (s.drop (i + 2)) n 0 = some u → u < 4294967296 ∧ n ≤ s.length - (i + 2) := by
              intro u hu
              rw [numS_eq] at hu
              by_cases hl : (s.drop (i + 2)).length < n
              · rw [if_pos hl] at hu; cases hu
              · rw [if_neg hl] at hu
                have h1 := numL_lt _ _ _ hu
                have h2 : ((s.drop (i + 2)).take n).length = n := by rw [List.length_take]; omega
                rw [h2] at h1
                rw [Nat.sub_zero] at hp8
                rw [List.length_drop] at hl
                exact ⟨by omega, by omega⟩
            show (match numS (s.drop (i + 2)) n 0 with | none => K0 [] 0 false | some u => K1 s i n (u : Nat) out) = dR (match (match numS (s.drop (i + 2)) n 0 with | none => none | some u => if u < 55296 ∨ (57343 < u ∧ u ≤ 1114111) then some (u, n + 1) else none) with | none => none | some (u, m) => dt ((d :: s.drop (i + 1 + 1)).drop m) (i + 1 + m) (out ++ Lib.encodeRune (u : Int)))
            cases hu : numS (s.drop (i + 2)) n 0 with
            | none => rw [hK0]; exact hk0
            | some u =>
              obtain ⟨hu1, hu2⟩ := hbound u hu
              rw [hK1]
              simp only
              have go : isRune u → ((D id_ref01Utf8 [AV.int .i32 (IntKind.i32.wrap (u : Int))]).bind fun r6 =>
                          asY r6.v fun s17 =>
                          need (decide (out.length + s17.length ≤ 1099511627776)) <|
                          ref01TakeDouble_L1 D N k0 k1 f s (IntKind.i64.wrap ((i : Int) + (IntKind.i64.wrap (2 + (n : Int))))) (out ++ s17)) = dR (dt (s.drop (i + 1 + (n + 1))) (i + 1 + (n + 1)) (out ++ Lib.encodeRune (u : Int))) := by
                intro hru
                have hru' := hru
                unfold isRune at hru'
                have h4 := enc_len6 (u : Int)
                rw [wrap_i32 (by omega) (by omega), D_refUtf8 u hru]
                simp only [Option.bind_some, asY_y]
                rw [need_d (by omega), wrap_i64 (x := 2 + (n : Int)) (by omega) (by omega), wrap_i64 (by omega) (by omega), show (i : Int) + (2 + (n : Int)) = ((i + 1 + (n + 1) : Nat) : Int) by omega]
                exact ih _ _ (by omega) (by omega) (by rw [List.length_append]; omega)
              have hdr : (d :: s.drop (i + 1 + 1)).drop (n + 1) = s.drop (i + 1 + (n + 1)) := by
                rw [List.drop_succ_cons, List.drop_drop, show i + 1 + 1 + n = i + 1 + (n + 1) by omega]
              by_cases c1 : u ≤ 1114111
              · rw [cond_nd (by omega)]
                by_cases c2 : 55296 ≤ u
                · rw [cond_d (by omega)]
                  by_cases c3 : u ≤ 57343
                  · rw [cond_d (by omega), if_neg (by omega)]; exact hk0
                  · rw [cond_nd (by omega), if_pos (by omega)]
                    simp only
                    rw [hdr]
                    exact go (.inr (by omega))
                · rw [cond_nd (by omega), if_pos (by omega)]
                  simp only
                  rw [hdr]
                  exact go (.inl (by omega))
              · rw [cond_d (by omega), if_neg (by omega)]; exact hk0
          by_cases g1 : d.toNat = 120
          · rw [cond_eq (by omega), cond_ne (by omega)]
            exact num 2 (by omega) (by omega) (by rw [g1]; rfl) _ _ rfl rfl
          rw [cond_ne (by omega)]
          by_cases g2 : d.toNat = 117
          · rw [cond_eq (by omega), cond_ne (by omega)]
            exact num 4 (by omega) (by omega) (by rw [g2]; rfl) _ _ rfl rfl
          rw [cond_ne (by omega)]
          by_cases g3 : d.toNat = 85
          · rw [cond_eq (by omega), cond_ne (by omega)]
            exact num 8 (by omega) (by omega) (by rw [g3]; rfl) _ _ rfl rfl
          rw [cond_ne (by omega)]
          have hdg : digs d.toNat = 0 := by unfold digs; rw [if_neg g1, if_neg g2, if_neg g3]
          rw [cond_eq rfl]
          have hesc : escL (d :: s.drop (i + 1 + 1)) = match inOf inTab d.toNat with | some v => some (v, 1) | none => none := by
            simp only [escL]
            cases inOf inTab d.toNat with
            | some v => rfl
            | none => simp only; rw [if_pos hdg]
          rw [hesc]
          unfold inI
          cases hin : inOf inTab d.toNat with
          | none => simp only; rw [cond_d (by omega)]; exact hk0
          | some v =>
            have hv : isRune v := .inl (inOf_rune _ _ _ inTab_rune hin)
            have h4 := enc_len6 (v : Int)
            simp only
            rw [cond_nd (by omega), D_refUtf8 v hv]
            simp only [Option.bind_some, asY_y]
            rw [need_d (by omega)]
            simp only [List.drop_succ_cons, List.drop_zero]
            exact ih (i + 2) _ (by omega) (by omega) (by rw [List.length_append]; omega)
        · rw [cond_d (by omega), List.drop_eq_nil_of_le (by omega)]; exact hk0
      · rw [cond_bne (by omega), if_neg h92, need_d2 (by omega) (by omega), need_d (by simp; omega)]
        exact ih _ _ (by omega) (by omega) (by rw [List.length_append, List.length_singleton]; omega)
    · rw [cond_nd (by omega), List.drop_eq_nil_of_le (by omega)]; exact hk1
theorem D_refTake6 (s : List UInt8) (hs : s.length ≤ 100000) : D id_ref01TakeDouble [.bytes s] = dR (dtakeP s) := by
  refine den_fn (N := s.length + 10) (F := ref01TakeDouble) rfl rfl ?_
  rw [ref01TakeDouble_eq]
  show ref01TakeDoubler D _ s = _
  unfold ref01TakeDoubler
  cases s with
  | nil => rfl
  | cons c r =>
    rw [cond_ne (by simp only [List.length_cons]; omega), need_d (by omega)]
    simp only [show Int.toNat 0 = 0 from rfl, List.getElem?_cons_zero, Option.bind_some, dtakeP]
    by_cases h : c.toNat = 34
    · rw [cond_beq (by omega), if_pos h]
      refine (refTake6_loop (c :: r) hs _ (by omega) _ _ rfl (fun _ _ => rfl) rfl ((c :: r).length + 10) 1 [] (by omega) (by simp) (by simp)).trans ?_
      rfl
    · rw [cond_bne (by omega), if_neg h]; rfl
end Go.Proofs.YtlionohbndehgaaDoor.Vf
