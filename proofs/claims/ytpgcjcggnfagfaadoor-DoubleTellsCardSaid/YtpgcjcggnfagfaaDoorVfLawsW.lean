
/- The laws of chapter 6 on digits, on what is put and taken, on texts put together. -/
import Derived.Test.YtpgcjcggnfagfaaDoorVfDoubleB
import Derived.Test.YtpgcjcggnfagfaaDoorVfDoubled
import Derived.Test.YtpgcjcggnfagfaaDoorVfUtf
import Derived.Test.YtpgcjcggnfagfaaDoorVfCheck
namespace Go.Proofs.YtpgcjcggnfagfaaDoor.Vf
set_option linter.unusedVariables false
set_option linter.unusedSimpArgs false

theorem D_Hex6 (n : Nat) (hn : n < 4294967296) (d : Int) : D id_doubleHex [.int .u32 n, .int .i64 d] = some ⟨.str (if d < 0 ∨ 8 < d then [] else hexL d.toNat n), false, []⟩ := by
  refine den_fn (N := 100) (F := doubleHex) rfl rfl ?_
  rw [doubleHex_eq]
  show doubleHexr D 100 n d = _
  unfold doubleHexr
  by_cases h0 : d < 0
  · rw [cond_d h0, if_pos (.inl h0)]
  rw [cond_nd h0]
  by_cases h8 : d > 8
  · rw [cond_d h8, if_pos (.inr h8)]
  obtain ⟨k, rfl⟩ : ∃ k : Nat, d = k := ⟨d.toNat, by omega⟩
  rw [cond_nd h8, if_neg (by omega)]
  refine (Vf.hex_loop D 100 _ k (by omega) 100 0 n [] (by omega) (by omega) hn (by simp)).trans ?_
  rw [Nat.sub_zero, List.append_nil, Int.toNat_natCast]

def capHex (c : UInt8) : Prop := (48 ≤ c.toNat ∧ c.toNat ≤ 57) ∨ (65 ≤ c.toNat ∧ c.toNat ≤ 70)
theorem hexL_cap : ∀ (k n : Nat), ∀ c ∈ hexL k n, capHex c
  | 0, n, c, h => by cases h
  | k + 1, n, c, h => by
    simp only [hexL, List.mem_append, List.mem_singleton] at h
    rcases h with h | rfl
    · exact hexL_cap k _ c h
    · exact (hexC_val ⟨n % 16, Nat.mod_lt _ (by omega)⟩).2
theorem runeAt_one (s : List UInt8) (n : Nat) (h : n < s.length) (h7 : (s.getD n 0).toNat < 128) : (runeAt s n).2 = 1 := by
  rw [runeAt_width s n h, drop_step h, rune_cons, runeN_1 h7]
theorem mem_getD (s : List UInt8) (n : Nat) (h : n < s.length) : s.getD n 0 ∈ s := by
  rw [List.getD_eq_getElem?_getD, List.getElem?_eq_getElem h]; exact List.getElem_mem h

theorem or64 (a d : Nat) (ha : a * 16 + d < 18446744073709551616) (hd : d < 16) : IntKind.u64.wrap ((BitVec.ofInt IntKind.u64.bits (IntKind.u64.wrap ((a : Int) * 2 ^ (min (Int.toNat 4) IntKind.u64.bits))) ||| BitVec.ofInt IntKind.u64.bits (IntKind.u64.wrap (d : Int))).toNat : Int) = ((a * 16 + d : Nat) : Int) := by
  have w : ∀ x : Nat, x < 18446744073709551616 → IntKind.u64.wrap (x : Int) = (x : Int) := fun x hx => by
    have e : IntKind.u64.wrap (x : Int) = (x : Int) % 18446744073709551616 := by unfold IntKind.wrap; rfl
    rw [e]; omega
  have e : ∀ x : Nat, x < 18446744073709551616 → (BitVec.ofInt IntKind.u64.bits (x : Int)).toNat = x := fun x hx => by
    rw [BitVec.toNat_ofInt]
    show ((x : Int) % ((2 ^ 64 : Nat) : Int)).toNat = x
    omega
  have e0 : ((a : Int) * 2 ^ (min (Int.toNat 4) IntKind.u64.bits)) = ((a * 16 : Nat) : Int) := by
    show (a : Int) * 16 = _
    omega
  have e2 : (BitVec.ofInt IntKind.u64.bits (IntKind.u64.wrap ((a * 16 : Nat) : Int)) ||| BitVec.ofInt IntKind.u64.bits (IntKind.u64.wrap (d : Int))).toNat = a * 16 + d := by
    rw [BitVec.toNat_or, w _ (by omega), w _ (by omega), e _ (by omega), e _ (by omega), show a * 16 = a * 2 ^ 4 from rfl, ← Nat.shiftLeft_eq, ← Nat.shiftLeft_add_eq_or_of_lt (show d < 2 ^ 4 from hd), Nat.shiftLeft_eq]
  rw [e0, e2, w _ ha]
theorem dhex_loop (s : List UInt8) (hs : ∀ c ∈ s, capHex c) (N : Nat) (p q : Int) (k0 : Bool → Option Res) (k1 : Int → Int → Int → Option Res) (u : Nat) : ∀ (f i v : Nat), s.length < f + i → i ≤ s.length → (v + 1) * 16 ^ (s.length - i) ≤ 4294967296 → numL (s.drop i) v = some u →
    law06DoubleHex_L1 D N k0 k1 f p q s v s i = k1 p q u := by
  intro f
  induction f with
  | zero => intro i v h; omega
  | succ f ih =>
    intro i v h hi hv hu
    simp only [law06DoubleHex_L1, law06DoubleHex_L1s]
    by_cases hlt : i < s.length
    · have hc := hs _ (mem_getD s i hlt)
      rw [cond_d hlt, need_d (by omega)]
      simp only [Int.toNat_natCast]
      rw [get_bn hlt, runeAt_one s i hlt (by unfold capHex at hc; omega)]
      rw [drop_step hlt] at hu
      generalize s.getD i 0 = c at hc hu
      obtain ⟨k, hk⟩ : ∃ k, s.length - i = k + 1 := ⟨s.length - i - 1, by omega⟩
      rw [hk, Nat.pow_succ] at hv
      have hp : 1 ≤ 16 ^ k := Nat.pow_pos (by omega)
      have ha16 : (v + 1) * 16 ≤ 4294967296 := by
        have : (v + 1) * (1 * 16) ≤ (v + 1) * (16 ^ k * 16) := Nat.mul_le_mul_left _ (Nat.mul_le_mul_right _ hp)
        omega
      simp only [numL] at hu
      have go : ∀ d : Nat, d < 16 → hexV c = some d → (need (!decide ((4 : Int) < 0)) <|
          law06DoubleHex_L1 D N k0 k1 f p q s (IntKind.u64.wrap ((BitVec.ofInt IntKind.u64.bits (IntKind.u64.wrap ((v : Int) * 2 ^ (min (Int.toNat 4) IntKind.u64.bits))) ||| BitVec.ofInt IntKind.u64.bits (IntKind.u64.wrap (d : Int))).toNat : Int)) s (i + 1)) = k1 p q u := by
        intro d hd hcd
        rw [hcd] at hu
        rw [need_nd (by decide), or64 v d (by omega) hd]
        refine ih (i + 1) _ (by omega) (by omega) ?_ hu
        rw [show s.length - (i + 1) = k by omega]
        have : (v * 16 + d + 1) * 16 ^ k ≤ (v + 1) * 16 * 16 ^ k := Nat.mul_le_mul_right _ (by omega)
        have h4 : (v + 1) * 16 * 16 ^ k = (v + 1) * (16 ^ k * 16) := by rw [Nat.mul_assoc, Nat.mul_comm 16]
        omega
      rcases hc with ⟨h1, h2⟩ | ⟨h1, h2⟩
      · rw [cond_d (by omega), cond_d (by omega), wrap_u8 (x := (c.toNat : Int) - 48) (by omega) (by omega), show (c.toNat : Int) - 48 = ((c.toNat - 48 : Nat) : Int) by omega]
        exact go _ (by omega) (by unfold hexV; rw [if_pos ⟨h1, h2⟩])
      · rw [cond_d (by omega), cond_nd (by omega), cond_d (by omega), cond_d (by omega), wrap_u8 (x := (c.toNat : Int) - 65) (by omega) (by omega), wrap_u8 (by omega) (by omega), show (c.toNat : Int) - 65 + 10 = ((c.toNat - 55 : Nat) : Int) by omega]
        exact go _ (by omega) (by unfold hexV; rw [if_neg (by omega), if_pos ⟨h1, h2⟩])
    · rw [cond_nd (by omega)]
      rw [List.drop_eq_nil_of_le (by omega)] at hu
      simp only [numL, Option.some.injEq] at hu
      rw [hu]
theorem mask64 (n k : Nat) (hn : n < 4294967296) (hk : k ≤ 8) : IntKind.u64.wrap ((BitVec.ofInt IntKind.u64.bits (IntKind.u64.wrap (n : Int)) &&& BitVec.ofInt IntKind.u64.bits (IntKind.u64.wrap ((IntKind.u64.wrap (1 * 2 ^ (min (IntKind.u64.wrap (IntKind.i64.wrap (4 * (k : Int)))).toNat IntKind.u64.bits))) - 1))).toNat : Int) = ((n % 16 ^ k : Nat) : Int) := by
  have w : ∀ x : Nat, x < 18446744073709551616 → IntKind.u64.wrap (x : Int) = (x : Int) := fun x hx => by
    have e : IntKind.u64.wrap (x : Int) = (x : Int) % 18446744073709551616 := by unfold IntKind.wrap; rfl
    rw [e]; omega
  have e : ∀ x : Nat, x < 18446744073709551616 → (BitVec.ofInt IntKind.u64.bits (x : Int)).toNat = x := fun x hx => by
    rw [BitVec.toNat_ofInt]
    show ((x : Int) % ((2 ^ 64 : Nat) : Int)).toNat = x
    omega
  have hm : IntKind.u64.wrap ((IntKind.u64.wrap (1 * 2 ^ (min (IntKind.u64.wrap (IntKind.i64.wrap (4 * (k : Int)))).toNat IntKind.u64.bits))) - 1) = ((2 ^ (4 * k) - 1 : Nat) : Int) := by
    obtain rfl | rfl | rfl | rfl | rfl | rfl | rfl | rfl | rfl : k = 0 ∨ k = 1 ∨ k = 2 ∨ k = 3 ∨ k = 4 ∨ k = 5 ∨ k = 6 ∨ k = 7 ∨ k = 8 := by omega
    all_goals rfl
  have hp : 2 ^ (4 * k) ≤ 2 ^ 32 := Nat.pow_le_pow_right (by omega) (by omega)
  have h16 : (16 : Nat) ^ k = 2 ^ (4 * k) := by rw [Nat.pow_mul]
  have e2 : (BitVec.ofInt IntKind.u64.bits (IntKind.u64.wrap (n : Int)) &&& BitVec.ofInt IntKind.u64.bits ((2 ^ (4 * k) - 1 : Nat) : Int)).toNat = n % 2 ^ (4 * k) := by
    rw [BitVec.toNat_and, w _ (by omega), e _ (by omega), e _ (by omega), Nat.and_two_pow_sub_one_eq_mod]
  have hle : n % 2 ^ (4 * k) ≤ n := Nat.mod_le _ _
  rw [hm, e2, w _ (by omega), h16]

theorem dhex_fin (n k : Nat) (hn : n < 4294967296) (hk : k ≤ 8) (kk : Int → Int → Int → Option Res) (hkk : ∀ u : Nat, kk n k u = (need (!decide ((IntKind.u64.wrap (IntKind.i64.wrap (4 * (k : Int)))) < 0)) <|
      bif (u : Int) == (IntKind.u64.wrap ((BitVec.ofInt IntKind.u64.bits (IntKind.u64.wrap (n : Int)) &&& BitVec.ofInt IntKind.u64.bits (IntKind.u64.wrap ((IntKind.u64.wrap (1 * 2 ^ (min (IntKind.u64.wrap (IntKind.i64.wrap (4 * (k : Int)))).toNat IntKind.u64.bits))) - 1))).toNat : Int)) then
        ((D id_law06Wakes []).bind fun r5 =>
        asB r5.v fun b6 =>
        some (⟨AV.bool b6, false, []⟩ : Res))
      else
        some ⟨AV.bool false, false, []⟩)) (k0 : Bool → Option Res) :
    law06DoubleHex_L1 D 100 k0 kk 100 n k (hexL k n) 0 (hexL k n) 0 = some ⟨.bool true, false, []⟩ := by
  have hp : 16 ^ k ≤ 16 ^ 8 := Nat.pow_le_pow_right (by omega) hk
  have hd := dhex_loop (hexL k n) (hexL_cap k n) 100 n k k0 kk (n % 16 ^ k) 100 0 0 (by rw [hexL_length]; omega) (by omega) (by rw [hexL_length, Nat.sub_zero, Nat.zero_add, Nat.one_mul]; exact hp) (by rw [List.drop_zero]; exact numL_hex k n)
  refine hd.trans ?_
  rw [hkk, mask64 n k hn hk, D_wakes06, need_nd (by
    obtain rfl | rfl | rfl | rfl | rfl | rfl | rfl | rfl | rfl : k = 0 ∨ k = 1 ∨ k = 2 ∨ k = 3 ∨ k = 4 ∨ k = 5 ∨ k = 6 ∨ k = 7 ∨ k = 8 := by omega
    all_goals decide)]
  rw [cond_eq rfl]; rfl

theorem D_DoubleHex (i1 i2 : Int) (h0 : 0 ≤ i1) (h1 : i1 ≤ 4294967295) : D id_law06DoubleHex [.int .u32 i1, .int .i64 i2] = some ⟨.bool true, false, []⟩ := by
  obtain ⟨n, rfl⟩ : ∃ n : Nat, i1 = n := ⟨i1.toNat, by omega⟩
  refine den_fn (N := 100) (F := law06DoubleHex) rfl rfl ?_
  rw [law06DoubleHex_eq]
  show law06DoubleHexr D 100 n i2 = _
  unfold law06DoubleHexr
  rw [need_nd (by decide)]
  by_cases h5 : Int.tmod i2 5 = 4
  · rw [cond_beq h5, D_Hex6 n (by omega), D_wakes06]
    simp only [Option.bind_some, asS_s, asB_b]
    by_cases hn : i2 < 0
    · rw [cond_d hn, if_pos (.inl hn)]; rfl
    rw [cond_nd hn]
    by_cases h8 : i2 > 8
    · rw [cond_d h8, if_pos (.inr h8)]; rfl
    rw [cond_nd h8, if_neg (by omega)]
    obtain ⟨k, rfl⟩ : ∃ k : Nat, i2 = k := ⟨i2.toNat, by omega⟩
    rw [Int.toNat_natCast, hexL_length, cond_beq rfl]
    exact dhex_fin n k (by omega) (by omega) _ (fun u => by rw [D_wakes06]; rfl) _
  · rw [cond_bne h5, D_Within i2 9 (by omega) (by omega)]
    obtain ⟨k, hk, ek⟩ : ∃ k : Nat, k < 9 ∧ i2 % 9 = (k : Int) := ⟨(i2 % 9).toNat, by omega, by omega⟩
    simp only [Option.bind_some, asI_i, ek]
    rw [D_Hex6 n (by omega), D_wakes06]
    simp only [Option.bind_some, asS_s, asB_b]
    rw [cond_nd (by omega), cond_nd (by omega), if_neg (by omega), Int.toNat_natCast, hexL_length, cond_beq rfl]
    exact dhex_fin n k (by omega) (by omega) _ (fun u => by rw [D_wakes06]; rfl) _

theorem txt_inj {a b : List Nat} (ha : ∀ r ∈ a, isRune r) (hb : ∀ r ∈ b, isRune r) (h : 34 :: dq a ++ [34] = 34 :: dq b ++ [34]) : txt a = txt b := by
  have h1 := take_put a ha []
  have h2 := take_put b hb []
  rw [h, h2] at h1
  simp only [Option.some.injEq, Prod.mk.injEq] at h1
  exact h1.1.symm
theorem dq_of_txt {a b : List Nat} (ha : ∀ r ∈ a, isRune r) (hb : ∀ r ∈ b, isRune r) (h : txt a = txt b) : dq a = dq b := by
  rw [← put_txt a _ ha (Nat.le_refl _), ← put_txt b _ hb (Nat.le_refl _), h]
theorem dq_len : ∀ rs : List Nat, (dq rs).length ≤ 10 * rs.length
  | [] => Nat.le_refl _
  | r :: rs => by
    have h1 := dq_len rs
    have h2 := Vf.oneL_len r
    rw [dq_cons, List.length_append, List.length_cons]; omega
theorem rs_len : ∀ rs : List Nat, rs.length ≤ (txt rs).length
  | [] => Nat.le_refl _
  | r :: rs => by
    have h1 := rs_len rs
    have h2 := (enc_len6 (r : Int)).1
    rw [txt_cons, List.length_append, List.length_cons]; omega

theorem D_DoubleApart (s1 s2 : List UInt8) : D id_law06DoubleApart [.str s1, .str s2] = some ⟨.bool true, false, []⟩ := by
  refine den_fn (N := 0) (F := law06DoubleApart) rfl rfl ?_
  rw [law06DoubleApart_eq]
  show law06DoubleApartr D 0 s1 s2 = _
  unfold law06DoubleApartr
  rw [show (40 : Int) = ((40 : Nat) : Int) from rfl, D_Text _ 40 (by omega), D_Text _ 40 (by omega)]
  simp only [Option.bind_some, asS_s]
  have hs : (s1.take 40).length ≤ 40 := by rw [List.length_take]; omega
  have ht : (s2.take 40).length ≤ 40 := by rw [List.length_take]; omega
  generalize s1.take 40 = s at hs
  generalize s2.take 40 = t at ht
  rw [D_Put6 s (by omega), D_Put6 t (by omega), D_wakes06]
  simp only [Option.bind_some, asSBT, asT_t, asC_c, asS_s, asB_b, asN_n]
  cases hv : Lib.validD s
  · rfl
  cases hw : Lib.validD t
  · rfl
  obtain ⟨a, ha, rfl, hpa⟩ := valid_iff s hv
  obtain ⟨b, hb, rfl, hpb⟩ := valid_iff t hw
  have hla := dq_len a
  have hlb := dq_len b
  have hra := rs_len a
  have hrb := rs_len b
  simp only [Bool.not_true, cond_false, if_true]
  rw [hpa, hpb]
  have heq : ((34 :: dq a ++ [34]) == (34 :: dq b ++ [34])) = (txt a == txt b) := by
    rw [Bool.eq_iff_iff, beq_iff_eq, beq_iff_eq]
    exact ⟨txt_inj ha hb, fun h => by rw [dq_of_txt ha hb h]⟩
  have la : (34 :: dq a ++ [34]).length = (dq a).length + 2 := by simp
  have lb : (34 :: dq b ++ [34]).length = (dq b).length + 2 := by simp
  have hab : ∀ r ∈ a ++ b, isRune r := fun r hr => (List.mem_append.1 hr).elim (ha r) (hb r)
  obtain ⟨hvab, hpab⟩ := valid_of (a ++ b) hab
  rw [txt_append] at hvab
  rw [txt_append, dq_append] at hpab
  have hta := take_put a ha (34 :: dq b ++ [34])
  have htb := take_put b hb []
  rw [List.append_nil] at htb
  have pt : (34 :: dq a ++ [34]).take ((dq a).length + 1) = 34 :: dq a := List.take_left' (by simp)
  have qd : (34 :: dq b ++ [34]).drop 1 = dq b ++ [34] := rfl
  have rr : 34 :: (dq a ++ dq b) ++ [34] = (34 :: dq a) ++ (dq b ++ [34]) := by simp
  rw [rr] at hpab
  rw [heq, need_d (by rw [la, lb]; omega), D_Take6 _ (by rw [List.length_append, la, lb]; omega), hta, D_Take6 _ (by rw [lb]; omega), htb]
  generalize 34 :: dq a ++ [34] = P at *
  generalize 34 :: dq b ++ [34] = Q at *
  have lR : ((34 :: dq a) ++ (dq b ++ [34])).length = (dq a).length + (dq b).length + 2 := by simp only [List.length_append, List.length_cons, List.length_nil]; omega
  have lA : (34 :: dq a).length = (dq a).length + 1 := rfl
  have lB : (dq b ++ [34]).length = (dq b).length + 1 := by simp
  simp only [dR, Option.getD_some, Option.isSome_some, Option.bind_some, asSIBT, asT_t, asC_c, asS_s, asI_i, asB_b, asN_n, beq_self_eq_true, Bool.not_true, cond_false, cond_true]
  rw [cond_beq rfl, need_d (by omega), D_Put6 _ (by rw [List.length_append]; omega), hvab, hpab]
  simp only [Option.bind_some, asSBT, asT_t, asC_c, asS_s, asB_b, asN_n, if_true, cond_true]
  rw [wrap_i64 (x := (P.length : Int) + (Q.length : Int)) (by omega) (by omega), wrap_i64 (x := (P.length : Int) + (Q.length : Int) - 2) (by omega) (by omega), cond_eq (by rw [lR]; omega),
    wrap_i64 (x := (P.length : Int) - 1) (by omega) (by omega), show (P.length : Int) - 1 = (((dq a).length + 1 : Nat) : Int) by omega, need_d2 (by omega) (by omega), need_d2 (by omega) (by omega)]
  simp only [Int.toNat_natCast, List.drop_zero, List.take_length, show Int.toNat 1 = 1 from rfl, pt, qd]
  rw [need_d (by rw [lA, lB]; omega)]
  simp
end Go.Proofs.YtpgcjcggnfagfaaDoor.Vf
