
/- A text in double quotes, as the reference puts it: it is put if it is UTF-8. No condition but sizes. -/
import Derived.Test.YthdefengmkcacaaDoorVfPlain
import Derived.Lib.ValidLaws
import Derived.Lib.TrimUEq
namespace Go.Proofs.YthdefengmkcacaaDoor.Vf
set_option linter.unusedVariables false
set_option linter.unusedSimpArgs false

theorem escW_loop (N : Nat) (c : Int) (s : List UInt8) (L : List Int) (hl : s.length = L.length) (hs : s.length ≤ 100) : ∀ (f i : Nat), s.length < f + i → i ≤ s.length →
    ∃ v : Int, ref01Escape_L1 D N (fun i7 => some ⟨AV.int .i32 i7, false, []⟩) (some ⟨AV.int .i32 (-1), false, []⟩) f c s (L.map (AV.int .i32)) (i : Int) = some ⟨.int .i32 v, false, []⟩ := by
  intro f
  induction f with
  | zero => intro i h h2; omega
  | succ f ih =>
    intro i h hi
    simp only [ref01Escape_L1, ref01Escape_L1s]
    by_cases hlt : i < s.length
    · rw [cond_d (by omega), need_d (by omega)]
      simp only [Int.toNat_natCast]
      rw [get_bn hlt]
      by_cases hc : ((s.getD i 0).toNat : Int) = c
      · rw [cond_eq hc, need_d (by omega), List.getElem?_map, List.getElem?_eq_getElem (show i < L.length by omega)]
        exact ⟨_, rfl⟩
      · rw [cond_ne hc, wrap_i64 (by omega) (by omega), show (i : Int) + 1 = ((i + 1 : Nat) : Int) by omega]
        exact ih (i + 1) (by omega) (by omega)
    · rw [cond_nd (by omega)]
      exact ⟨_, rfl⟩
theorem D_refEscW (c : Int) : ∃ v : Int, D id_ref01Escape [.int .u8 c] = some ⟨.int .i32 v, false, []⟩ := by
  obtain ⟨v, hv⟩ := escW_loop 100 c [48, 97, 98, 116, 110, 118, 102, 114, 101, 34, 47, 92, 32, 78, 95, 76, 80] [0, 7, 8, 9, 10, 11, 12, 13, 27, 34, 47, 92, 32, 133, 160, 8232, 8233] rfl (by decide) 100 0 (by decide) (by omega)
  refine ⟨v, den_fn (N := 100) (F := ref01Escape) rfl rfl ?_⟩
  rw [ref01Escape_eq]
  exact hv

theorem and15z (a : Int) : 0 ≤ ((BitVec.ofInt IntKind.u32.bits a &&& BitVec.ofInt IntKind.u32.bits 15).toNat : Int) ∧ ((BitVec.ofInt IntKind.u32.bits a &&& BitVec.ofInt IntKind.u32.bits 15).toNat : Int) ≤ 15 := by
  refine ⟨by omega, ?_⟩
  rw [BitVec.toNat_and]
  have e2 : (BitVec.ofInt IntKind.u32.bits 15).toNat = 15 := by decide
  rw [e2]
  have := @Nat.and_le_right (BitVec.ofInt IntKind.u32.bits a).toNat 15
  omega
theorem hexW_loop (n : Int) (N : Nat) (k0 : List UInt8 → Option Res) : ∀ (f j : Nat) (out : List UInt8), j < f → j ≤ 8 → out.length ≤ 100 - j →
    ∃ x : List UInt8, x.length = j ∧ ref01Hex_L1 D N k0 f n ((j : Int) - 1) out = k0 (out ++ x) := by
  intro f
  induction f with
  | zero => intro j out h; omega
  | succ f ih =>
    intro j out h hj ho
    simp only [ref01Hex_L1, ref01Hex_L1s]
    cases j with
    | zero => rw [cond_nd (by omega)]; exact ⟨[], rfl, by simp⟩
    | succ i =>
      rw [show ((i + 1 : Nat) : Int) - 1 = (i : Int) by omega, cond_d (by omega)]
      generalize Int.fdiv n (2 ^ (min (Int.toNat (IntKind.u64.wrap (IntKind.i64.wrap (4 * (i : Int))))) IntKind.u32.bits)) = q
      have hq := and15z q
      rw [wrap_u32 hq.1 (by omega), need_nd (by
        rcases (show i = 0 ∨ i = 1 ∨ i = 2 ∨ i = 3 ∨ i = 4 ∨ i = 5 ∨ i = 6 ∨ i = 7 by omega) with rfl | rfl | rfl | rfl | rfl | rfl | rfl | rfl
        all_goals decide), need_d (by omega)]
      generalize hk : (BitVec.ofInt IntKind.u32.bits q &&& BitVec.ofInt IntKind.u32.bits 15).toNat = k at hq ⊢
      simp only [Int.toNat_natCast]
      rw [get_bn (show k < ([48, 49, 50, 51, 52, 53, 54, 55, 56, 57, 65, 66, 67, 68, 69, 70] : List UInt8).length by simp; omega)]
      generalize List.getD ([48, 49, 50, 51, 52, 53, 54, 55, 56, 57, 65, 66, 67, 68, 69, 70] : List UInt8) k 0 = c
      have hb := byte_lt c
      rw [need_d2 (by omega) (by omega), need_d (by simp; omega)]
      simp only [Int.toNat_natCast, UInt8.ofNat_toNat, List.drop_zero, List.take_length]
      rw [wrap_i64 (by omega) (by omega)]
      obtain ⟨x, h1, h2⟩ := ih i (out ++ [c]) (by omega) (by omega) (by rw [List.length_append, List.length_singleton]; omega)
      exact ⟨c :: x, by simp [h1], by rw [h2, List.append_assoc]; rfl⟩
theorem D_refHexW (n : Int) (k : Nat) (hk : k ≤ 8) : ∃ x : List UInt8, x.length ≤ 8 ∧ D id_ref01Hex [.int .u32 n, .int .i64 k] = some ⟨.str x, false, []⟩ := by
  obtain ⟨x, h1, h2⟩ := hexW_loop n 100 (fun s4 => some ⟨AV.str ((s4.drop 0).take s4.length), false, []⟩) 100 k [] (by omega) hk (by simp)
  refine ⟨x, by omega, den_fn (N := 100) (F := ref01Hex) rfl rfl ?_⟩
  rw [ref01Hex_eq]
  show ref01Hexr D 100 n k = _
  unfold ref01Hexr
  rw [cond_nd (by omega), cond_nd (by omega), wrap_i64 (by omega) (by omega), h2]
  simp

theorem putW_inner (N : Nat) (k0 : List UInt8 → List UInt8 → Int → Int → Int → Option Res) (s out : List UInt8) (r n : Int) : ∀ (f i : Nat) (c : Int), 15 < f + i → i ≤ 15 → 0 ≤ c ∧ c < 256 →
    ∃ c' : Int, 0 ≤ c' ∧ c' < 256 ∧ ref01PutDouble_L2 D N k0 f s out r n c 15 (i : Int) [48, 97, 98, 116, 110, 118, 102, 114, 101, 34, 92, 78, 95, 76, 80] = k0 s out r n c' := by
  intro f
  induction f with
  | zero => intro i c h h2; omega
  | succ f ih =>
    intro i c h hi hc
    simp only [ref01PutDouble_L2, ref01PutDouble_L2s]
    by_cases hlt : i < 15
    · have hl : ([48, 97, 98, 116, 110, 118, 102, 114, 101, 34, 92, 78, 95, 76, 80] : List UInt8).length = 15 := rfl
      rw [cond_d (by omega), need_d2 (by omega) (by omega)]
      simp only [Int.toNat_natCast, Nat.zero_add]
      rw [get_bn (by omega)]
      generalize List.getD ([48, 97, 98, 116, 110, 118, 102, 114, 101, 34, 92, 78, 95, 76, 80] : List UInt8) i 0 = x
      have hb := byte_lt x
      obtain ⟨v, hv⟩ := D_refEscW (x.toNat : Int)
      rw [hv]
      simp only [Option.bind_some, asI_i]
      rw [wrap_i64 (by omega) (by omega), show (i : Int) + 1 = ((i + 1 : Nat) : Int) by omega]
      by_cases hvr : v = r
      · rw [cond_eq hvr]
        exact ih (i + 1) _ (by omega) (by omega) ⟨by omega, by omega⟩
      · rw [cond_ne hvr]
        exact ih (i + 1) _ (by omega) (by omega) hc
    · rw [cond_nd (by omega)]
      exact ⟨c, hc.1, hc.2, rfl⟩

theorem decL (l : List UInt8) (h : l ≠ []) : Lib.decodeL l = dec l := by
  unfold dec
  rw [if_neg h, Lib.decodeL_N]
theorem putW_loop (N : Nat) (hN : 100 ≤ N) (k0 : List UInt8 → Bool → Option Res) (k1 : List UInt8 → Option Res) : ∀ (f : Nat) (s out : List UInt8), s.length ≤ f → f ≤ 100000 → out.length + 20 * s.length ≤ 100000000 →
    (Lib.validGoD f s = true ∧ ∃ x : List UInt8, x.length ≤ 100000000 ∧ ref01PutDouble_L1 D N k0 k1 (f + 1) s out = k1 x) ∨ (Lib.validGoD f s = false ∧ ref01PutDouble_L1 D N k0 k1 (f + 1) s out = k0 [] false) := by
  intro f
  induction f with
  | zero =>
    intro s out hs _ ho
    obtain rfl : s = [] := List.length_eq_zero_iff.1 (by omega)
    rw [show ref01PutDouble_L1 D N k0 k1 (0 + 1) ([] : List UInt8) out = ref01PutDouble_L1s D N (ref01PutDouble_L1 D N k0 k1 0) k0 k1 [] out from rfl]
    simp only [ref01PutDouble_L1s]
    rw [cond_nd (by simp)]
    exact .inl ⟨rfl, out, by simp at ho; exact ho, rfl⟩
  | succ f ih =>
    intro s out hs hf ho
    rw [show ref01PutDouble_L1 D N k0 k1 (f + 1 + 1) s out = ref01PutDouble_L1s D N (ref01PutDouble_L1 D N k0 k1 (f + 1)) k0 k1 s out from rfl]
    simp only [ref01PutDouble_L1s]
    by_cases hn : s = []
    · subst hn
      rw [cond_nd (by simp)]
      exact .inl ⟨by simp [Lib.validGoD], out, by simp at ho; exact ho, rfl⟩
    have hp := length_pos_of hn
    have hsz := rune_size' s hn
    rw [cond_d (by omega), D_refRune]
    simp only [Option.bind_some, asJIBT, asT_t, asC_c, asI_i, asB_b, asN_n]
    by_cases hbad : (dec s).1 = 65533 ∧ (dec s).2 < 2
    · have hr : (rune s).2.2 = false := by unfold rune; rw [if_pos hbad]
      have hr1 : (rune s).2.1 = (dec s).2 := by unfold rune; rw [if_pos hbad]
      have hvg : Lib.validGoD (f + 1) s = false := by simp only [Lib.validGoD]; rw [if_neg hn, decL s hn, if_pos ⟨hbad.1, by omega⟩]
      rw [hr]
      exact .inr ⟨hvg, rfl⟩
    · have hr : rune s = ((dec s).1, (dec s).2, true) := by unfold rune; rw [if_neg hbad]
      have hvg : Lib.validGoD (f + 1) s = Lib.validGoD f (s.drop (dec s).2) := by simp only [Lib.validGoD]; rw [if_neg hn, decL s hn, if_neg (fun e => hbad ⟨e.1, by omega⟩)]
      rw [hr] at hsz ⊢
      simp only at hsz
      rw [hvg]
      simp only [Bool.not_true, cond_false]
      generalize (dec s).1 = r at *
      generalize (dec s).2 = w at *
      obtain ⟨c, hc0, hc1, hc⟩ := putW_inner N (fun s11 s12 i15 i16 i17 =>
    bif (i17 : Int) != 0 then
    (need (decide (0 ≤ (i17 : Int)) && decide ((i17 : Int) < 256)) <|
    need (decide ((([92] : List UInt8) : List UInt8).length + ([UInt8.ofNat (Int.toNat i17)] : List UInt8).length ≤ 9223372036854775807)) <|
    need (decide (s12.length + (([92] : List UInt8) ++ [UInt8.ofNat (Int.toNat i17)] : List UInt8).length ≤ 9223372036854775807)) <|
    need (decide (0 ≤ (i16 : Int)) && decide ((i16 : Int) ≤ ((s11.length : Nat) : Int))) <|
    ref01PutDouble_L1 D N k0 k1 (f + 1) ((s11.take s11.length).drop (Int.toNat i16)) (s12 ++ (([92] : List UInt8) ++ [UInt8.ofNat (Int.toNat i17)])))
    else
    (D id_ref01Printable [AV.int .i32 i15]).bind fun r3 =>
    asB r3.v fun b2 =>
    bif b2 then
    (need (decide (0 ≤ (i16 : Int)) && decide ((i16 : Int) ≤ ((s11.length : Nat) : Int))) <|
    need (decide (s12.length + ((s11.take (Int.toNat i16)).drop 0).length ≤ 9223372036854775807)) <|
    need (decide (0 ≤ (i16 : Int)) && decide ((i16 : Int) ≤ ((s11.length : Nat) : Int))) <|
    ref01PutDouble_L1 D N k0 k1 (f + 1) ((s11.take s11.length).drop (Int.toNat i16)) (s12 ++ ((s11.take (Int.toNat i16)).drop 0)))
    else
    bif decide ((i15 : Int) ≤ 255) then
    ((D id_ref01Hex [AV.int .u32 (IntKind.u32.wrap i15), AV.int .i64 2]).bind fun r4 =>
    asS r4.v fun s13 =>
    need (decide ((([92, 120] : List UInt8) : List UInt8).length + s13.length ≤ 9223372036854775807)) <|
    need (decide (s12.length + (([92, 120] : List UInt8) ++ s13 : List UInt8).length ≤ 9223372036854775807)) <|
    need (decide (0 ≤ (i16 : Int)) && decide ((i16 : Int) ≤ ((s11.length : Nat) : Int))) <|
    ref01PutDouble_L1 D N k0 k1 (f + 1) ((s11.take s11.length).drop (Int.toNat i16)) (s12 ++ (([92, 120] : List UInt8) ++ s13)))
    else
    bif decide ((i15 : Int) ≤ 65535) then
    ((D id_ref01Hex [AV.int .u32 (IntKind.u32.wrap i15), AV.int .i64 4]).bind fun r5 =>
    asS r5.v fun s14 =>
    need (decide ((([92, 117] : List UInt8) : List UInt8).length + s14.length ≤ 9223372036854775807)) <|
    need (decide (s12.length + (([92, 117] : List UInt8) ++ s14 : List UInt8).length ≤ 9223372036854775807)) <|
    need (decide (0 ≤ (i16 : Int)) && decide ((i16 : Int) ≤ ((s11.length : Nat) : Int))) <|
    ref01PutDouble_L1 D N k0 k1 (f + 1) ((s11.take s11.length).drop (Int.toNat i16)) (s12 ++ (([92, 117] : List UInt8) ++ s14)))
    else
    (D id_ref01Hex [AV.int .u32 (IntKind.u32.wrap i15), AV.int .i64 8]).bind fun r6 =>
    asS r6.v fun s15 =>
    need (decide ((([92, 85] : List UInt8) : List UInt8).length + s15.length ≤ 9223372036854775807)) <|
    need (decide (s12.length + (([92, 85] : List UInt8) ++ s15 : List UInt8).length ≤ 9223372036854775807)) <|
    need (decide (0 ≤ (i16 : Int)) && decide ((i16 : Int) ≤ ((s11.length : Nat) : Int))) <|
    ref01PutDouble_L1 D N k0 k1 (f + 1) ((s11.take s11.length).drop (Int.toNat i16)) (s12 ++ (([92, 85] : List UInt8) ++ s15))) s out (r : Int) (w : Int) N 0 0 (by omega) (by omega) ⟨by omega, by omega⟩
      have go : ∀ x : List UInt8, x.length ≤ 20 ∨ x.length ≤ w → (Lib.validGoD f (s.drop w) = true ∧ ∃ y : List UInt8, y.length ≤ 100000000 ∧ (need (decide (0 ≤ (w : Int)) && decide ((w : Int) ≤ ((s.length : Nat) : Int))) <| ref01PutDouble_L1 D N k0 k1 (f + 1) ((s.take s.length).drop (Int.toNat (w : Int))) (out ++ x)) = k1 y) ∨
          (Lib.validGoD f (s.drop w) = false ∧ (need (decide (0 ≤ (w : Int)) && decide ((w : Int) ≤ ((s.length : Nat) : Int))) <| ref01PutDouble_L1 D N k0 k1 (f + 1) ((s.take s.length).drop (Int.toNat (w : Int))) (out ++ x)) = k0 [] false) := by
        intro x hx
        rw [need_d2 (by omega) (by omega), List.take_length, Int.toNat_natCast]
        exact ih _ _ (by rw [List.length_drop]; omega) (by omega) (by rw [List.length_append, List.length_drop]; omega)
      have hc' := hc
      rw [show ((0 : Nat) : Int) = 0 from rfl] at hc'
      rw [hc']
      by_cases h0 : c = 0
      · rw [cond_beq h0, D_refPrintable]
        simp only [Option.bind_some, asB_b]
        cases printable (r : Int)
        · simp only [cond_false]
          obtain ⟨x2, e1, e2⟩ := D_refHexW (IntKind.u32.wrap r) 2 (by omega)
          obtain ⟨x4, e3, e4⟩ := D_refHexW (IntKind.u32.wrap r) 4 (by omega)
          obtain ⟨x8, e5, e6⟩ := D_refHexW (IntKind.u32.wrap r) 8 (by omega)
          rw [show ((2 : Nat) : Int) = 2 from rfl] at e2
          rw [show ((4 : Nat) : Int) = 4 from rfl] at e4
          rw [show ((8 : Nat) : Int) = 8 from rfl] at e6
          rw [e2, e4, e6]
          simp only [Option.bind_some, asS_s]
          by_cases c1 : (r : Int) ≤ 255
          · rw [cond_d c1, need_d (by simp; omega), need_d (by simp; omega)]
            exact go _ (.inl (by simp; omega))
          · rw [cond_nd c1]
            by_cases c2 : (r : Int) ≤ 65535
            · rw [cond_d c2, need_d (by simp; omega), need_d (by simp; omega)]
              exact go _ (.inl (by simp; omega))
            · rw [cond_nd c2, need_d (by simp; omega), need_d (by simp; omega)]
              exact go _ (.inl (by simp; omega))
        · simp only [cond_true]
          rw [need_d2 (by omega) (by omega), need_d (by simp; omega)]
          exact go _ (.inr (by simp; omega))
      · rw [cond_bne h0, need_d2 (by omega) (by omega), need_d (by simp), need_d (by simp; omega)]
        exact go _ (.inl (by simp))
theorem D_refPutW (s : List UInt8) (hs : s.length ≤ 10000) : ∃ t : List UInt8, D id_ref01PutDouble [.str s] = some ⟨.tup [.str t, .bool (Lib.validD s)], false, []⟩ := by
  have h := putW_loop (s.length + 101) (by omega) (fun s20 b5 => some ⟨AV.tup [AV.str s20, AV.bool b5], false, []⟩) (fun s21 =>
    need (decide (s21.length + (([34] : List UInt8) : List UInt8).length ≤ 9223372036854775807)) <|
    some ⟨AV.tup [AV.str (s21 ++ ([34] : List UInt8)), AV.bool true], false, []⟩) (s.length + 100) s [34] (by omega) (by omega) (by simp; omega)
  have hv : Lib.validGoD (s.length + 100) s = Lib.validD s := Lib.validGoD_fuel _ _ s (by omega) (Nat.le_refl _)
  rw [hv] at h
  rcases h with ⟨h1, x, h2, h3⟩ | ⟨h1, h3⟩
  · refine ⟨x ++ [34], den_fn (N := s.length + 101) (F := ref01PutDouble) rfl rfl ?_⟩
    rw [ref01PutDouble_eq]
    refine h3.trans ?_
    rw [need_d (by simp; omega), h1]
  · refine ⟨[], den_fn (N := s.length + 101) (F := ref01PutDouble) rfl rfl ?_⟩
    rw [ref01PutDouble_eq]
    refine h3.trans ?_
    rw [h1]
end Go.Proofs.YthdefengmkcacaaDoor.Vf
