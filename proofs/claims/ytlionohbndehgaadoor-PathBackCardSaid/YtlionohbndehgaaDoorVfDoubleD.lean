
/- A text in double quotes, as the reference puts it: it puts what the program puts. No condition but sizes. -/
import Derived.Test.YtlionohbndehgaaDoorVfDoubleC
import Derived.Test.YtlionohbndehgaaDoorVfUtf
import Derived.Test.YtlionohbndehgaaDoorVfDoubled
namespace Go.Proofs.YtlionohbndehgaaDoor.Vf
set_option linter.unusedVariables false
set_option linter.unusedSimpArgs false

theorem hexL_head : ∀ k n : Nat, hexL (k + 1) n = hexC (n / 16 ^ k % 16) :: hexL k n
  | 0, n => by simp [hexL]
  | k + 1, n => by
    show hexL (k + 1) (n / 16) ++ [hexC (n % 16)] = _
    rw [hexL_head k (n / 16), Nat.div_div_eq_div_mul, Nat.pow_succ, Nat.mul_comm (16 ^ k) 16]
    rfl
theorem fdiv16 (n i : Nat) (hi : i < 8) : Int.fdiv (n : Int) (2 ^ (min (Int.toNat (IntKind.u64.wrap (IntKind.i64.wrap (4 * (i : Int))))) IntKind.u32.bits)) = ((n / 16 ^ i : Nat) : Int) := by
  have e : ((2 : Int) ^ (min (Int.toNat (IntKind.u64.wrap (IntKind.i64.wrap (4 * (i : Int))))) IntKind.u32.bits)) = ((16 ^ i : Nat) : Int) := by
    rcases (show i = 0 ∨ i = 1 ∨ i = 2 ∨ i = 3 ∨ i = 4 ∨ i = 5 ∨ i = 6 ∨ i = 7 by omega) with rfl | rfl | rfl | rfl | rfl | rfl | rfl | rfl
    all_goals rfl
  rw [e, Int.fdiv_eq_ediv_of_nonneg _ (Int.natCast_nonneg _)]
  exact (Int.natCast_ediv n (16 ^ i)).symm
theorem refHex_loop (n : Nat) (hn : n < 4294967296) (N : Nat) (k0 : List UInt8 → Option Res) : ∀ (f j : Nat) (out : List UInt8), j < f → j ≤ 8 → out.length ≤ 100 - j →
    ref01Hex_L1 D N k0 f n ((j : Int) - 1) out = k0 (out ++ hexL j n) := by
  intro f
  induction f with
  | zero => intro j out h; omega
  | succ f ih =>
    intro j out h hj ho
    simp only [ref01Hex_L1, ref01Hex_L1s]
    cases j with
    | zero => rw [cond_nd (by omega)]; simp [hexL]
    | succ i =>
      rw [show ((i + 1 : Nat) : Int) - 1 = (i : Int) by omega, cond_d (by omega), fdiv16 n i (by omega)]
      have hq : n / 16 ^ i < 4294967296 := Nat.lt_of_le_of_lt (Nat.div_le_self _ _) hn
      rw [Vf.and15w _ hq, need_nd (by
        rcases (show i = 0 ∨ i = 1 ∨ i = 2 ∨ i = 3 ∨ i = 4 ∨ i = 5 ∨ i = 6 ∨ i = 7 by omega) with rfl | rfl | rfl | rfl | rfl | rfl | rfl | rfl
        all_goals decide), need_d (by omega)]
      simp only [Int.toNat_natCast]
      have hb := byte_lt (hexC (n / 16 ^ i % 16))
      rw [Vf.hexC_get _ (Nat.mod_lt _ (by omega)), need_d2 (by omega) (by omega), need_d (by simp; omega)]
      simp only [Int.toNat_natCast, UInt8.ofNat_toNat, List.drop_zero, List.take_length]
      rw [wrap_i64 (by omega) (by omega), ih i _ (by omega) (by omega) (by rw [List.length_append, List.length_singleton]; omega), hexL_head, List.append_assoc]; rfl
theorem D_refHex6 (n : Nat) (hn : n < 4294967296) (d : Int) : D id_ref01Hex [.int .u32 n, .int .i64 d] = some ⟨.str (if d < 0 ∨ 8 < d then [] else hexL d.toNat n), false, []⟩ := by
  refine den_fn (N := 100) (F := ref01Hex) rfl rfl ?_
  rw [ref01Hex_eq]
  show ref01Hexr D 100 n d = _
  unfold ref01Hexr
  by_cases h0 : d < 0
  · rw [cond_d h0, if_pos (.inl h0)]
  rw [cond_nd h0]
  by_cases h8 : d > 8
  · rw [cond_d h8, if_pos (.inr h8)]
  obtain ⟨k, rfl⟩ : ∃ k : Nat, d = k := ⟨d.toNat, by omega⟩
  rw [cond_nd h8, if_neg (by omega), wrap_i64 (by omega) (by omega)]
  refine (refHex_loop n hn 100 _ 100 k [] (by omega) (by omega) (by simp)).trans ?_
  simp

/-! The letter that a rune has -/
def letTab : List (Nat × Nat) := [(48, 0), (97, 7), (98, 8), (116, 9), (110, 10), (118, 11), (102, 12), (114, 13), (101, 27), (34, 34), (92, 92), (78, 133), (95, 160), (76, 8232), (80, 8233)]
def letF : List (Nat × Nat) → Nat → Nat → Nat
  | [], _, a => a
  | (k, v) :: t, r, a => letF t r (if v = r then k else a)
theorem let_at (i : Nat) (h : i < 15) : ([48, 97, 98, 116, 110, 118, 102, 114, 101, 34, 92, 78, 95, 76, 80] : List UInt8)[i]? = some (UInt8.ofNat (letTab.getD i (0, 0)).1) ∧ (letTab.getD i (0, 0)).1 < 256 ∧ inI (letTab.getD i (0, 0)).1 = ((letTab.getD i (0, 0)).2 : Nat) ∧ letTab.drop i = letTab.getD i (0, 0) :: letTab.drop (i + 1) := by
  rcases (show i = 0 ∨ i = 1 ∨ i = 2 ∨ i = 3 ∨ i = 4 ∨ i = 5 ∨ i = 6 ∨ i = 7 ∨ i = 8 ∨ i = 9 ∨ i = 10 ∨ i = 11 ∨ i = 12 ∨ i = 13 ∨ i = 14 by omega) with rfl | rfl | rfl | rfl | rfl | rfl | rfl | rfl | rfl | rfl | rfl | rfl | rfl | rfl | rfl
  all_goals exact ⟨rfl, by decide, rfl, rfl⟩
theorem let_loop (N : Nat) (k0 : List UInt8 → List UInt8 → Int → Int → Int → Option Res) (s o : List UInt8) (r : Nat) (w : Int) : ∀ (f i a : Nat), 15 < f + i → i ≤ 15 →
    ref01PutDouble_L2 D N k0 f s o (r : Int) w (a : Int) 15 (i : Int) [48, 97, 98, 116, 110, 118, 102, 114, 101, 34, 92, 78, 95, 76, 80] = k0 s o r w (letF (letTab.drop i) r a : Nat) := by
  intro f
  induction f with
  | zero => intro i a h h2; omega
  | succ f ih =>
    intro i a h hi
    simp only [ref01PutDouble_L2, ref01PutDouble_L2s]
    by_cases hlt : i < 15
    · obtain ⟨e1, e0, e2, e3⟩ := let_at i hlt
      have l15 : (([48, 97, 98, 116, 110, 118, 102, 114, 101, 34, 92, 78, 95, 76, 80] : List UInt8).length : Int) = 15 := rfl
      rw [cond_d (by omega), l15, need_d2 (by omega) (by omega)]
      simp only [Int.toNat_natCast, Nat.zero_add]
      rw [e1, e3]
      simp only [Option.bind_some, ofNat8 e0, D_refEscape, e2, asI_i, letF]
      rw [wrap_i64 (by omega) (by omega), show (i : Int) + 1 = ((i + 1 : Nat) : Int) by omega]
      by_cases hr : (letTab.getD i (0, 0)).2 = r
      · rw [cond_eq (by omega), if_pos hr, ih (i + 1) _ (by omega) (by omega)]
      · rw [cond_ne (by omega), if_neg hr, ih (i + 1) _ (by omega) (by omega)]
    · rw [cond_nd (by omega), show i = 15 by omega]; rfl
theorem letF_tab : ∀ p ∈ escTab, letF letTab p.1 0 = p.2.toNat := by decide
theorem letF_no {r : Nat} (h : r ≠ 0 ∧ r ≠ 7 ∧ r ≠ 8 ∧ r ≠ 9 ∧ r ≠ 10 ∧ r ≠ 11 ∧ r ≠ 12 ∧ r ≠ 13 ∧ r ≠ 27 ∧ r ≠ 133 ∧ r ≠ 160 ∧ r ≠ 8232 ∧ r ≠ 8233) (h34 : r ≠ 34) (h92 : r ≠ 92) : letF letTab r 0 = 0 := by
  simp only [letTab, letF]
  rw [if_neg (by omega), if_neg (by omega), if_neg (by omega), if_neg (by omega), if_neg (by omega), if_neg (by omega), if_neg (by omega), if_neg (by omega), if_neg (by omega), if_neg (by omega), if_neg (by omega), if_neg (by omega), if_neg (by omega), if_neg (by omega), if_neg (by omega)]

theorem refPut6_loop (N : Nat) (hN : 100 ≤ N) (k0 : List UInt8 → Bool → Option Res) (k1 : List UInt8 → Option Res) : ∀ (f : Nat) (s out : List UInt8), s.length ≤ f → out.length + 10 * s.length ≤ 100000 →
    ref01PutDouble_L1 D N k0 k1 (f + 1) s out = if Lib.validGoD f s = true then k1 (out ++ putGo f s) else k0 [] false := by
  intro f
  induction f with
  | zero =>
    intro s out hs _
    obtain rfl : s = [] := List.eq_nil_of_length_eq_zero (by omega)
    simp only [ref01PutDouble_L1, ref01PutDouble_L1s]
    rw [cond_nd (by simp)]
    simp [Lib.validGoD, putGo]
  | succ f ih =>
    intro s out hs ho
    rw [show ref01PutDouble_L1 D N k0 k1 (f + 1 + 1) s out = ref01PutDouble_L1s D N (ref01PutDouble_L1 D N k0 k1 (f + 1)) k0 k1 s out from rfl]
    simp only [ref01PutDouble_L1s]
    by_cases hn : s = []
    · subst hn
      rw [cond_nd (by simp)]
      simp [Lib.validGoD, putGo]
    have hp := length_pos_of hn
    have hsz := rune_size' s hn
    rw [cond_d (by omega), D_refRune]
    simp only [Option.bind_some, asJIBT, asT_t, asC_c, asI_i, asB_b, asN_n]
    have hpg : putGo (f + 1) s = oneL (dec s).1 ++ putGo f (s.drop (dec s).2) := by simp only [putGo]; rw [if_neg hn]
    by_cases hbad : (dec s).1 = 65533 ∧ (dec s).2 = 1
    · have hr : (rune s).2.2 = false := by unfold rune; rw [if_pos ⟨hbad.1, by omega⟩]
      have hvg : Lib.validGoD (f + 1) s = false := by simp only [Lib.validGoD]; rw [if_neg hn, dec6 s hn, if_pos hbad]
      rw [hr, hvg, if_neg (by simp)]; rfl
    · obtain ⟨hi, h1⟩ := isRune_dec s hn hbad
      have hi' := hi
      unfold isRune at hi'
      have hr : rune s = ((dec s).1, (dec s).2, true) := by unfold rune; rw [if_neg (fun e => hbad ⟨e.1, by omega⟩)]
      have henc := Lib.encode_decode s hn (by rw [dec6 s hn]; exact hbad)
      rw [dec6 s hn] at henc
      rw [hr] at hsz
      simp only at hsz
      have hvg : Lib.validGoD (f + 1) s = Lib.validGoD f (s.drop (dec s).2) := by simp only [Lib.validGoD]; rw [if_neg hn, dec6 s hn, if_neg hbad]
      rw [hr, hvg, hpg]
      simp only [Bool.not_true, cond_false]
      refine (let_loop N _ s out (dec s).1 (dec s).2 N 0 0 (by omega) (by omega)).trans ?_
      rw [List.drop_zero]
      generalize (dec s).1 = r at *
      generalize (dec s).2 = w at *
      have hone := Vf.oneL_len r
      have step : ∀ x : List UInt8, x = oneL r → (need (decide (0 ≤ (w : Int)) && decide ((w : Int) ≤ ((s.length : Nat) : Int))) <|
            ref01PutDouble_L1 D N k0 k1 (f + 1) ((s.take s.length).drop (Int.toNat (w : Int))) (out ++ x)) = if Lib.validGoD f (s.drop w) = true then k1 (out ++ (oneL r ++ putGo f (s.drop w))) else k0 [] false := by
        intro x hx
        rw [need_d2 (by omega) (by omega), List.take_length, Int.toNat_natCast, hx, ih _ _ (by rw [List.length_drop]; omega) (by rw [List.length_append, List.length_drop]; omega), List.append_assoc]
      cases he : escOf escTab r with
      | some c =>
        obtain ⟨g1, g2, g3⟩ := escTab_in _ (escOf_mem _ _ _ he)
        have hlet : letF letTab r 0 = c.toNat := letF_tab _ (escOf_mem _ _ _ he)
        have g2' : 32 ≤ c.toNat := g2
        have g3' : c.toNat ≤ 126 := g3
        have hx : [92] ++ [UInt8.ofNat (Int.toNat (c.toNat : Int))] = oneL r := by
          unfold oneL; rw [he]; simp
        rw [hlet, cond_bne (by omega), need_d2 (by omega) (by omega), need_d (by simp), need_d (by simp; omega)]
        exact step _ hx
      | none =>
        have hno := escOf_not he
        by_cases hq : r = 34 ∨ r = 92
        · have hlet : letF letTab r 0 = r := by rcases hq with rfl | rfl <;> rfl
          have hx : [92] ++ [UInt8.ofNat (Int.toNat (r : Int))] = oneL r := by
            unfold oneL; rw [he]; simp only
            rw [if_pos hq, enc1 (by omega)]; rfl
          rw [hlet, cond_bne (by omega), need_d2 (by omega) (by omega), need_d (by simp), need_d (by simp; omega)]
          exact step _ hx
        · have hlet := letF_no hno (fun e => hq (.inl e)) (fun e => hq (.inr e))
          rw [hlet, cond_beq (by omega), D_refPrintable]
          simp only [Option.bind_some, asB_b]
          by_cases hpr : prints r = true
          · have hpb : printable (r : Int) = true := by
              unfold prints at hpr; rw [decide_eq_true_eq] at hpr
              unfold printable; rw [decide_eq_true_eq]; omega
            have hx : (s.take (Int.toNat (w : Int))).drop 0 = oneL r := by
              unfold oneL; rw [he]; simp only
              rw [if_neg hq, if_pos hpr, henc, Int.toNat_natCast, List.drop_zero]
            have hl : ((s.take (Int.toNat (w : Int))).drop 0).length ≤ 10 := by rw [hx]; exact hone
            rw [hpb, cond_true, need_d2 (by omega) (by omega), need_d (by omega)]
            exact step _ hx
          · have hpb : printable (r : Int) = false := by
              rw [Bool.eq_false_iff]; intro e; apply hpr
              unfold printable at e; rw [decide_eq_true_eq] at e
              unfold prints; rw [decide_eq_true_eq]; omega
            rw [hpb, cond_false, wrap_u32 (by omega) (by omega)]
            have hl := hexL_length
            by_cases c1 : r < 256
            · have hx : [92, 120] ++ hexL 2 r = oneL r := by
                unfold oneL; rw [he]; simp only
                rw [if_neg hq, if_neg hpr, if_pos c1]; rfl
              have e2 : D id_ref01Hex [.int .u32 r, .int .i64 2] = some ⟨.str (hexL 2 r), false, []⟩ := D_refHex6 r (by omega) 2
              rw [cond_d (by omega), e2]
              simp only [Option.bind_some, asS_s]
              rw [need_d (by simp [hl]), need_d (by rw [hx]; omega)]
              exact step _ hx
            · rw [cond_nd (by omega)]
              by_cases c2 : r < 65536
              · have hx : [92, 117] ++ hexL 4 r = oneL r := by
                  unfold oneL; rw [he]; simp only
                  rw [if_neg hq, if_neg hpr, if_neg c1, if_pos c2]; rfl
                have e2 : D id_ref01Hex [.int .u32 r, .int .i64 4] = some ⟨.str (hexL 4 r), false, []⟩ := D_refHex6 r (by omega) 4
                rw [cond_d (by omega), e2]
                simp only [Option.bind_some, asS_s]
                rw [need_d (by simp [hl]), need_d (by rw [hx]; omega)]
                exact step _ hx
              · have hx : [92, 85] ++ hexL 8 r = oneL r := by
                  unfold oneL; rw [he]; simp only
                  rw [if_neg hq, if_neg hpr, if_neg c1, if_neg c2]; rfl
                have e2 : D id_ref01Hex [.int .u32 r, .int .i64 8] = some ⟨.str (hexL 8 r), false, []⟩ := D_refHex6 r (by omega) 8
                rw [cond_nd (by omega), e2]
                simp only [Option.bind_some, asS_s]
                rw [need_d (by simp [hl]), need_d (by rw [hx]; omega)]
                exact step _ hx
theorem putGo_len : ∀ (k : Nat) (l : List UInt8), (putGo k l).length ≤ 10 * k
  | 0, l => by simp [putGo]
  | k + 1, l => by
    simp only [putGo]
    split
    · simp
    · have h1 := putGo_len k (l.drop (dec l).2)
      have h2 := Vf.oneL_len (dec l).1
      rw [List.length_append]; omega
theorem D_refPut6 (s : List UInt8) (hs : s.length ≤ 1000) : D id_ref01PutDouble [.str s] = some ⟨.tup [.str (if Lib.validD s = true then putL s else []), .bool (Lib.validD s)], false, []⟩ := by
  refine den_fn (N := s.length + 100) (F := ref01PutDouble) rfl rfl ?_
  rw [ref01PutDouble_eq]
  show ref01PutDoubler D _ s = _
  unfold ref01PutDoubler
  have hl := putGo_len (s.length + 99) s
  refine (refPut6_loop (s.length + 100) (by omega) _ _ (s.length + 99) s [34] (by omega) (by simp; omega)).trans ?_
  have hv : Lib.validGoD (s.length + 99) s = Lib.validD s := by
    rw [Bool.eq_iff_iff]
    constructor
    · intro h
      obtain ⟨rs, h1, rfl⟩ := runes_of _ s (by omega) h
      exact (valid_of rs h1).1
    · intro h
      obtain ⟨rs, h1, rfl, _⟩ := valid_iff s h
      exact valid_txt rs _ h1
  rw [hv]
  cases h : Lib.validD s
  · rfl
  · obtain ⟨rs, h1, rfl, h2⟩ := valid_iff s h
    simp only [if_true]
    rw [need_d (by simp; omega), h2, put_txt rs _ h1 (by omega)]
    rfl
end Go.Proofs.YtlionohbndehgaaDoor.Vf
