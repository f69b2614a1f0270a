
/- What a text is in double quotes: a walk over its builder. No condition but sizes. -/
import Derived.Test.YtlionohbndehgaaDoorVfSound
import Derived.Shelf.Strings.BuilderK
import Derived.BigCall
import Derived.Lib.OthersKept
import Derived.Lib.TrimUEq
namespace Go.Proofs.YtlionohbndehgaaDoor
open Go.RowKit
set_option linter.unusedVariables false
set_option linter.unusedSimpArgs false

theorem Vf.encode_eq (r : Int) : (Utf8.encode r).data.toList = Lib.encodeRune r := by
  unfold Lib.encodeRune
  by_cases hv : Utf8.valid r = true
  · have h := hv
    simp only [Utf8.valid, Bool.and_eq_true, Bool.or_eq_true, Bool.not_eq_true', decide_eq_true_eq, decide_eq_false_iff_not] at h
    obtain ⟨n, rfl⟩ : ∃ n : Nat, r = n := ⟨r.toNat, by omega⟩
    unfold Utf8.encode
    simp only [hv, if_true, Int.toNat_natCast]
    by_cases h1 : n < 128
    · rw [Lib.encodeRuneZ_one (by omega) (by omega), if_pos h1]; simp
    rw [if_neg h1]
    by_cases h2 : n < 2048
    · rw [Lib.encodeRuneZ_two (by omega) (by omega), if_pos h2]
      simp only [List.map_cons, List.map_nil, show ((192 : Int) + (n : Int) / 64).toNat = 192 + n / 64 by omega, show ((128 : Int) + (n : Int) % 64).toNat = 128 + n % 64 by omega]
    rw [if_neg h2]
    by_cases h3 : n < 65536
    · rw [Lib.encodeRuneZ_three (by omega), if_pos h3]
      simp only [List.map_cons, List.map_nil, show ((224 : Int) + (n : Int) / 4096).toNat = 224 + n / 4096 by omega, show ((128 : Int) + (n : Int) / 64 % 64).toNat = 128 + n / 64 % 64 by omega, show ((128 : Int) + (n : Int) % 64).toNat = 128 + n % 64 by omega]
    · rw [Lib.encodeRuneZ_four (by omega) (by omega), if_neg h3]
      simp only [List.map_cons, List.map_nil, show ((240 : Int) + (n : Int) / 262144).toNat = 240 + n / 262144 by omega, show ((128 : Int) + (n : Int) / 4096 % 64).toNat = 128 + n / 4096 % 64 by omega, show ((128 : Int) + (n : Int) / 64 % 64).toNat = 128 + n / 64 % 64 by omega, show ((128 : Int) + (n : Int) % 64).toNat = 128 + n % 64 by omega]
  · have h := hv
    simp only [Utf8.valid, Bool.and_eq_true, Bool.or_eq_true, Bool.not_eq_true', decide_eq_true_eq, decide_eq_false_iff_not] at h
    unfold Utf8.encode
    rw [Lib.encodeRuneZ_bad (by omega)]
    rw [Bool.not_eq_true] at hv
    simp only [hv, Bool.false_eq_true, if_false]
    rfl

theorem Vf.hexC_get (d : Nat) (h : d < 16) {α : Type} (f : UInt8 → Option α) : ((([48, 49, 50, 51, 52, 53, 54, 55, 56, 57, 65, 66, 67, 68, 69, 70] : List UInt8))[d]?).bind f = f (Vf.hexC d) := by
  rw [Vf.get_bn (by simpa using h)]; rfl
theorem Vf.encode_ascii (c : UInt8) (h : c.toNat < 128) : Lib.encodeRune (c.toNat : Int) = [c] := by
  unfold Lib.encodeRune
  rw [Lib.encodeRuneZ_one (by omega) (by omega)]; simp
theorem Vf.hexC_lt : ∀ d : Fin 16, (Vf.hexC d.1).toNat < 128 := by decide
theorem Vf.and15w (n : Nat) (h : n < 4294967296) : IntKind.u32.wrap ((BitVec.ofInt IntKind.u32.bits (n : Int) &&& BitVec.ofInt IntKind.u32.bits 15).toNat : Int) = ((n % 16 : Nat) : Int) := by
  have e : (BitVec.ofInt IntKind.u32.bits (n : Int) &&& BitVec.ofInt IntKind.u32.bits 15).toNat = n % 16 := by
    rw [BitVec.toNat_and]
    have e1 : (BitVec.ofInt IntKind.u32.bits (n : Int)).toNat = n := by
      rw [BitVec.toNat_ofInt]
      show ((n : Int) % ((2 ^ 32 : Nat) : Int)).toNat = n
      omega
    have e2 : (BitVec.ofInt IntKind.u32.bits 15).toNat = 15 := by decide
    rw [e1, e2]
    exact Nat.and_two_pow_sub_one_eq_mod n 4
  rw [e, Vf.wrap_u32 (by omega) (by omega)]

theorem Vf.hex_loop (Dx : Nat → List AV → Option Vf.Res) (N : Nat) (k0 : List UInt8 → Option Vf.Res) (m : Nat) (hm : m ≤ 8) : ∀ (f i n : Nat) (acc : List UInt8), m < f + i → i ≤ m → n < 4294967296 → acc.length ≤ i →
    Vf.doubleHex_L1 Dx N k0 f (n : Int) acc (m : Int) (i : Int) = k0 (Vf.hexL (m - i) n ++ acc) := by
  intro f
  induction f with
  | zero => intro i n acc h h2; omega
  | succ f ih =>
    intro i n acc h hi hn ha
    simp only [Vf.doubleHex_L1, Vf.doubleHex_L1s]
    by_cases hlt : i < m
    · rw [Vf.cond_d (by omega), Vf.and15w n hn, Vf.need_d (by omega)]
      simp only [Int.toNat_natCast]
      rw [Vf.hexC_get _ (Nat.mod_lt _ (by omega)), Vf.encode_eq, Vf.encode_ascii _ (Vf.hexC_lt ⟨n % 16, Nat.mod_lt _ (by omega)⟩), Vf.need_d (by simp; omega), Vf.need_nd (by decide)]
      have e : Int.fdiv (n : Int) (2 ^ (min (Int.toNat 4) IntKind.u32.bits)) = ((n / 16 : Nat) : Int) := by
        show Int.fdiv (n : Int) 16 = _
        rw [Int.fdiv_eq_ediv_of_nonneg _ (by omega)]; omega
      rw [e, Vf.wrap_i64 (by omega) (by omega), show (i : Int) + 1 = ((i + 1 : Nat) : Int) by omega, ih (i + 1) (n / 16) _ (by omega) (by omega) (by omega) (by simp; omega)]
      obtain ⟨k, hk⟩ : ∃ k, m - i = k + 1 := ⟨m - i - 1, by omega⟩
      rw [hk, show m - (i + 1) = k by omega]
      simp only [Vf.hexL, List.append_assoc, List.singleton_append]
    · rw [Vf.cond_nd (by omega), show m - i = 0 by omega]; rfl

theorem Vf.hexL_len : ∀ (k n : Nat), (Vf.hexL k n).length = k
  | 0, _ => rfl
  | k + 1, n => by simp only [Vf.hexL, List.length_append, Vf.hexL_len k (n / 16), List.length_singleton]
theorem Vf.D0_Hex (n k : Nat) (hk : k ≤ 8) (hn : n < 4294967296) : Vf.D0 Vf.id_doubleHex [.int .u32 n, .int .i64 k] = some ⟨.str (Vf.hexL k n), false, []⟩ := by
  refine Vf.den_fn (N := 100) (F := Vf.doubleHex) rfl rfl ?_
  rw [Vf.doubleHex_eq]
  show Vf.doubleHexr Vf.D0 100 n k = _
  unfold Vf.doubleHexr
  rw [Vf.cond_nd (by omega), Vf.cond_nd (by omega)]
  refine (Vf.hex_loop Vf.D0 100 _ k hk 100 0 n [] (by omega) (by omega) hn (by simp)).trans ?_
  rw [Nat.sub_zero, List.append_nil]
theorem Vf.retB_congr0 {a b : Bool} (h : a = b) : some (⟨.bool a, false, []⟩ : Vf.Res) = some ⟨.bool b, false, []⟩ := by rw [h]
theorem Vf.D0_prints (r : Nat) (h : r ≠ 9 ∧ r ≠ 10 ∧ r ≠ 13) : Vf.D0 Vf.id_charsPrintable [.int .i32 r] = some ⟨.bool (Vf.prints r), false, []⟩ := by
  refine Vf.den_fn (N := 0) (F := Vf.charsPrintable) rfl rfl ?_
  rw [Vf.charsPrintable_eq]
  show Vf.charsPrintabler Vf.D0 0 r = _
  unfold Vf.charsPrintabler
  simp only [Vf.bool_cond, decide_eq_true_eq, beq_iff_eq]
  repeat' split
  all_goals refine Vf.retB_congr0 ?_
  all_goals (unfold Vf.prints; rw [Bool.eq_iff_iff]; simp only [decide_eq_true_eq, beq_iff_eq, true_iff, false_iff, Bool.false_eq_true]; omega)
theorem Vf.escOf_none {r : Nat} (h : Vf.escOf Vf.escTab r = none) : r ≠ 0 ∧ r ≠ 7 ∧ r ≠ 8 ∧ r ≠ 9 ∧ r ≠ 10 ∧ r ≠ 11 ∧ r ≠ 12 ∧ r ≠ 13 ∧ r ≠ 27 ∧ r ≠ 133 ∧ r ≠ 160 ∧ r ≠ 8232 ∧ r ≠ 8233 := by
  refine ⟨?_, ?_, ?_, ?_, ?_, ?_, ?_, ?_, ?_, ?_, ?_, ?_, ?_⟩ <;> intro e <;> subst e <;> revert h <;> decide
theorem Vf.runes_at (i : Nat) (h : i < 13) : ([.int .i32 0, .int .i32 7, .int .i32 8, .int .i32 9, .int .i32 10, .int .i32 11, .int .i32 12, .int .i32 13, .int .i32 27, .int .i32 133, .int .i32 160, .int .i32 8232, .int .i32 8233] : List Vf.AV)[i]? = some (.int .i32 ((Vf.escTab.getD i (0, 0)).1 : Nat)) ∧
    ((([48, 97, 98, 116, 110, 118, 102, 114, 101, 78, 95, 76, 80] : List UInt8).take (i + 1)).drop i) = [(Vf.escTab.getD i (0, 0)).2] ∧ Vf.escTab.drop i = Vf.escTab.getD i (0, 0) :: Vf.escTab.drop (i + 1) := by
  rcases (show i = 0 ∨ i = 1 ∨ i = 2 ∨ i = 3 ∨ i = 4 ∨ i = 5 ∨ i = 6 ∨ i = 7 ∨ i = 8 ∨ i = 9 ∨ i = 10 ∨ i = 11 ∨ i = 12 by omega) with rfl | rfl | rfl | rfl | rfl | rfl | rfl | rfl | rfl | rfl | rfl | rfl | rfl
  all_goals exact ⟨rfl, rfl, rfl⟩
theorem Vf.one_loop (Dx : Nat → List AV → Option Vf.Res) (N : Nat) (k0 : List UInt8 → Option Vf.Res) (k1 : Int → Option Vf.Res) (r : Nat) : ∀ (f i : Nat), 13 < f + i → i ≤ 13 →
    Vf.doubleOne_L1 Dx N k0 k1 f (r : Int) [.int .i32 0, .int .i32 7, .int .i32 8, .int .i32 9, .int .i32 10, .int .i32 11, .int .i32 12, .int .i32 13, .int .i32 27, .int .i32 133, .int .i32 160, .int .i32 8232, .int .i32 8233] 13 (i : Int) = match Vf.escOf (Vf.escTab.drop i) r with | some c => k0 [92, c] | none => k1 r := by
  intro f
  induction f with
  | zero => intro i h h2; omega
  | succ f ih =>
    intro i h hi
    simp only [Vf.doubleOne_L1, Vf.doubleOne_L1s]
    by_cases hlt : i < 13
    · obtain ⟨e1, e2, e3⟩ := Vf.runes_at i hlt
      rw [Vf.cond_d (by omega), Vf.need_d (by omega)]
      simp only [Int.toNat_natCast]
      rw [e1, e3]
      simp only [Option.bind_some, Vf.asI_i, Vf.escOf]
      by_cases hr : (Vf.escTab.getD i (0, 0)).1 = r
      · rw [Vf.cond_eq (by omega), if_pos hr, Vf.wrap_i64 (by omega) (by omega), show (i : Int) + 1 = ((i + 1 : Nat) : Int) by omega, Vf.need_d2 (by omega) (by simp; omega)]
        simp only [Int.toNat_natCast]
        rw [Vf.need_d2 (by omega) (by omega), Vf.need_d (by rw [e2]; simp), e2]
        rfl
      · rw [Vf.cond_ne (by omega), if_neg hr, Vf.wrap_i64 (by omega) (by omega), show (i : Int) + 1 = ((i + 1 : Nat) : Int) by omega, ih (i + 1) (by omega) (by omega)]
    · rw [Vf.cond_nd (by omega), show i = 13 by omega]; rfl
theorem Vf.D0_runes : Vf.D0 Vf.id_doubleRunes [] = some ⟨.row 1 [.int .i32 0, .int .i32 7, .int .i32 8, .int .i32 9, .int .i32 10, .int .i32 11, .int .i32 12, .int .i32 13, .int .i32 27, .int .i32 133, .int .i32 160, .int .i32 8232, .int .i32 8233], false, []⟩ :=
  Vf.den_fn (N := 0) (F := Vf.doubleRunes) rfl rfl (by rw [Vf.doubleRunes_eq]; rfl)
theorem Vf.D0_one (r : Nat) (hr : r < 1114112) : Vf.D0 Vf.id_doubleOne [.int .i32 r] = some ⟨.str (Vf.oneL r), false, []⟩ := by
  refine Vf.den_fn (N := 100) (F := Vf.doubleOne) rfl rfl ?_
  rw [Vf.doubleOne_eq]
  show Vf.doubleOner Vf.D0 100 r = _
  unfold Vf.doubleOner
  rw [Vf.D0_runes]
  simp only [Option.bind_some, Vf.asR_r]
  refine (Vf.one_loop Vf.D0 100 _ _ r 100 0 (by omega) (by omega)).trans ?_
  rw [List.drop_zero]
  unfold Vf.oneL
  cases he : Vf.escOf Vf.escTab r with
  | some c => rfl
  | none =>
    have hn := Vf.escOf_none he
    have hlen : (Lib.encodeRune (r : Int)).length ≤ 4 := by rw [← Lib.runeCells_length]; exact (Lib.runeCells_le _).2
    have hl2 := fun k n => Vf.hexL_len k n
    simp only [Vf.encode_eq]
    by_cases h34 : r = 34
    · rw [Vf.cond_eq (by omega), if_pos (.inl h34), Vf.need_d (by simp only [List.length_singleton]; omega)]; rfl
    · rw [Vf.cond_ne (by omega)]
      by_cases h92 : r = 92
      · rw [Vf.cond_eq (by omega), if_pos (.inr h92), Vf.need_d (by simp only [List.length_singleton]; omega)]; rfl
      · rw [Vf.cond_ne (by omega), if_neg (by omega), Vf.D0_prints r ⟨by omega, by omega, by omega⟩]
        simp only [Option.bind_some, Vf.asB_b]
        generalize Vf.prints r = hp
        cases hp
        · rw [cond_false, if_neg Bool.false_ne_true, Vf.wrap_u32 (by omega) (by omega)]
          by_cases h1 : r < 256
          · rw [Vf.cond_d (by omega), if_pos h1, show (2 : Int) = ((2 : Nat) : Int) from rfl, Vf.D0_Hex r 2 (by omega) (by omega)]
            simp only [Option.bind_some, Vf.asS_s]
            rw [Vf.need_d (by simp [hl2])]; rfl
          · rw [Vf.cond_nd (by omega), if_neg h1]
            by_cases h2 : r < 65536
            · rw [Vf.cond_d (by omega), if_pos h2, show (4 : Int) = ((4 : Nat) : Int) from rfl, Vf.D0_Hex r 4 (by omega) (by omega)]
              simp only [Option.bind_some, Vf.asS_s]
              rw [Vf.need_d (by simp [hl2])]; rfl
            · rw [Vf.cond_nd (by omega), if_neg h2, show (8 : Int) = ((8 : Nat) : Int) from rfl, Vf.D0_Hex r 8 (by omega) (by omega)]
              simp only [Option.bind_some, Vf.asS_s]
              rw [Vf.need_d (by simp [hl2])]; rfl
        · rfl

theorem Vf.extraWB : Builder.Extra Tryd.prog Tryd.laysWB_ren := { sizeBuilder := by kernel_rfl, liesBuilder := by kernel_rfl, t5 := Tryd.underlying5, a5 := Tryd.isAgg5, z5 := Tryd.sizeOf5, v5 := Tryd.zeroValue5, infoByte := by kernel_rfl, cellsByte := by kernel_rfl, sizeByte := by kernel_rfl, neB5 := by decide }
theorem Vf.extraWS : Builder.Extra Tryd.prog Tryd.laysWS_ren := { sizeBuilder := by kernel_rfl, liesBuilder := by kernel_rfl, t5 := Tryd.underlying5, a5 := Tryd.isAgg5, z5 := Tryd.sizeOf5, v5 := Tryd.zeroValue5, infoByte := by kernel_rfl, cellsByte := by kernel_rfl, sizeByte := by kernel_rfl, neB5 := by decide }
theorem Vf.extraSt : Builder.Extra Tryd.prog Tryd.laysSt_ren := { sizeBuilder := by kernel_rfl, liesBuilder := by kernel_rfl, t5 := Tryd.underlying5, a5 := Tryd.isAgg5, z5 := Tryd.sizeOf5, v5 := Tryd.zeroValue5, infoByte := by kernel_rfl, cellsByte := by kernel_rfl, sizeByte := by kernel_rfl, neB5 := by decide }
theorem wb_calls (B b : Nat) (bs : List Value) (c : Int) (w : World) (h : Lib.IsBuilderF 86 5 B b bs w) (hlen : bs.length + 1 ≤ 140737488355328) (hBw : B ≤ w.heap.size) :
    Calls Tryd.prog 49 #[.pointer (some ⟨b, 0, none⟩), .int .u8 c] w fun e w' => e = .returned .nilIface ∧ (Lib.BuilderAtF 86 5 B b (.pointer (some ⟨b, 0, none⟩)) (bs ++ [.int .u8 c]) w' ∧ Below B w w' ∧ Lib.OthersKept 5 (some b) w w') :=
  Any.Builder_WriteByte_k Tryd.laysWB Vf.extraWB B b bs c w h hlen hBw
theorem wst_calls (B b : Nat) (bs : List Value) (s : ByteArray) (w : World) (h : Lib.IsBuilderF 86 5 B b bs w) (hlen : bs.length + s.size ≤ 140737488355328) (hBw : B ≤ w.heap.size) :
    Calls Tryd.prog 50 #[.pointer (some ⟨b, 0, none⟩), .string s] w fun e w' => e = .returned (.tuple #[.int .i64 s.size, .nilIface]) ∧ (Lib.BuilderAtF 86 5 B b (.pointer (some ⟨b, 0, none⟩)) (bs ++ Lib.strCells s) w' ∧ Below B w w' ∧ Lib.OthersKept 5 (some b) w w') :=
  Any.Builder_WriteString_k Tryd.laysWS Vf.extraWS B b bs s w h hlen hBw
theorem str_calls (B b : Nat) (l : List UInt8) (w : World) (h : Lib.IsBuilderF 86 5 B b (Lib.byteCells l) w) (hBw : B ≤ w.heap.size) :
    Calls Tryd.prog 52 #[.pointer (some ⟨b, 0, none⟩)] w fun e w' => e = .returned (.string ⟨l.toArray⟩) ∧ Below B w w' :=
  (Any.Builder_String_any_k Tryd.laysSt Vf.extraSt B b l w h hBw).mono fun e w' h => ⟨h.1, h.2.2.1⟩
set_option maxRecDepth 100000 in
theorem one_calls {Bo : Nat → Prop} (r : Nat) (hr : r < 1114112) (w : World) (hG : Vf.GOk Vf.gl Bo w) (hBo : ∀ b, Bo b → b < w.heap.size) :
    Calls Tryd.prog 51 #[.int .i32 r] w fun e w' => ∃ s : ByteArray, e = .returned (.string s) ∧ s.data.toList = Vf.oneL r ∧ Below w.heap.size w w' := by
  have := Vf.D0_sound Vf.id_doubleOne _ _ (Vf.D0_one r hr) Bo w [.int .i32 r] hG hBo (.cons _ _ _ _ (.int _ _) .nil)
  unfold Vf.CallsX at this
  rw [Vf.run_callFunc (by kernel_rfl)] at this
  refine this.mono fun r' w' ⟨v, h1, h2, h3, _⟩ => ?_
  generalize hx : Vf.AV.str (Vf.oneL r) = q at h3
  cases h3 with
  | str s =>
    simp only [Vf.AV.str.injEq] at hx
    exact ⟨s, h1, hx.symm, Vf.Agree.below h2⟩
  | _ => cases hx
set_option maxRecDepth 100000 in
theorem valid_calls {Bo : Nat → Prop} (s : ByteArray) (hs : s.data.toList.length ≤ 1000000) (w : World) (hG : Vf.GOk Vf.gl Bo w) (hBo : ∀ b, Bo b → b < w.heap.size) :
    Calls Tryd.prog 48 #[.string s] w fun e w' => e = .returned (.bool (Lib.validD s.data.toList)) ∧ Below w.heap.size w w' := by
  have e : Vf.D0 Vf.id_unicodeUtf8ValidString [.str s.data.toList] = some ⟨.bool (Lib.validD s.data.toList), false, []⟩ := by
    refine Vf.D0_ext ?_
    have h : Vf.X0 Vf.id_unicodeUtf8ValidString [.str s.data.toList] = bif decide (s.data.toList.length ≤ 1000000000) then some (⟨.bool (Lib.validD s.data.toList), false, []⟩ : Vf.Res) else none := rfl
    rw [h, Vf.cond_d (by omega)]
  have := Vf.D0_sound Vf.id_unicodeUtf8ValidString _ _ e Bo w [.string s] hG hBo (.cons _ _ _ _ (.str s) .nil)
  unfold Vf.CallsX at this
  rw [Vf.run_callFunc (by kernel_rfl)] at this
  refine this.mono fun r' w' ⟨v, h1, h2, h3, _⟩ => ?_
  cases h3
  exact ⟨h1, Vf.Agree.below h2⟩
theorem builder_kept6 {T e : TypeId} {B b : Nat} {bs : List Value} {w w' : World} (h : Lib.IsBuilderF T e B b bs w) (hk : Below w.heap.size w w') : Lib.IsBuilderF T e B b bs w' := by
  have at_ : ∀ p, Lib.BuilderAtF T e B b p bs w → Lib.BuilderAtF T e B b p bs w' := by
    intro p ⟨hB, v, hb, hown, hne⟩
    have lt : ∀ {k o}, w.heap[k]? = some o → w'.heap[k]? = some o := fun {k o} hk' => by rw [hk.block k (Vf.lt_of_get hk')]; exact hk'
    refine ⟨hB, v, lt hb, ⟨hown.1, ?_⟩, hne⟩
    rcases hown.2 with h | ⟨g, cap, cur, fz, h1, h2, h3, h4⟩
    · exact .inl h
    · exact .inr ⟨g, cap, cur, fz, h1, h2, lt h3, h4⟩
  exact h.imp (at_ _) (at_ _)
theorem hid6 {p : Prop} (h : p) : Hid p := h

theorem Vf.dec_at (s : ByteArray) (pos : Nat) (h : pos < s.size) : Utf8.decode s pos = Vf.dec (s.data.toList.drop pos) := by
  have hl : s.data.toList.length = s.size := Array.length_toList
  have hne : s.data.toList.drop pos ≠ [] := fun e => by have := congrArg List.length e; rw [List.length_drop, hl] at this; simp at this; omega
  rw [← Lib.decodeL_drop, Lib.decodeL_N]
  unfold Vf.dec
  rw [if_neg hne]
theorem Vf.dec_small (l : List UInt8) : (Vf.dec l).1 < 1114112 := by
  unfold Vf.dec
  split
  · decide
  · have k0 := (l.getD 0 0).toNat_lt
    have k1 := (l.getD 1 0).toNat_lt
    have k2 := (l.getD 2 0).toNat_lt
    have k3 := (l.getD 3 0).toNat_lt
    rcases Lib.decodeN_shape l.length (l.getD 0 0).toNat (l.getD 1 0).toNat (l.getD 2 0).toNat (l.getD 3 0).toNat with ⟨c, e⟩ | ⟨c1, c2, c3, cv, e⟩ | ⟨c1, c2, c3, c4, cv, cs, e⟩ | ⟨c1, c2, c3, c4, c5, cv, cw, e⟩ | e <;> rw [e] <;> dsimp only <;> omega
theorem Vf.dec_width (l : List UInt8) (h : l ≠ []) : 1 ≤ (Vf.dec l).2 ∧ (Vf.dec l).2 ≤ l.length := by
  unfold Vf.dec
  rw [if_neg h]
  have := Vf.length_pos_of h
  rcases Lib.decodeN_shape l.length (l.getD 0 0).toNat (l.getD 1 0).toNat (l.getD 2 0).toNat (l.getD 3 0).toNat with ⟨c, e⟩ | ⟨c1, c2, c3, cv, e⟩ | ⟨c1, c2, c3, c4, cv, cs, e⟩ | ⟨c1, c2, c3, c4, c5, cv, cw, e⟩ | e <;> rw [e] <;> dsimp only <;> omega
theorem Vf.oneL_len (r : Nat) : (Vf.oneL r).length ≤ 10 := by
  have h4 : (Lib.encodeRune (r : Int)).length ≤ 4 := by rw [← Lib.runeCells_length]; exact (Lib.runeCells_le _).2
  unfold Vf.oneL
  repeat' split
  all_goals first
    | omega
    | (simp only [List.length_cons, List.length_nil, Vf.hexL_len]; omega)

/-- What is known at the beginning of a round. -/
structure AtRound6 (w : World) (b k : Nat) (s : ByteArray) (pos fuel : Nat) (acc : List UInt8) (wr : World) : Prop where
  bd : Lib.IsBuilderF 86 5 b b (Lib.byteCells acc) wr
  it : wr.heap[k]? = some (.stringIter s pos)
  bw : Below w.heap.size w wr
  ac : acc ++ Vf.putGo fuel (s.data.toList.drop pos) = 34 :: Vf.putGo s.size s.data.toList
  fu : s.size ≤ pos + fuel
  len : acc.length ≤ 1 + 10 * pos
  ps : pos ≤ s.size

set_option maxHeartbeats 4000000 in
set_option maxRecDepth 1000000 in
theorem put_walk (s : ByteArray) (w : World) (hs : s.data.toList.length ≤ 1000000) {Bo : Nat → Prop} (hG : Vf.GOk Vf.gl Bo w) (hBo : ∀ b, Bo b → b < w.heap.size) :
    Calls Tryd.prog 38 #[.string s] w fun e w' => e = .returned (.tuple #[.string ⟨(if Lib.validD s.data.toList = true then Vf.putL s.data.toList else []).toArray⟩, .bool (Lib.validD s.data.toList)]) ∧ Below w.heap.size w w' := by
  have hsz : s.data.toList.length = s.size := Array.length_toList
  have HG := hid6 hG; have HB := hid6 hBo; have Hs := hid6 hs; have Hz := hid6 hsz
  have Hv := hid6 (valid_calls s hs w hG hBo)
  clear hG hBo hs hsz
  go_enter Tryd.func38, Tryd.ntmps38
  go_wp2_with fail
  refine Hv.out.mono ?_
  rintro r1 W1 ⟨rfl, hb1⟩
  have Hb1 := hid6 hb1
  clear hb1
  by_cases hv : Lib.validD s.data.toList = true
  · simp only [hv, if_true]
    have Hfb := hid6 (Lib.IsBuilderF.of (Lib.fresh_isBuilder 86 5 W1))
    go_wp2_with fail
    refine (wb_calls W1.heap.size W1.heap.size [] 34 _ Hfb.out (by simp) (by simp)).mono ?_
    rintro r2 W2 ⟨rfl, h2, b2, k2⟩
    have Hb2 : Hid (Below w.heap.size w W2) := hid6 (Hb1.out.trans ((((Below.refl _ W1).alloc (Nat.le_refl _) _).trans b2).mono Hb1.out.size))
    have Hsz2 : Hid (W1.heap.size < W2.heap.size) := hid6 (by have := b2.size; simp at this; omega)
    have H2 : Hid (Lib.IsBuilderF 86 5 W1.heap.size W1.heap.size (Lib.byteCells [34]) (W2.alloc (.stringIter s 0))) := hid6 (Lib.IsBuilderF.alloc (.inr h2) _)
    have Hit : Hid ((W2.alloc (.stringIter s 0)).heap[W2.heap.size]? = some (.stringIter s 0)) := hid6 (World.iter_heap W2 s 0)
    have Hw1 : Hid (w.heap.size ≤ W1.heap.size) := hid6 Hb1.out.size
    clear h2 b2 k2
    go_wp2_with fail
    go_loopw [] (fun wr => ∃ (pos fuel : Nat) (acc : List UInt8), Hid (AtRound6 w W1.heap.size W2.heap.size s pos fuel acc wr)) (fun wr => s.size - wr.iterPos W2.heap.size)
    case atStart => exact ⟨0, s.size, [34], ⟨H2.out, Hit.out, Hb2.out.alloc (by have := Hb2.out.size; omega) _, by rw [List.drop_zero]; rfl, by omega, by simp, Nat.zero_le _⟩⟩
    case round =>
      obtain ⟨pos, fuel, acc, HI⟩ := hrel
      have hit := HI.out.it
      have hkz : W2.heap.size < wr.heap.size := (Array.getElem?_eq_some_iff.1 hit).1
      by_cases hp : pos < s.size
      · have hnx : ∀ ty, (Instr.next (.pointer (some ⟨W2.heap.size, 0, none⟩)) true ty).run Tryd.prog wr = _ := fun ty => Lib.run_next_any_at wr W2.heap.size s pos ty hit hp
        have hne : s.data.toList.drop pos ≠ [] := fun e => by have := congrArg List.length e; rw [List.length_drop, Hz.out] at this; simp at this; omega
        have hwd := Vf.dec_width _ hne
        rw [List.length_drop, Hz.out] at hwd
        have hsm := Vf.dec_small (s.data.toList.drop pos)
        have hlen1 := Vf.oneL_len (Vf.dec (s.data.toList.drop pos)).1
        obtain ⟨f, rfl⟩ : ∃ f, fuel = f + 1 := ⟨fuel - 1, by have := HI.out.fu; omega⟩
        have Hac : Hid (acc ++ (Vf.oneL (Vf.dec (s.data.toList.drop pos)).1 ++ Vf.putGo f (s.data.toList.drop (pos + (Vf.dec (s.data.toList.drop pos)).2))) = 34 :: Vf.putGo s.size s.data.toList) := by
          refine hid6 ?_
          rw [← HI.out.ac]
          simp only [Vf.putGo]
          rw [if_neg hne, List.drop_drop]
        rw [Vf.dec_at s pos hp] at hnx
        have HI2 := hid6 (HI.out.bd.iterAt hit (pos + (Vf.dec (s.data.toList.drop pos)).2))
        have Hit2 := hid6 (Lib.iterAt_heap wr W2.heap.size s pos (pos + (Vf.dec (s.data.toList.drop pos)).2) hit)
        have Hbw2 := hid6 (Lib.below_iterAt HI.out.bw (k := W2.heap.size) (by have := Hw1.out; have := Hsz2.out; omega) s (pos + (Vf.dec (s.data.toList.drop pos)).2))
        have Hz2 : Hid ((wr.iterAt W2.heap.size s (pos + (Vf.dec (s.data.toList.drop pos)).2)).heap.size = wr.heap.size) := hid6 (Lib.iterAt_size _ _ _ _)
        generalize Vf.dec (s.data.toList.drop pos) = d at *
        generalize hW3 : wr.iterAt W2.heap.size s (pos + d.2) = W3 at *
        have Hone := hid6 (one_calls d.1 hsm W3 (HG.out.mono (Vf.Agree.of_below Hbw2.out).none fun _ _ h => h) (fun b h => by have := HB.out b h; have := Hbw2.out.size; omega))
        have HhW3 := hid6 hW3
        clear hW3 hne
        go_wp2_with fail
        refine Hone.out.mono ?_
        rintro r4 W4 ⟨y, rfl, hy, hb4⟩
        have Hb4 := hid6 hb4
        have Hy := hid6 hy
        clear hb4 hy
        go_wp2_with fail
        refine (wst_calls W1.heap.size W1.heap.size _ y W4 (builder_kept6 HI2.out Hb4.out) (by have := HI.out.len; have := Hs.out; have := Hz.out; have : y.size = y.data.toList.length := Array.length_toList.symm; rw [Hy.out] at this; rw [Lib.byteCells_length]; omega) (by have := Hb4.out.size; have := Hz2.out; have := Hsz2.out; omega)).mono ?_
        rintro r5 W5 ⟨rfl, h5, b5, k5⟩
        have Hit5 : Hid (W5.heap[W2.heap.size]? = some (.stringIter s (pos + d.2))) := hid6 (k5.iter ((Hb4.out.block _ (Vf.lt_of_get Hit2.out)).trans Hit2.out) (by have := Hsz2.out; omega))
        have H5 : Hid (Lib.IsBuilderF 86 5 W1.heap.size W1.heap.size (Lib.byteCells (acc ++ y.data.toList)) W5) := hid6 (by rw [Lib.byteCells_append]; rw [Lib.strCells_eq] at h5; exact .inr h5)
        have Hbw5 : Hid (Below w.heap.size w W5) := hid6 ((Hbw2.out.trans (Hb4.out.mono (by have := Hz2.out; have := Hw1.out; have := Hsz2.out; omega))).trans (b5.mono Hw1.out))
        clear h5 b5 k5
        go_wp2
        go_roundw
        case rel =>
          refine ⟨pos + d.2, f, acc ++ y.data.toList, ⟨H5.out, Hit5.out, Hbw5.out, ?_, by have := HI.out.fu; omega, ?_, by omega⟩⟩
          · rw [Hy.out, List.append_assoc]; exact Hac.out
          · have := HI.out.len; rw [Hy.out, List.length_append]; omega
        case measure =>
          simp only [World.iterPos, Hit5.out, hit]
          omega
      · have hnx : ∀ ty, (Instr.next (.pointer (some ⟨W2.heap.size, 0, none⟩)) true ty).run Tryd.prog wr = _ := fun ty => Lib.run_next_end_at wr W2.heap.size s pos ty hit hp
        have Hac : Hid (acc = 34 :: Vf.putGo s.size s.data.toList) := by
          refine hid6 ?_
          have h := HI.out.ac
          rw [List.drop_eq_nil_of_le (by rw [Hz.out]; omega)] at h
          rw [← h]
          cases fuel <;> simp [Vf.putGo]
        go_wp2_with fail
        refine (wb_calls W1.heap.size W1.heap.size _ 34 wr HI.out.bd (by have := HI.out.len; have := HI.out.ps; have := Hs.out; have := Hz.out; rw [Lib.byteCells_length]; omega) (by have := Hsz2.out; omega)).mono ?_
        rintro r6 W6 ⟨rfl, h6, b6, k6⟩
        have H6 : Hid (Lib.IsBuilderF 86 5 W1.heap.size W1.heap.size (Lib.byteCells (acc ++ [34])) W6) := hid6 (by rw [Lib.byteCells_append]; exact .inr h6)
        have Hbw6 : Hid (Below w.heap.size w W6) := hid6 (HI.out.bw.trans (b6.mono Hw1.out))
        have Hz6 : Hid (W1.heap.size ≤ W6.heap.size) := hid6 (by have := b6.size; have := Hsz2.out; omega)
        clear h6 b6 k6
        go_wp2_with fail
        refine (str_calls W1.heap.size W1.heap.size _ W6 H6.out Hz6.out).mono ?_
        rintro r7 W7 ⟨rfl, b7⟩
        have Hb7 := hid6 (Hbw6.out.trans (b7.mono Hw1.out))
        clear b7
        go_wp2
        go_ret2
        refine ⟨?_, Hb7.out⟩
        rw [Hac.out]
        unfold Vf.putL
        rw [Hz.out]
        rfl
  · simp only [hv, Bool.not_eq_true, if_false]
    go_wp2
    go_ret2
    exact ⟨rfl, Hb1.out⟩
end Go.Proofs.YtlionohbndehgaaDoor
