
/- Indents, blank lines, breaks, and the reference's lines, as plain functions on lists. No condition but sizes. -/
import Derived.Test.YtpjpmfchcijikaaDoorVfLinesB
namespace Go.Proofs.YtpjpmfchcijikaaDoor.Vf
set_option linter.unusedVariables false
set_option linter.unusedSimpArgs false

/-- How many blanks are ahead. -/
def lead : List UInt8 → Nat
  | [] => 0
  | c :: r => if c.toNat = 32 then lead r + 1 else 0
theorem lead_le : ∀ s : List UInt8, lead s ≤ s.length
  | [] => Nat.le_refl _
  | c :: r => by simp only [lead]; split; have := lead_le r; simp; omega; simp

theorem trim_loop (N : Nat) (k0 : List UInt8 → Option Res) : ∀ (n : Nat) (s : List UInt8), s.length < n → bytesTrimLeftByte_L1 D N k0 n s 32 = k0 (s.drop (lead s)) := by
  intro n
  induction n with
  | zero => intro s h; omega
  | succ n ih =>
    intro s h
    simp only [bytesTrimLeftByte_L1, bytesTrimLeftByte_L1s]
    cases s with
    | nil => rfl
    | cons c r =>
      rw [cond_d (by simp), need_d (by omega)]
      simp only [show Int.toNat 0 = 0 from rfl, List.getElem?_cons_zero, Option.bind_some, lead]
      simp only [List.length_cons] at h
      by_cases h32 : c.toNat = 32
      · rw [cond_eq (by omega), if_pos h32, need_d2 (by omega) (by simp only [List.length_cons]; omega)]
        have e : ((c :: r).take (c :: r).length).drop (Int.toNat 1) = r := by simp
        rw [e, ih r (by omega)]; rfl
      · rw [cond_ne (by omega), if_neg h32]; rfl

theorem D_TrimLeftByte (s : List UInt8) : D id_bytesTrimLeftByte [.bytes s, .int .u8 32] = some ⟨.bytes (s.drop (lead s)), false, []⟩ := by
  refine den_fn (N := s.length + 1) (F := bytesTrimLeftByte) rfl rfl ?_
  rw [bytesTrimLeftByte_eq]
  show bytesTrimLeftByter D _ s 32 = _
  unfold bytesTrimLeftByter
  rw [trim_loop _ _ (s.length + 1) s (Nat.lt_succ_self _)]
  by_cases h : s.drop (lead s) = []
  · rw [h]; rfl
  · have := length_pos_of h
    rw [cond_ne (by omega)]
theorem D_TrimLeft (s : List UInt8) : D id_bytesTrimLeft [.bytes s, .str [32]] = some ⟨.bytes (s.drop (lead s)), false, []⟩ := by
  refine den_fn (N := 0) (F := bytesTrimLeft) rfl rfl ?_
  rw [bytesTrimLeft_eq]
  show bytesTrimLeftr D 0 s [32] = _
  unfold bytesTrimLeftr
  by_cases h : s = []
  · subst h; rfl
  · have := length_pos_of h
    rw [cond_ne (by omega)]
    have e := D_TrimLeftByte s
    simp [need, asY, e]

/-- What is there of a line. -/
def lineB (b : List UInt8) (x : Ln) : List UInt8 := (b.take x.t).drop x.f
theorem lineB_len (b : List UInt8) (x : Ln) (h : x.f ≤ x.t) (h' : x.t ≤ b.length) : (lineB b x).length = x.t - x.f := by unfold lineB; simp; omega

theorem D_text (b : List UInt8) (x : Ln) (h : x.f ≤ x.t) (h' : x.t ≤ b.length) : D id_linesText [.bytes b, x.av] = some ⟨.bytes (lineB b x), false, []⟩ := by
  refine den_fn (N := 0) (F := linesText) rfl rfl ?_
  show runF gl _ 0 linesText [.bytes b, .agg [.int .i64 x.f, .int .i64 x.t, .int .i64 x.n]] = _
  rw [linesText_eq]
  show linesTextr D 0 b x.f x.t x.n = _
  unfold linesTextr
  have e1 : (if ((b.length : Nat) : Int) < (x.t : Int) then ((b.length : Nat) : Int) else (x.t : Int)) = x.t := by rw [if_neg (by omega)]
  have e2 : (if (x.t : Int) > 0 then (x.t : Int) else 0) = x.t := by split <;> omega
  have e3 : (if (x.f : Int) > 0 then (x.f : Int) else 0) = x.f := by split <;> omega
  have e4 : (if (x.t : Int) < (x.f : Int) then (x.t : Int) else (x.f : Int)) = x.f := by rw [if_neg (by omega)]
  have e5 : (if (x.t : Int) > (x.f : Int) then (x.t : Int) else (x.f : Int)) = x.t := by split <;> omega
  simp only [e1, e2, e3, e4, e5]
  rw [need_d2 (by omega) (by omega), need_d2 (by omega) (by omega)]
  rfl

theorem D_Indent (b : List UInt8) (x : Ln) (h : x.f ≤ x.t) (h' : x.t ≤ b.length) (hb : b.length ≤ 1000000) : D id_linesIndent [.bytes b, x.av] = some ⟨.int .i64 (lead (lineB b x) : Nat), false, []⟩ := by
  refine den_fn (N := 0) (F := linesIndent) rfl rfl ?_
  show runF gl _ 0 linesIndent [.bytes b, .agg [.int .i64 x.f, .int .i64 x.t, .int .i64 x.n]] = _
  rw [linesIndent_eq]
  show linesIndentr D 0 b x.f x.t x.n = _
  unfold linesIndentr
  have e : D id_linesText [.bytes b, .agg [.int .i64 x.f, .int .i64 x.t, .int .i64 x.n]] = _ := D_text b x h h'
  rw [e]
  simp only [Option.bind_some, asY_y]
  have e2 : D id_bytesTrimLeft [.bytes (lineB b x), .str [32]] = _ := D_TrimLeft (lineB b x)
  rw [e2]
  simp only [Option.bind_some, asY_y]
  have hl := lineB_len b x h h'
  have := lead_le (lineB b x)
  rw [List.length_drop, wrap_i64 (by omega) (by omega)]
  have e3 : ((lineB b x).length : Int) - (((lineB b x).length - lead (lineB b x) : Nat) : Int) = (lead (lineB b x) : Nat) := by omega
  rw [e3]

theorem D_Blank (b : List UInt8) (x : Ln) (h : x.f ≤ x.t) (h' : x.t ≤ b.length) (hb : b.length ≤ 1000000) : D id_linesBlank [.bytes b, x.av] = some ⟨.bool (decide (lead (lineB b x) = x.t - x.f)), false, []⟩ := by
  refine den_fn (N := 0) (F := linesBlank) rfl rfl ?_
  show runF gl _ 0 linesBlank [.bytes b, .agg [.int .i64 x.f, .int .i64 x.t, .int .i64 x.n]] = _
  rw [linesBlank_eq]
  show linesBlankr D 0 b x.f x.t x.n = _
  unfold linesBlankr
  have e : D id_linesText [.bytes b, .agg [.int .i64 x.f, .int .i64 x.t, .int .i64 x.n]] = _ := D_text b x h h'
  have e2 : D id_linesIndent [.bytes b, .agg [.int .i64 x.f, .int .i64 x.t, .int .i64 x.n]] = _ := D_Indent b x h h' hb
  rw [e2]
  simp only [Option.bind_some, asI_i]
  rw [e]
  simp only [Option.bind_some, asY_y]
  have hl := lineB_len b x h h'
  refine retB_congr ?_
  rw [Bool.eq_iff_iff]; simp only [beq_iff_eq, decide_eq_true_eq]; omega

/-- A text's line's end. -/
def breakL (b : List UInt8) : List UInt8 := match splitL b with
  | [] => [10]
  | x :: _ => if x.t < x.n then (b.take x.n).drop x.t else [10]

theorem D_marked02 (b : List UInt8) : D id_ref01Marked [.bytes b] = some ⟨.bool (decide (3 ≤ b.length ∧ b.take 3 = [239, 187, 191])), false, []⟩ := by
  refine den_fn (N := 0) (F := ref01Marked) rfl rfl ?_
  rw [ref01Marked_eq]
  show ref01Markedr D 0 b = _
  unfold ref01Markedr
  by_cases h3 : 3 ≤ b.length
  · rw [cond_d (by omega), need_d (by omega), need_d (by omega), need_d (by omega)]
    have t3 : b.take 3 = [b.getD 0 0, b.getD 1 0, b.getD 2 0] := by
      match b, h3 with
      | x :: y :: z :: r, _ => rfl
    simp only [show Int.toNat 0 = 0 from rfl, show Int.toNat 1 = 1 from rfl, show Int.toNat 2 = 2 from rfl]
    rw [get_bn (by omega), get_bn (by omega), get_bn (by omega), t3]
    have u : ∀ (c d : UInt8), c.toNat = d.toNat ↔ c = d := fun c d => UInt8.toNat_inj
    have u0 := u (b.getD 0 0) 239
    have u1 := u (b.getD 1 0) 187
    have u2 := u (b.getD 2 0) 191
    simp only [show (239 : UInt8).toNat = 239 from rfl, show (187 : UInt8).toNat = 187 from rfl, show (191 : UInt8).toNat = 191 from rfl] at u0 u1 u2
    by_cases g0 : (b.getD 0 0).toNat = 239
    · rw [cond_eq (by omega), u0.1 g0]
      by_cases g1 : (b.getD 1 0).toNat = 187
      · rw [cond_eq (by omega), u1.1 g1]
        refine retB_congr ?_
        rw [Bool.eq_iff_iff]
        simp only [beq_iff_eq, decide_eq_true_eq, List.cons.injEq, true_and, and_true]
        rw [← u2]; omega
      · rw [cond_ne (by omega)]
        refine retB_congr (decide_eq_false fun h => ?_).symm
        simp only [List.cons.injEq] at h; exact g1 (u1.2 h.2.2.1)
    · rw [cond_ne (by omega)]
      refine retB_congr (decide_eq_false fun h => ?_).symm
      simp only [List.cons.injEq] at h; exact g0 (u0.2 h.2.1)
  · rw [cond_nd (by omega)]
    exact retB_congr (decide_eq_false fun h => h3 h.1).symm

/-- The first byte 10 from a place on, or the end. -/
def toTen (b : List UInt8) : Nat → Nat → Nat
  | 0, i => i
  | k + 1, i => if i < b.length ∧ b.getD i 0 ≠ 10 then toTen b k (i + 1) else i
theorem ten_loop (N : Nat) (b : List UInt8) (hb : b.length ≤ 1000000) (k0) (a : Int) (l : List AV) : ∀ (n i : Nat), b.length < i + n → i ≤ b.length → ref01Split_L2 D N k0 n b a i l = k0 b a (toTen b n i : Nat) l := by
  intro n
  induction n with
  | zero => intro i h h'; omega
  | succ n ih =>
    intro i h h'
    simp only [ref01Split_L2, ref01Split_L2s, toTen]
    by_cases hi : i < b.length
    · rw [cond_d (by omega), need_d (by omega)]
      simp only [Int.toNat_natCast]
      rw [get_bn hi]
      by_cases h10 : b.getD i 0 = 10
      · rw [cond_beq (by rw [h10]; rfl), if_neg (fun h => h.2 h10)]
      · rw [cond_bne (fun e => h10 (UInt8.toNat_inj.1 (show (b.getD i 0).toNat = 10 by omega))), if_pos ⟨hi, h10⟩, wrap_i64 (by omega) (by omega), show (i : Int) + 1 = ((i + 1 : Nat) : Int) by omega]
        exact ih (i + 1) (by omega) (by omega)
    · rw [cond_nd (by omega), if_neg (fun h => hi h.1)]
theorem toTen_eq (b : List UInt8) : ∀ (n i : Nat), b.length < i + n → i ≤ b.length → toTen b n i = if Lib.indexByte (b.drop i) 10 < 0 then b.length else i + (Lib.indexByte (b.drop i) 10).toNat := by
  intro n
  induction n with
  | zero => intro i h h'; omega
  | succ n ih =>
    intro i h h'
    simp only [toTen]
    by_cases hi : i < b.length
    · rw [drop_step hi]
      have hge := Lib.indexByte_ge (b.drop (i + 1)) 10
      have e : Lib.indexByte (b.getD i 0 :: b.drop (i + 1)) 10 = if (b.getD i 0 == 10) = true then (0 : Int) else if (Lib.indexByte (b.drop (i + 1)) 10 == -1) = true then -1 else Lib.indexByte (b.drop (i + 1)) 10 + 1 := rfl
      by_cases h10 : b.getD i 0 = 10
      · have e0 : Lib.indexByte (b.getD i 0 :: b.drop (i + 1)) 10 = 0 := by rw [e, if_pos (by rw [h10]; rfl)]
        rw [if_neg (fun h => h.2 h10), e0]; simp
      · have e0 : Lib.indexByte (b.getD i 0 :: b.drop (i + 1)) 10 = if (Lib.indexByte (b.drop (i + 1)) 10 == -1) = true then -1 else Lib.indexByte (b.drop (i + 1)) 10 + 1 := by rw [e, if_neg (by simpa using h10)]
        rw [if_pos ⟨hi, h10⟩, e0, ih (i + 1) (by omega) (by omega)]
        by_cases hn : Lib.indexByte (b.drop (i + 1)) 10 = -1
        · rw [hn]; rfl
        · have e1 : (if (Lib.indexByte (b.drop (i + 1)) 10 == -1) = true then (-1 : Int) else Lib.indexByte (b.drop (i + 1)) 10 + 1) = Lib.indexByte (b.drop (i + 1)) 10 + 1 := if_neg (by simpa using hn)
          rw [e1, if_neg (by omega), if_neg (by omega)]; omega
    · rw [if_neg (fun h => hi h.1), List.drop_eq_nil_of_le (by omega)]
      have : i = b.length := by omega
      rw [this]; rfl

theorem refSplit_loop (b : List UInt8) (hb : b.length ≤ 1000000) (N : Nat) (hN : b.length < N) (k0 : List AV → Option Res) : ∀ (n a : Nat) (acc : List AV), b.length < a + n → acc.length ≤ a → a ≤ b.length →
    ref01Split_L1 D N k0 n b a acc = k0 (acc ++ (splitFrom b n a).map Ln.av) := by
  intro n
  induction n with
  | zero => intro a acc h _ h2; omega
  | succ n ih =>
    intro a acc h hacc ha
    simp only [ref01Split_L1, ref01Split_L1s, splitFrom]
    by_cases hlt : a < b.length
    · rw [cond_d (by omega), if_pos hlt, ten_loop N b hb _ _ _ N a (by omega) (by omega), toTen_eq b N a (by omega) (by omega)]
      have hge := Lib.indexByte_ge (b.drop a) 10
      have hdec : ∀ x : AV, decide (acc.length + [x].length ≤ 1099511627776) = true := by intro x; simp; omega
      simp only [List.drop_zero, List.take_length, hdec, need_true]
      by_cases hneg : Lib.indexByte (b.drop a) 10 < 0
      · rw [if_pos hneg, if_pos hneg, cond_nd (by omega)]
        obtain ⟨n, rfl⟩ : ∃ m, n = m + 1 := ⟨n - 1, by omega⟩
        rw [ih b.length _ (by omega) (by rw [List.length_append]; simp only [List.length_cons, List.length_nil]; omega) (Nat.le_refl _)]
        simp only [splitFrom, if_neg (Nat.lt_irrefl b.length), List.map_nil, List.append_nil, List.map_cons]
        rfl
      · rw [if_neg hneg, if_neg hneg]
        obtain ⟨m, hm⟩ : ∃ m : Nat, Lib.indexByte (b.drop a) 10 = m := ⟨_, (Int.toNat_of_nonneg (by omega)).symm⟩
        have hat := (Lib.indexByte_some hm).1
        have hmlt := (List.getElem?_eq_some_iff.1 hat).1
        rw [List.length_drop] at hmlt
        rw [hm]
        simp only [Int.toNat_natCast]
        have w1 : IntKind.i64.wrap (((a + m : Nat) : Int) + 1) = ((a + m + 1 : Nat) : Int) := by rw [wrap_i64 (by omega) (by omega)]; omega
        rw [cond_d (by omega), w1]
        have go : ∀ t : Nat, ref01Split_L1 D N k0 n b ((a + m + 1 : Nat) : Int) (acc ++ [AV.agg [AV.int .i64 (a : Nat), AV.int .i64 (t : Nat), AV.int .i64 ((a + m + 1 : Nat) : Int)]]) = k0 (acc ++ (⟨a, t, a + m + 1⟩ :: splitFrom b n (a + m + 1) : List Ln).map Ln.av) := by
          intro t
          rw [ih (a + m + 1) _ (by omega) (by rw [List.length_append]; simp only [List.length_cons, List.length_nil]; omega) (by omega)]
          simp [Ln.av]
        by_cases hm0 : 0 < m
        · have w2 : IntKind.i64.wrap (((a + m : Nat) : Int) - 1) = ((a + m - 1 : Nat) : Int) := by rw [wrap_i64 (by omega) (by omega)]; omega
          rw [cond_d (by omega)]
          simp only [w2, need_d (show (0 : Int) ≤ ((a + m - 1 : Nat) : Int) by omega), Int.toNat_natCast]
          have hg : b[a + m - 1]? = some (b.getD (a + m - 1) 0) := by simp only [List.getD, List.getElem?_eq_getElem (show a + m - 1 < b.length by omega), Option.getD_some]
          rw [get_bn (by omega), hg]
          by_cases h13 : b.getD (a + m - 1) 0 = 13
          · rw [cond_eq (by rw [h13]; rfl), if_pos ⟨hm0, by rw [h13]⟩]; exact go _
          · rw [cond_ne (fun e => h13 (UInt8.toNat_inj.1 (show (b.getD (a + m - 1) 0).toNat = 13 by omega))), if_neg (fun h => h13 (by simpa using h.2))]; exact go _
        · rw [cond_nd (by omega), if_neg (fun h => hm0 h.1)]; exact go _
    · rw [cond_nd (by omega), if_neg hlt]; simp

theorem D_refSplit (b : List UInt8) (hb : b.length ≤ 1000000) : D id_ref01Split [.bytes b] = some ⟨.row 3 ((splitL b).map Ln.av), true, []⟩ := by
  refine den_fn (N := b.length + 1) (F := ref01Split) rfl rfl ?_
  rw [ref01Split_eq]
  show ref01Splitr D _ b = _
  unfold ref01Splitr
  rw [D_marked02]
  simp only [Option.bind_some, asB_b, List.drop_zero, List.take_length]
  unfold splitL bomAt
  by_cases h : 3 ≤ b.length ∧ b.take 3 = [239, 187, 191]
  · rw [cond_d h, if_pos h]
    have := refSplit_loop b hb (b.length + 1) (by omega) (fun l => some ⟨.row 3 l, true, []⟩) (b.length + 1) 3 [] (by omega) (by simp) h.1
    simpa using this
  · rw [cond_nd h, if_neg h]
    have := refSplit_loop b hb (b.length + 1) (by omega) (fun l => some ⟨.row 3 l, true, []⟩) (b.length + 1) 0 [] (by omega) (by simp) (by omega)
    simpa using this

theorem getD_take2 {b : List UInt8} {n i : Nat} (h : i < n) : (b.take n).getD i 0 = b.getD i 0 := by
  simp only [List.getD, List.getElem?_take, if_pos h]
theorem refIndent_loop (b : List UInt8) (hb : b.length ≤ 1000000) (x : Ln) (h : x.f ≤ x.t) (h' : x.t ≤ b.length) (N : Nat) (k0 : Int → Option Res) : ∀ (n i : Nat), x.t < x.f + i + n → x.f + i ≤ x.t →
    ref01Indent_L1 D N k0 n b i x.f x.t x.n = k0 ((i + lead ((b.take x.t).drop (x.f + i)) : Nat) : Int) := by
  intro n
  induction n with
  | zero => intro i h _; omega
  | succ n ih =>
    intro i h1 h2
    simp only [ref01Indent_L1, ref01Indent_L1s]
    have w1 : IntKind.i64.wrap ((x.f : Int) + (i : Int)) = ((x.f + i : Nat) : Int) := by rw [wrap_i64 (by omega) (by omega)]; omega
    rw [w1]
    by_cases hi : x.f + i < x.t
    · have hl : x.f + i < (b.take x.t).length := by rw [List.length_take]; omega
      rw [cond_d (by omega), need_d (by omega), drop_step hl, getD_take2 hi]
      simp only [Int.toNat_natCast, lead]
      rw [get_bn (by omega)]
      by_cases h32 : (b.getD (x.f + i) 0).toNat = 32
      · rw [cond_eq (by omega), if_pos h32, wrap_i64 (by omega) (by omega), show (i : Int) + 1 = ((i + 1 : Nat) : Int) by omega, ih (i + 1) (by omega) (by omega)]
        rw [show x.f + (i + 1) = x.f + i + 1 by omega, show i + 1 + lead ((b.take x.t).drop (x.f + i + 1)) = i + (lead ((b.take x.t).drop (x.f + i + 1)) + 1) by omega]
      · rw [cond_ne (by omega), if_neg h32]; rfl
    · rw [cond_nd (by omega), List.drop_eq_nil_of_le (by rw [List.length_take]; omega)]; rfl

theorem D_refIndent (b : List UInt8) (x : Ln) (h : x.f ≤ x.t) (h' : x.t ≤ b.length) (hb : b.length ≤ 1000000) : D id_ref01Indent [.bytes b, x.av] = some ⟨.int .i64 (lead (lineB b x) : Nat), false, []⟩ := by
  refine den_fn (N := b.length + 1) (F := ref01Indent) rfl rfl ?_
  show runF gl _ _ ref01Indent [.bytes b, .agg [.int .i64 x.f, .int .i64 x.t, .int .i64 x.n]] = _
  rw [ref01Indent_eq]
  show ref01Indentr D _ b x.f x.t x.n = _
  unfold ref01Indentr
  have := refIndent_loop b hb x h h' (b.length + 1) (fun i10 => some ⟨AV.int .i64 i10, false, []⟩) (b.length + 1) 0 (by omega) (by omega)
  rw [Nat.add_zero, Nat.zero_add] at this
  exact this

theorem D_refBlank (b : List UInt8) (x : Ln) (h : x.f ≤ x.t) (h' : x.t ≤ b.length) (hb : b.length ≤ 1000000) : D id_ref01Blank [.bytes b, x.av] = some ⟨.bool (decide (lead (lineB b x) = x.t - x.f)), false, []⟩ := by
  refine den_fn (N := 0) (F := ref01Blank) rfl rfl ?_
  show runF gl _ 0 ref01Blank [.bytes b, .agg [.int .i64 x.f, .int .i64 x.t, .int .i64 x.n]] = _
  rw [ref01Blank_eq]
  show ref01Blankr D 0 b x.f x.t x.n = _
  unfold ref01Blankr
  have e2 : D id_ref01Indent [.bytes b, .agg [.int .i64 x.f, .int .i64 x.t, .int .i64 x.n]] = _ := D_refIndent b x h h' hb
  rw [e2]
  simp only [Option.bind_some, asI_i]
  have hl := lineB_len b x h h'
  have := lead_le (lineB b x)
  rw [wrap_i64 (by omega) (by omega)]
  refine retB_congr ?_
  rw [Bool.eq_iff_iff]; simp only [beq_iff_eq, decide_eq_true_eq]; omega

/-- The last line that begins at an offset or ahead of it. -/
def refAt (l : List Ln) (off : Int) : Nat → Int
  | 0 => -1
  | k + 1 => match l[k]? with
    | some x => if (x.f : Int) ≤ off then (k : Int) else refAt l off k
    | none => -1
theorem refAt_atDown (l : List Ln) (off : Int) : ∀ k, k ≤ l.length → (atDown l off k = (-1, 0) ∧ refAt l off k = -1) ∨ (∃ (i : Nat) (x : Ln), l[i]? = some x ∧ (x.f : Int) ≤ off ∧ atDown l off k = ((i : Int), off - x.f) ∧ refAt l off k = i) := by
  intro k
  induction k with
  | zero => intro _; exact .inl ⟨rfl, rfl⟩
  | succ k ih =>
    intro hk
    have hx : l[k]? = some l[k] := List.getElem?_eq_getElem (by omega)
    simp only [atDown, refAt, hx]
    by_cases hle : (l[k].f : Int) ≤ off
    · rw [if_pos hle, if_pos hle]; exact .inr ⟨k, l[k], hx, hle, rfl, rfl⟩
    · rw [if_neg hle, if_neg hle]; exact ih (by omega)
end Go.Proofs.YtpjpmfchcijikaaDoor.Vf
