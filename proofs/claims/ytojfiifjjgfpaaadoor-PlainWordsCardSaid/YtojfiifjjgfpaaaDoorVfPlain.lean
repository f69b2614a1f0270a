
/- The functions on plain scalars, and the reference's, as plain functions on lists. No condition but sizes. -/
import Derived.Test.YtojfiifjjgfpaaaDoorVfRune
namespace Go.Proofs.YtojfiifjjgfpaaaDoor.Vf
set_option linter.unusedVariables false
set_option linter.unusedSimpArgs false

theorem rune_size' (l : List UInt8) (h : l ≠ []) : 1 ≤ (rune l).2.1 ∧ (rune l).2.1 ≤ l.length := by
  cases l with
  | nil => exact absurd rfl h
  | cons c r =>
    have hc := byte_lt c
    rw [rune_cons]
    simp only [List.length_cons]
    by_cases k1 : c.toNat < 128
    · rw [runeN_1 k1]; dsimp only; omega
    by_cases k2 : c.toNat < 192
    · rw [runeN_bad (by omega) hc]; dsimp only; omega
    by_cases k3 : c.toNat < 224
    · rw [runeN_2 (by omega) k3]; split <;> dsimp only <;> omega
    by_cases k4 : c.toNat < 240
    · rw [runeN_3 (by omega) k4]; split <;> dsimp only <;> omega
    by_cases k5 : c.toNat < 248
    · rw [runeN_4 (by omega) k5]; split <;> dsimp only <;> omega
    · rw [runeN_bad (by omega) hc]; dsimp only; omega

theorem indexByte_has' (l : List UInt8) (c : UInt8) : 0 ≤ Lib.indexByte l c ↔ l.contains c = true := by
  induction l with
  | nil => simp [Lib.indexByte]
  | cons b l ih =>
    have hge := Lib.indexByte_ge l c
    rw [List.contains_cons]
    show 0 ≤ (if (b == c) = true then (0 : Int) else if (Lib.indexByte l c == -1) = true then -1 else Lib.indexByte l c + 1) ↔ _
    by_cases h : b = c
    · subst h; simp
    · have h1 : (b == c) = false := by simpa using h
      have h2 : (c == b) = false := by simpa using fun e => h e.symm
      rw [h1, h2, Bool.false_or, ← ih, if_neg (by simp)]
      by_cases hn : Lib.indexByte l c = -1
      · rw [if_pos (by simpa using hn)]; omega
      · rw [if_neg (by simpa using hn)]; omega
theorem indexByte_has (l : List UInt8) (c : UInt8) : decide (Lib.indexByte l c ≥ 0) = l.contains c := by
  rw [Bool.eq_iff_iff, decide_eq_true_eq]; exact indexByte_has' l c
theorem indexByte_not (l : List UInt8) (c : UInt8) : decide (Lib.indexByte l c < 0) = !l.contains c := by
  rw [← indexByte_has, Bool.eq_iff_iff]; simp only [decide_eq_true_eq, Bool.not_eq_true', decide_eq_false_iff_not]; omega

theorem D_sIndexByte (s : List UInt8) (c : UInt8) : D id_stringsIndexByte [.str s, .int .u8 (c.toNat : Int)] = some ⟨.int .i64 (Lib.indexByte s c), false, []⟩ := by
  refine den_fn (N := 0) (F := stringsIndexByte) rfl rfl ?_
  rw [stringsIndexByte_eq]
  show stringsIndexByter D 0 s _ = _
  unfold stringsIndexByter
  have h1 : D id_internalStringsliteIndexByte [.str s, .int .u8 (c.toNat : Int)] = some ⟨.int .i64 (Lib.indexByte s c), false, []⟩ := by
    refine den_fn (N := 0) (F := internalStringsliteIndexByte) rfl rfl ?_
    rw [internalStringsliteIndexByte_eq]
    show internalStringsliteIndexByter D 0 s _ = _
    unfold internalStringsliteIndexByter
    have h2 : D id_internalBytealgIndexByteString [.str s, .int .u8 (c.toNat : Int)] = some ⟨.int .i64 (Lib.indexByte s ((c.toNat : Int).toNat.toUInt8)), false, []⟩ := den_ext rfl
    rw [h2]
    simp [asI_i]
  rw [h1]; simp [asI_i]

def blank (c : UInt8) : Bool := decide (c.toNat = 32) || decide (c.toNat = 9)
def brk (c : UInt8) : Bool := ([44, 91, 93, 123, 125] : List UInt8).contains c
def sgn (c : UInt8) : Bool := ([45, 63, 58] : List UInt8).contains c
def ind (c : UInt8) : Bool := ([44, 91, 93, 123, 125, 35, 38, 42, 33, 124, 62, 39, 34, 37, 64, 96] : List UInt8).contains c

theorem D_blank (c : UInt8) : D id_plainBlank [.int .u8 (c.toNat : Int)] = some ⟨.bool (blank c), false, []⟩ := by
  refine den_fn (N := 0) (F := plainBlank) rfl rfl ?_
  rw [plainBlank_eq]
  unfold plainBlankr blank
  by_cases h : c.toNat = 32
  · rw [cond_eq (by omega)]; simp [h]
  · rw [cond_ne (by omega)]; refine retB_congr ?_
    rw [Bool.eq_iff_iff]; simp [h]; omega

theorem D_bracket (c : UInt8) : D id_plainBracket [.int .u8 (c.toNat : Int)] = some ⟨.bool (brk c), false, []⟩ := by
  refine den_fn (N := 0) (F := plainBracket) rfl rfl ?_
  rw [plainBracket_eq]
  show plainBracketr D 0 _ = _
  unfold plainBracketr
  rw [D_sIndexByte]
  simp only [Option.bind_some, asI_i, indexByte_has]
  rfl

/-- Is what stands at a place an end of what is ahead of it? -/
def endsAt (b : List UInt8) (i : Nat) (flow : Bool) : Bool := if b.length ≤ i then true else blank (b.getD i 0) || (flow && brk (b.getD i 0))

theorem D_ends (b : List UInt8) (i : Nat) (flow : Bool) : D id_plainEnds [.bytes b, .int .i64 i, .bool flow] = some ⟨.bool (endsAt b i flow), false, []⟩ := by
  refine den_fn (N := 0) (F := plainEnds) rfl rfl ?_
  rw [plainEnds_eq]
  show plainEndsr D 0 b i flow = _
  unfold plainEndsr endsAt
  by_cases h : b.length ≤ i
  · rw [cond_d (by omega), if_pos h]
  · rw [cond_nd (by omega), if_neg h]
    simp (disch := omega) only [need_d, Int.toNat_natCast, get_bn, D_blank, D_bracket, Option.bind_some, asB_b]
    cases blank (b.getD i 0) <;> cases flow <;> rfl

/-- May a plain scalar begin there? -/
def starts (b : List UInt8) (flow : Bool) : Bool :=
  if b = [] then false else !blank (b.getD 0 0) && !(b.take 3 == [45, 45, 45]) && !(b.take 3 == [46, 46, 46]) && (if sgn (b.getD 0 0) = true then !endsAt b 1 flow else !ind (b.getD 0 0))

theorem take3_short {b : List UInt8} (h : ¬ 3 ≤ b.length) (x y z : UInt8) : (b.take 3 == [x, y, z]) = false := by
  rw [beq_eq_false_iff_ne]; intro e
  have := congrArg List.length e
  simp at this; omega

theorem D_Starts (b : List UInt8) (flow : Bool) : D id_plainStarts [.bytes b, .bool flow] = some ⟨.bool (starts b flow), false, []⟩ := by
  refine den_fn (N := 0) (F := plainStarts) rfl rfl ?_
  rw [plainStarts_eq]
  show plainStartsr D 0 b flow = _
  unfold plainStartsr starts
  by_cases hb : b = []
  · subst hb; rfl
  have hl := length_pos_of hb
  have e1 : (1 : Int) = ((1 : Nat) : Int) := rfl
  have c0 : (((b.length : Nat) : Int) : Int) ≠ 0 := by omega
  rw [if_neg hb, cond_ne c0]
  simp (disch := omega) only [need_d, need_d2, Int.toNat_zero, get_bn, D_blank, Option.bind_some, asB_b, asI_i, D_sIndexByte, indexByte_has, indexByte_not, e1, D_ends, show Int.toNat 3 = 3 from rfl, List.drop_zero]
  have tail : (bif ([45, 63, 58] : List UInt8).contains (b.getD 0 0) then some (⟨AV.bool (!endsAt b 1 flow), false, []⟩ : Res) else some ⟨AV.bool (!([44, 91, 93, 123, 125, 35, 38, 42, 33, 124, 62, 39, 34, 37, 64, 96] : List UInt8).contains (b.getD 0 0)), false, []⟩) = some ⟨.bool (if sgn (b.getD 0 0) = true then !endsAt b 1 flow else !ind (b.getD 0 0)), false, []⟩ := by
    show (bif sgn (b.getD 0 0) then _ else _) = _
    cases sgn (b.getD 0 0) <;> rfl
  cases h0 : blank (b.getD 0 0)
  · by_cases h3 : 3 ≤ b.length
    · rw [cond_d (by omega)]
      simp (disch := omega) only [need_d2]
      cases h1 : (b.take 3 == [45, 45, 45])
      · cases h2 : (b.take 3 == [46, 46, 46])
        · simp only [cond_false, tail, Bool.not_false, Bool.true_and]
        · rfl
      · rfl
    · rw [cond_nd (by omega), take3_short h3, take3_short h3]
      simp only [cond_false, tail, Bool.not_false, Bool.true_and]
  · rfl

/-- Does a plain scalar end ahead of a place? -/
def stopAt (b : List UInt8) (i : Nat) (flow : Bool) : Bool :=
  if (b.getD i 0).toNat = 9 then true else if (b.getD i 0).toNat = 58 then endsAt b (i + 1) flow else if (b.getD i 0).toNat = 35 then decide (0 < i) && blank (b.getD (i - 1) 0) else flow && brk (b.getD i 0)

theorem D_stops (b : List UInt8) (i : Nat) (flow : Bool) (hi : i < b.length) (hb : b.length ≤ 1000000) : D id_plainStops [.bytes b, .int .i64 i, .bool flow] = some ⟨.bool (stopAt b i flow), false, []⟩ := by
  refine den_fn (N := 0) (F := plainStops) rfl rfl ?_
  rw [plainStops_eq]
  show plainStopsr D 0 b i flow = _
  unfold plainStopsr stopAt
  rw [need_d (by omega)]
  simp only [Int.toNat_natCast]
  rw [get_bn hi]
  by_cases h9 : (b.getD i 0).toNat = 9
  · rw [cond_eq (by omega), if_pos h9]
  rw [cond_ne (by omega), if_neg h9]
  by_cases h58 : (b.getD i 0).toNat = 58
  · rw [cond_eq (by omega), if_pos h58, wrap_i64 (by omega) (by omega), show (i : Int) + 1 = ((i + 1 : Nat) : Int) by omega, D_ends]; rfl
  rw [cond_ne (by omega), if_neg h58]
  by_cases h35 : (b.getD i 0).toNat = 35
  · rw [cond_eq (by omega), if_pos h35]
    by_cases h0 : 0 < i
    · rw [cond_d (by omega), wrap_i64 (by omega) (by omega), show (i : Int) - 1 = ((i - 1 : Nat) : Int) by omega, need_d (by omega)]
      simp only [Int.toNat_natCast]
      rw [get_bn (by omega), D_blank]
      simp [asB_b, h0]
    · rw [cond_nd (by omega)]; simp [h0]
  rw [cond_ne (by omega), if_neg h35, D_bracket]
  cases flow <;> rfl

/-- How far it goes. -/
def runTo (b : List UInt8) (flow : Bool) : Nat → Nat → Nat
  | 0, i => i
  | k + 1, i => if i < b.length ∧ stopAt b i flow = false then runTo b flow k (i + 1) else i
def trimTo (b : List UInt8) : Nat → Nat
  | 0 => 0
  | n + 1 => if (b.getD n 0).toNat = 32 then trimTo b n else n + 1
theorem runTo_le (b : List UInt8) (flow : Bool) : ∀ k i, i ≤ b.length → runTo b flow k i ≤ b.length
  | 0, i, h => h
  | k + 1, i, h => by
    simp only [runTo]; split
    · exact runTo_le b flow k (i + 1) (by omega)
    · exact h
theorem trimTo_le (b : List UInt8) : ∀ n, trimTo b n ≤ n
  | 0 => Nat.le_refl _
  | n + 1 => by simp only [trimTo]; split; have := trimTo_le b n; omega; omega
def plen (b : List UInt8) (flow : Bool) : Nat := if starts b flow = true then trimTo b (runTo b flow (b.length + 1) 0) else 0

theorem len_loop1 (b : List UInt8) (hb : b.length ≤ 1000000) (flow : Bool) (N : Nat) (k0 : List UInt8 → Int → Option Res) : ∀ (n i : Nat), b.length < i + n → i ≤ b.length →
    plainLength_L1 D N k0 n b flow i = k0 b (runTo b flow n i : Nat) := by
  intro n
  induction n with
  | zero => intro i h _; omega
  | succ n ih =>
    intro i h hi
    simp only [plainLength_L1, plainLength_L1s, runTo]
    by_cases hlt : i < b.length
    · rw [cond_d (by omega), D_stops b i flow hlt hb]
      simp only [Option.bind_some, asB_b]
      cases hs : stopAt b i flow
      · rw [if_pos ⟨hlt, rfl⟩, wrap_i64 (by omega) (by omega), show (i : Int) + 1 = ((i + 1 : Nat) : Int) by omega, ← ih (i + 1) (by omega) (by omega)]; rfl
      · rw [if_neg (by simp)]; rfl
    · rw [cond_nd (by omega), if_neg (by omega)]
theorem len_loop2 (b : List UInt8) (hb : b.length ≤ 1000000) (N : Nat) (k0 : Int → Option Res) : ∀ (n i : Nat), i < n → i ≤ b.length →
    plainLength_L2 D N k0 n b i = k0 (trimTo b i : Nat) := by
  intro n
  induction n with
  | zero => intro i h _; omega
  | succ n ih =>
    intro i h hi
    simp only [plainLength_L2, plainLength_L2s]
    cases i with
    | zero => rfl
    | succ i =>
      rw [cond_d (by omega), wrap_i64 (by omega) (by omega), show ((i + 1 : Nat) : Int) - 1 = (i : Int) by omega, need_d (by omega)]
      simp only [Int.toNat_natCast, trimTo]
      rw [get_bn (by omega)]
      by_cases h32 : (b.getD i 0).toNat = 32
      · rw [cond_eq (by omega), if_pos h32, ih i (by omega) (by omega)]
      · rw [cond_ne (by omega), if_neg h32]

theorem D_Length (b : List UInt8) (hb : b.length ≤ 1000000) (flow : Bool) : D id_plainLength [.bytes b, .bool flow] = some ⟨.int .i64 (plen b flow : Nat), false, []⟩ := by
  refine den_fn (N := b.length + 1) (F := plainLength) rfl rfl ?_
  rw [plainLength_eq]
  show plainLengthr D _ b flow = _
  unfold plainLengthr plen
  rw [D_Starts]
  simp only [Option.bind_some, asB_b]
  cases starts b flow
  · rfl
  · simp only [Bool.not_true, cond_false, if_true]
    rw [show (0 : Int) = ((0 : Nat) : Int) from rfl, len_loop1 b hb flow _ _ (b.length + 1) 0 (by omega) (by omega)]
    have := runTo_le b flow (b.length + 1) 0 (by omega)
    rw [len_loop2 b hb _ _ (b.length + 1) _ (by omega) this]

/-- Are all runes printable, and none below 32? -/
def cleanL (tabs : Bool) : Nat → List UInt8 → Bool
  | 0, _ => true
  | k + 1, l => if l = [] then true else (rune l).2.2 && printable (rune l).1 && !decide ((rune l).1 = 10) && !decide ((rune l).1 = 13) && (tabs || !decide ((rune l).1 = 9)) && cleanL tabs k (l.drop (rune l).2.1)
theorem cleanL_fuel (tabs : Bool) : ∀ (n m : Nat) (l : List UInt8), l.length < n → l.length < m → cleanL tabs n l = cleanL tabs m l := by
  intro n
  induction n with
  | zero => intro m l h; omega
  | succ n ih =>
    intro m l h h'
    obtain ⟨m, rfl⟩ : ∃ k, m = k + 1 := ⟨m - 1, by omega⟩
    simp only [cleanL]
    by_cases hl : l = []
    · rw [if_pos hl, if_pos hl]
    · rw [if_neg hl, if_neg hl]
      have := rune_size' l hl
      rw [ih m _ (by simp; omega) (by simp; omega)]
def clean (tabs : Bool) (l : List UInt8) : Bool := cleanL tabs (l.length + 1) l

theorem low_printable (r : Nat) : (printable r && !decide (r = 10) && !decide (r = 13) && !decide (r = 9)) = (printable r && !decide (r < 32)) := by
  rw [Bool.eq_iff_iff]
  simp only [Bool.and_eq_true, Bool.not_eq_true', decide_eq_false_iff_not]
  unfold printable
  rw [decide_eq_true_eq]
  omega

theorem valid_loop (s : List UInt8) (hs : s.length ≤ 1000000) (flow : Bool) (N : Nat) (k0 : Bool → Option Res) (k1 : List UInt8 → Bool → List UInt8 → Option Res) : ∀ (n i : Nat), s.length < i + n → i ≤ s.length →
    plainValid_L1 D N k0 k1 n s flow s i = bif cleanL false n (s.drop i) then k1 s flow s else k0 false := by
  intro n
  induction n with
  | zero => intro i h _; omega
  | succ n ih =>
    intro i h hi
    simp only [plainValid_L1, plainValid_L1s, cleanL]
    by_cases hlt : i < s.length
    · have hne : s.drop i ≠ [] := fun e => by have := congrArg List.length e; simp at this; omega
      have hsz := rune_size' _ hne
      rw [List.length_drop] at hsz
      rw [cond_d (by omega), need_d2 (by omega) (by omega), if_neg hne]
      simp only [Int.toNat_natCast, List.take_length, D_Rune, Option.bind_some, asJIBT, asT_t, asC_c, asI_i, asB_b, asN_n, D_Printable]
      rw [wrap_i64 (by omega) (by omega), show (i : Int) + ((rune (s.drop i)).2.1 : Nat) = ((i + (rune (s.drop i)).2.1 : Nat) : Int) by omega, ih _ (by omega) (by omega), List.drop_drop]
      have hlow := low_printable (rune (s.drop i)).1
      cases hok : (rune (s.drop i)).2.2
      · rfl
      · cases hp : printable ((rune (s.drop i)).1 : Nat)
        · simp
        · rw [hp] at hlow
          simp only [Bool.true_and] at hlow
          by_cases h32 : (rune (s.drop i)).1 < 32
          · rw [cond_d (by omega)]
            simp only [h32, decide_true, Bool.not_true] at hlow
            simp only [Bool.true_and, Bool.false_or, hlow, Bool.false_and]; rfl
          · rw [cond_nd (by omega)]
            simp only [h32, decide_false, Bool.not_false] at hlow
            simp only [Bool.true_and, Bool.false_or, hlow]; rfl
    · rw [cond_nd (by omega), List.drop_eq_nil_of_le (by omega)]; simp

def pvalid (s : List UInt8) (flow : Bool) : Bool := clean false s && !(s == []) && decide (plen s flow = s.length)

theorem D_Valid (s : List UInt8) (hs : s.length ≤ 1000000) (flow : Bool) : D id_plainValid [.str s, .bool flow] = some ⟨.bool (pvalid s flow), false, []⟩ := by
  refine den_fn (N := s.length + 1) (F := plainValid) rfl rfl ?_
  rw [plainValid_eq]
  show plainValidr D _ s flow = _
  unfold plainValidr pvalid clean
  rw [show (0 : Int) = ((0 : Nat) : Int) from rfl, valid_loop s hs flow _ _ _ (s.length + 1) 0 (by omega) (by omega), List.drop_zero]
  cases cleanL false (s.length + 1) s
  · rfl
  · simp only [cond_true, Bool.true_and]
    cases hn : (s == [])
    · simp only [Bool.not_false, cond_true, Bool.true_and]
      rw [D_Length s hs flow]
      simp only [Option.bind_some, asI_i]
      refine retB_congr ?_
      rw [Bool.eq_iff_iff]; simp only [beq_iff_eq, decide_eq_true_eq]; omega
    · rfl

-- the reference
theorem in_loop (c : UInt8) (s : List UInt8) (hs : s.length ≤ 1000000) (N : Nat) (k0 : Bool → Option Res) (k1 : Option Res) : ∀ (n i : Nat), s.length < i + n → i ≤ s.length →
    ref01In_L1 D N k0 k1 n (c.toNat : Int) s i = if (s.drop i).contains c = true then k0 true else k1 := by
  intro n
  induction n with
  | zero => intro i h _; omega
  | succ n ih =>
    intro i h hi
    simp only [ref01In_L1, ref01In_L1s]
    by_cases hlt : i < s.length
    · rw [cond_d (by omega), need_d (by omega)]
      simp only [Int.toNat_natCast]
      rw [get_bn hlt, wrap_i64 (by omega) (by omega), show (i : Int) + 1 = ((i + 1 : Nat) : Int) by omega, ih (i + 1) (by omega) (by omega), drop_step hlt, List.contains_cons]
      by_cases he : s.getD i 0 = c
      · rw [cond_eq (by rw [he]), he]; simp
      · have h2 : (c == s.getD i 0) = false := by simpa using fun e => he e.symm
        rw [cond_ne (fun hh => he (UInt8.toNat_inj.1 (by omega))), h2, Bool.false_or]
    · rw [cond_nd (by omega), List.drop_eq_nil_of_le (by omega)]; rfl
theorem D_in (c : UInt8) (s : List UInt8) (hs : s.length ≤ 1000000) : D id_ref01In [.int .u8 (c.toNat : Int), .str s] = some ⟨.bool (s.contains c), false, []⟩ := by
  refine den_fn (N := s.length + 1) (F := ref01In) rfl rfl ?_
  rw [ref01In_eq]
  show ref01Inr D _ _ s = _
  unfold ref01Inr
  rw [show (0 : Int) = ((0 : Nat) : Int) from rfl, in_loop c s hs _ _ _ (s.length + 1) 0 (by omega) (by omega), List.drop_zero]
  cases s.contains c <;> rfl

theorem sgn_not_ind (c : UInt8) (h : sgn c = true) : ind c = false := by
  simp only [sgn, List.contains_cons, List.contains_nil, Bool.or_false, Bool.or_eq_true, beq_iff_eq] at h
  rcases h with rfl | rfl | rfl <;> rfl

theorem D_refStarts (b : List UInt8) (flow : Bool) : D id_ref01PlainStarts [.bytes b, .bool flow] = some ⟨.bool (starts b flow), false, []⟩ := by
  refine den_fn (N := 0) (F := ref01PlainStarts) rfl rfl ?_
  rw [ref01PlainStarts_eq]
  show ref01PlainStartsr D 0 b flow = _
  unfold ref01PlainStartsr starts
  by_cases hb : b = []
  · subst hb; rfl
  have hl := length_pos_of hb
  have c0 : (((b.length : Nat) : Int) : Int) ≠ 0 := by omega
  rw [if_neg hb, cond_ne c0]
  simp only [D_in _ ([44, 91, 93, 123, 125, 35, 38, 42, 33, 124, 62, 39, 34, 37, 64, 96] : List UInt8) (by simp), D_in _ ([45, 63, 58] : List UInt8) (by simp), D_in _ ([44, 91, 93, 123, 125] : List UInt8) (by simp)]
  simp (disch := omega) only [need_d, need_d2, Int.toNat_zero, get_bn, Option.bind_some, asB_b, show Int.toNat 3 = 3 from rfl, show Int.toNat 1 = 1 from rfl, List.drop_zero]
  have tail : (bif ([44, 91, 93, 123, 125, 35, 38, 42, 33, 124, 62, 39, 34, 37, 64, 96] : List UInt8).contains (b.getD 0 0) then some (⟨AV.bool false, false, []⟩ : Res) else bif !([45, 63, 58] : List UInt8).contains (b.getD 0 0) then some ⟨AV.bool true, false, []⟩ else
      bif decide (((b.length : Nat) : Int) > 1) then (b[1]?).bind fun c5 => bif (c5.toNat : Int) != 9 then (b[1]?).bind fun c6 => bif (c6.toNat : Int) != 32 then bif flow then (b[1]?).bind fun c7 => some ⟨AV.bool (!([44, 91, 93, 123, 125] : List UInt8).contains c7), false, []⟩ else some ⟨AV.bool true, false, []⟩ else some ⟨AV.bool false, false, []⟩ else some ⟨AV.bool false, false, []⟩ else some ⟨AV.bool false, false, []⟩) =
      some ⟨.bool (if sgn (b.getD 0 0) = true then !endsAt b 1 flow else !ind (b.getD 0 0)), false, []⟩ := by
    show (bif ind (b.getD 0 0) then _ else bif !sgn (b.getD 0 0) then _ else _) = _
    cases hs : sgn (b.getD 0 0)
    · cases ind (b.getD 0 0) <;> rfl
    · rw [sgn_not_ind _ hs]
      simp only [cond_false, Bool.not_true, if_true]
      unfold endsAt
      by_cases h1 : b.length ≤ 1
      · rw [cond_nd (by omega), if_pos h1]; rfl
      · rw [cond_d (by omega), if_neg h1, get_bn (by omega)]
        unfold blank
        by_cases h9 : (b.getD 1 0).toNat = 9
        · rw [cond_beq (by omega), decide_eq_true h9]; simp only [Bool.or_true, Bool.true_or, Bool.not_true]
        · rw [cond_bne (by omega), get_bn (by omega)]
          by_cases h32 : (b.getD 1 0).toNat = 32
          · rw [cond_beq (by omega), decide_eq_true h32]; simp only [Bool.true_or, Bool.not_true]
          · rw [cond_bne (by omega), get_bn (by omega)]
            rw [decide_eq_false h9, decide_eq_false h32]
            cases flow <;> rfl
  have e0 : blank (b.getD 0 0) = (decide ((b.getD 0 0).toNat = 32) || decide ((b.getD 0 0).toNat = 9)) := rfl
  by_cases h9 : (b.getD 0 0).toNat = 9
  · rw [cond_eq (by omega), e0, decide_eq_true h9]; simp only [Bool.or_true, Bool.not_true, Bool.false_and]
  rw [cond_ne (by omega)]
  by_cases h32 : (b.getD 0 0).toNat = 32
  · rw [cond_eq (by omega), e0, decide_eq_true h32]; simp only [Bool.true_or, Bool.not_true, Bool.false_and]
  rw [cond_ne (by omega), e0, decide_eq_false h9, decide_eq_false h32]
  by_cases h3 : 3 ≤ b.length
  · rw [cond_d (by omega)]
    simp (disch := omega) only [need_d2]
    cases h1 : (b.take 3 == [45, 45, 45])
    · cases h2 : (b.take 3 == [46, 46, 46])
      · simp only [cond_false]
        exact tail
      · rfl
    · rfl
  · rw [cond_nd (by omega), take3_short h3, take3_short h3]
    exact tail

theorem refLen_loop1 (b : List UInt8) (hb : b.length ≤ 1000000) (flow : Bool) (N : Nat) (k0 : List UInt8 → Int → Option Res) : ∀ (n i : Nat), b.length < i + n → i ≤ b.length → (0 < i → (b.getD (i - 1) 0).toNat ≠ 9) →
    ref01PlainLength_L1 D N k0 n b flow i = k0 b (runTo b flow n i : Nat) := by
  intro n
  induction n with
  | zero => intro i h _; omega
  | succ n ih =>
    intro i h hi h9p
    simp only [ref01PlainLength_L1, ref01PlainLength_L1s, runTo, D_in _ ([44, 91, 93, 123, 125] : List UInt8) (by simp)]
    by_cases hlt : i < b.length
    · rw [cond_d (by omega), need_d (by omega)]
      simp only [Int.toNat_natCast]
      rw [get_bn hlt]
      have go : stopAt b i flow = false → ref01PlainLength_L1 D N k0 n b flow (IntKind.i64.wrap ((i : Int) + 1)) = k0 b ((if i < b.length ∧ stopAt b i flow = false then runTo b flow n (i + 1) else i : Nat) : Int) := by
        intro hs
        have h9 : (b.getD i 0).toNat ≠ 9 := by
          intro h; unfold stopAt at hs; rw [if_pos h] at hs; cases hs
        rw [if_pos ⟨hlt, hs⟩, wrap_i64 (by omega) (by omega), show (i : Int) + 1 = ((i + 1 : Nat) : Int) by omega, ih (i + 1) (by omega) (by omega) (fun _ => h9)]
      have no : stopAt b i flow = true → k0 b (i : Int) = k0 b ((if i < b.length ∧ stopAt b i flow = false then runTo b flow n (i + 1) else i : Nat) : Int) := by
        intro hs; rw [if_neg (by rw [hs]; simp)]
      have hw1 : IntKind.i64.wrap ((i : Int) + 1) = ((i + 1 : Nat) : Int) := by rw [wrap_i64 (by omega) (by omega)]; omega
      have hbe : ([44, 91, 93, 123, 125] : List UInt8).contains (b.getD i 0) = brk (b.getD i 0) := rfl
      have hbe1 : ([44, 91, 93, 123, 125] : List UInt8).contains (b.getD (i + 1) 0) = brk (b.getD (i + 1) 0) := rfl
      rw [hw1] at go
      by_cases h9 : (b.getD i 0).toNat = 9
      · rw [cond_eq (by omega)]; exact no (by unfold stopAt; rw [if_pos h9])
      by_cases h58 : (b.getD i 0).toNat = 58
      · have hbr : brk (b.getD i 0) = false := by
          have : b.getD i 0 = 58 := UInt8.toNat_inj.1 h58
          rw [this]; rfl
        have hst : stopAt b i flow = endsAt b (i + 1) flow := by unfold stopAt; rw [if_neg h9, if_pos h58]
        by_cases hend : i + 1 = b.length
        · simp (disch := omega) only [cond_eq, cond_ne, hw1]
          exact no (by rw [hst]; unfold endsAt; rw [if_pos (by omega)])
        · have he : endsAt b (i + 1) flow = (blank (b.getD (i + 1) 0) || (flow && brk (b.getD (i + 1) 0))) := by unfold endsAt; rw [if_neg (by omega)]
          have hbl : blank (b.getD (i + 1) 0) = (decide ((b.getD (i + 1) 0).toNat = 32) || decide ((b.getD (i + 1) 0).toNat = 9)) := rfl
          by_cases g9 : (b.getD (i + 1) 0).toNat = 9
          · simp (disch := omega) only [cond_eq, cond_ne, hw1, need_d, Int.toNat_natCast, get_bn]
            exact no (by rw [hst, he, hbl, decide_eq_true g9]; simp only [Bool.or_true, Bool.true_or])
          by_cases g32 : (b.getD (i + 1) 0).toNat = 32
          · simp (disch := omega) only [cond_eq, cond_ne, hw1, need_d, Int.toNat_natCast, get_bn]
            exact no (by rw [hst, he, hbl, decide_eq_true g32]; simp only [Bool.true_or])
          rw [decide_eq_false g9, decide_eq_false g32] at hbl
          cases flow
          · simp (disch := omega) only [cond_eq, cond_ne, hw1, need_d, Int.toNat_natCast, get_bn, cond_false]
            exact go (by rw [hst, he, hbl]; rfl)
          · simp (disch := omega) only [cond_eq, cond_ne, hw1, need_d, Int.toNat_natCast, get_bn, cond_true, Option.bind_some, asB_b, hbe, hbe1, hbr, cond_false]
            cases g : brk (b.getD (i + 1) 0)
            · exact go (by rw [hst, he, hbl, g]; rfl)
            · exact no (by rw [hst, he, hbl, g]; rfl)
      by_cases h35 : (b.getD i 0).toNat = 35
      · have hbr : brk (b.getD i 0) = false := by
          have : b.getD i 0 = 35 := UInt8.toNat_inj.1 h35
          rw [this]; rfl
        have hst : stopAt b i flow = (decide (0 < i) && blank (b.getD (i - 1) 0)) := by unfold stopAt; rw [if_neg h9, if_neg h58, if_pos h35]
        by_cases h0 : 0 < i
        · have hw2 : IntKind.i64.wrap ((i : Int) - 1) = ((i - 1 : Nat) : Int) := by rw [wrap_i64 (by omega) (by omega)]; omega
          have hbl : blank (b.getD (i - 1) 0) = (decide ((b.getD (i - 1) 0).toNat = 32) || decide ((b.getD (i - 1) 0).toNat = 9)) := rfl
          rw [decide_eq_false (h9p h0), Bool.or_false] at hbl
          by_cases g32 : (b.getD (i - 1) 0).toNat = 32
          · simp (disch := omega) only [cond_eq, cond_ne, cond_d, hw1, hw2, need_d, Int.toNat_natCast, get_bn]
            exact no (by rw [hst, hbl, decide_eq_true g32, decide_eq_true h0]; rfl)
          · cases flow <;> simp (disch := omega) only [cond_eq, cond_ne, cond_d, hw1, hw2, need_d, Int.toNat_natCast, get_bn, cond_true, Option.bind_some, asB_b, hbe, hbr, cond_false] <;> exact go (by rw [hst, hbl, decide_eq_false g32, Bool.and_false])
        · cases flow <;> simp (disch := omega) only [cond_eq, cond_ne, cond_nd, hw1, need_d, Int.toNat_natCast, get_bn, cond_true, Option.bind_some, asB_b, hbe, hbr, cond_false] <;> exact go (by rw [hst]; simp [h0])
      have hst : stopAt b i flow = (flow && brk (b.getD i 0)) := by unfold stopAt; rw [if_neg h9, if_neg h58, if_neg h35]
      cases flow
      · simp (disch := omega) only [cond_eq, cond_ne, hw1, cond_false]
        exact go (by rw [hst]; rfl)
      · simp (disch := omega) only [cond_eq, cond_ne, hw1, cond_true, Option.bind_some, asB_b, hbe]
        cases g : brk (b.getD i 0)
        · exact go (by rw [hst, g]; rfl)
        · exact no (by rw [hst, g]; rfl)
    · rw [cond_nd (by omega), if_neg (by omega)]

theorem refLen_loop2 (b : List UInt8) (hb : b.length ≤ 1000000) (N : Nat) (k0 : Int → Option Res) : ∀ (n i : Nat), i < n → i ≤ b.length →
    ref01PlainLength_L2 D N k0 n b i = k0 (trimTo b i : Nat) := by
  intro n
  induction n with
  | zero => intro i h _; omega
  | succ n ih =>
    intro i h hi
    simp only [ref01PlainLength_L2, ref01PlainLength_L2s]
    cases i with
    | zero => rfl
    | succ i =>
      rw [cond_d (by omega), wrap_i64 (by omega) (by omega), show ((i + 1 : Nat) : Int) - 1 = (i : Int) by omega, need_d (by omega)]
      simp only [Int.toNat_natCast, trimTo]
      rw [get_bn (by omega)]
      by_cases h32 : (b.getD i 0).toNat = 32
      · rw [cond_eq (by omega), if_pos h32, ih i (by omega) (by omega)]
      · rw [cond_ne (by omega), if_neg h32]

theorem D_refLength (b : List UInt8) (hb : b.length ≤ 1000000) (flow : Bool) : D id_ref01PlainLength [.bytes b, .bool flow] = some ⟨.int .i64 (plen b flow : Nat), false, []⟩ := by
  refine den_fn (N := b.length + 1) (F := ref01PlainLength) rfl rfl ?_
  rw [ref01PlainLength_eq]
  show ref01PlainLengthr D _ b flow = _
  unfold ref01PlainLengthr plen
  rw [D_refStarts]
  simp only [Option.bind_some, asB_b]
  cases starts b flow
  · rfl
  · simp only [Bool.not_true, cond_false, if_true]
    rw [show (0 : Int) = ((0 : Nat) : Int) from rfl, refLen_loop1 b hb flow _ _ (b.length + 1) 0 (by omega) (by omega) (fun h => by omega)]
    have := runTo_le b flow (b.length + 1) 0 (by omega)
    rw [refLen_loop2 b hb _ _ (b.length + 1) _ (by omega) this]

theorem clean_loop (tabs : Bool) (N : Nat) (k0 : Bool → Option Res) (k1 : Option Res) : ∀ (n : Nat) (s : List UInt8), s.length < n →
    ref01Clean_L1 D N k0 k1 n tabs s = bif cleanL tabs n s then k1 else k0 false := by
  intro n
  induction n with
  | zero => intro s h; omega
  | succ n ih =>
    intro s h
    simp only [ref01Clean_L1, ref01Clean_L1s, cleanL]
    by_cases hs : s = []
    · subst hs; rfl
    · have hl := length_pos_of hs
      have hsz := rune_size' s hs
      rw [cond_d (by omega), if_neg hs]
      simp only [List.take_length, D_refRune, Option.bind_some, asJIBT, asT_t, asC_c, asI_i, asB_b, asN_n, D_refPrintable, Int.toNat_natCast]
      rw [ih _ (by simp; omega)]
      simp only [need_d2 (show (0 : Int) ≤ ((rune s).2.1 : Int) by omega) (show ((rune s).2.1 : Int) ≤ (s.length : Int) by omega)]
      generalize cleanL tabs n (s.drop (rune s).2.1) = r
      cases hok : (rune s).2.2
      · rfl
      · cases hp : printable ((rune s).1 : Nat)
        · simp
        · by_cases h10 : (rune s).1 = 10
          · rw [cond_eq (by omega)]; simp [h10]
          · rw [cond_ne (by omega)]
            by_cases h13 : (rune s).1 = 13
            · rw [cond_eq (by omega)]; simp [h13]
            · rw [cond_ne (by omega)]
              by_cases h9 : (rune s).1 = 9
              · rw [cond_eq (by omega)]; cases tabs <;> cases r <;> simp [h9]
              · rw [cond_ne (by omega)]; cases tabs <;> cases r <;> simp [h10, h13, h9]

theorem D_clean (s : List UInt8) (tabs : Bool) : D id_ref01Clean [.str s, .bool tabs] = some ⟨.bool (clean tabs s), false, []⟩ := by
  refine den_fn (N := s.length + 1) (F := ref01Clean) rfl rfl ?_
  rw [ref01Clean_eq]
  show ref01Cleanr D _ s tabs = _
  unfold ref01Cleanr clean
  rw [clean_loop tabs _ _ _ (s.length + 1) s (Nat.lt_succ_self _)]
  cases cleanL tabs (s.length + 1) s <;> rfl

theorem D_refValid (s : List UInt8) (hs : s.length ≤ 1000000) (flow : Bool) : D id_ref01PlainValid [.str s, .bool flow] = some ⟨.bool (pvalid s flow), false, []⟩ := by
  refine den_fn (N := 0) (F := ref01PlainValid) rfl rfl ?_
  rw [ref01PlainValid_eq]
  show ref01PlainValidr D _ s flow = _
  unfold ref01PlainValidr pvalid
  rw [D_clean, D_refLength s hs flow]
  simp only [Option.bind_some, asB_b, asI_i]
  have e : ((plen s flow : Int) == (s.length : Int)) = decide (plen s flow = s.length) := by rw [Bool.eq_iff_iff]; simp only [beq_iff_eq, decide_eq_true_eq]; omega
  rw [e]
  cases clean false s <;> cases (s == []) <;> rfl
end Go.Proofs.YtojfiifjjgfpaaaDoor.Vf
