
/- The functions on runes, texts and names, as plain functions on lists. No condition but sizes. -/
import Derived.Test.YthdefengmkcacaaDoorVfKit
namespace Go.Proofs.YthdefengmkcacaaDoor.Vf
set_option linter.unusedVariables false
set_option linter.unusedSimpArgs false

theorem retB_congr {a b : Bool} (h : a = b) : some (⟨.bool a, false, []⟩ : Res) = some ⟨.bool b, false, []⟩ := by rw [h]

theorem D_Text (s : List UInt8) (n : Nat) (hn : n ≤ 1000000000) : D id_keepText [.str s, .int .i64 n] = some ⟨.str (s.take n), false, []⟩ := by
  refine den_fn (N := 0) (F := keepText) rfl rfl ?_
  rw [keepText_eq]
  show keepTextr D 0 s n = _
  unfold keepTextr
  have e : (if (n : Int) < (s.length : Int) then (n : Int) else (s.length : Int)) = ((min n s.length : Nat) : Int) := by split <;> omega
  have h2 : s.take (min n s.length) = s.take n := by rw [List.take_eq_take_iff]; omega
  rw [e, need_d2 (by omega) (by omega)]
  simp only [Int.toNat_natCast, List.drop_zero, h2]

theorem tmod_within (v : Int) (n : Int) (h0 : 1 ≤ n) (hn : n ≤ 1000000000) : (bif decide (Int.tmod v n < 0) then IntKind.i64.wrap (Int.tmod v n + n) else Int.tmod v n) = v % n := by
  have h4 := Int.emod_nonneg v (b := n) (by omega)
  have h5 := Int.emod_lt_of_pos v (b := n) (by omega)
  by_cases h3 : Int.tmod v n < 0
  · have e : Int.tmod v n + n = v % n := by
      have := Int.tmod_eq_emod (a := v) (b := n)
      rw [this] at h3 ⊢
      split at h3
      · omega
      · rename_i hh
        rw [if_neg hh]
        simp only [Int.natAbs_of_nonneg (show (0 : Int) ≤ n by omega)]; omega
    rw [cond_d h3, e, wrap_i64 (by omega) (by omega)]
  · have e : Int.tmod v n = v % n := by
      have := Int.tmod_eq_emod (a := v) (b := n)
      rw [this] at h3 ⊢
      split at h3
      · rename_i hh; rw [if_pos hh]; simp
      · rename_i hh; simp only [Int.natAbs_of_nonneg (show (0 : Int) ≤ n by omega)] at h3; omega
    rw [cond_nd h3, e]

theorem D_Within (v : Int) (n : Int) (h0 : 1 ≤ n) (hn : n ≤ 1000000000) : D id_keepWithin [.int .i64 v, .int .i64 n] = some ⟨.int .i64 (v % n), false, []⟩ := by
  refine den_fn (N := 0) (F := keepWithin) rfl rfl ?_
  rw [keepWithin_eq, ← tmod_within v n h0 hn]
  unfold keepWithinr
  rw [cond_nd (by omega), need_nd (by omega)]
  by_cases h3 : Int.tmod v n < 0
  · rw [cond_d h3, cond_d h3]
  · rw [cond_nd h3, cond_nd h3]

def printable (r : Int) : Bool := decide (r = 9 ∨ r = 10 ∨ r = 13 ∨ (32 ≤ r ∧ r ≤ 126) ∨ r = 133 ∨ (160 ≤ r ∧ r < 55296) ∨ (57343 < r ∧ r ≤ 1114111 ∧ r ≠ 65279 ∧ r ≠ 65534 ∧ r ≠ 65535))

theorem D_refPrintable (r : Int) : D id_ref01Printable [.int .i32 r] = some ⟨.bool (printable r), false, []⟩ := by
  refine den_fn (N := 0) (F := ref01Printable) rfl rfl ?_
  rw [ref01Printable_eq]
  unfold ref01Printabler
  by_cases h1 : r = 9
  · subst h1; rfl
  by_cases h2 : r = 10
  · subst h2; rfl
  by_cases h3 : r = 13
  · subst h3; rfl
  by_cases h4 : r = 133
  · subst h4; rfl
  rw [cond_ne h1, cond_ne h2, cond_ne h3, cond_ne h4]
  simp only [bool_cond, decide_eq_true_eq, beq_iff_eq]
  repeat' split
  all_goals refine retB_congr ?_
  all_goals (unfold printable; rw [Bool.eq_iff_iff]; simp only [decide_eq_true_eq, beq_iff_eq, true_iff, false_iff, Bool.false_eq_true]; omega)

theorem D_Digit (c : Int) : D id_charsDigit [.int .u8 c] = some ⟨.bool (decide (48 ≤ c ∧ c ≤ 57)), false, []⟩ := by
  refine den_fn (N := 0) (F := charsDigit) rfl rfl ?_
  rw [charsDigit_eq]
  unfold charsDigitr
  simp only [bool_cond, decide_eq_true_eq, beq_iff_eq]
  repeat' split
  all_goals refine retB_congr ?_
  all_goals (rw [Bool.eq_iff_iff]; simp only [decide_eq_true_eq, beq_iff_eq, true_iff, false_iff, Bool.false_eq_true]; omega)

def letter (c : Int) : Bool := decide ((97 ≤ c ∧ c ≤ 122) ∨ (65 ≤ c ∧ c ≤ 90) ∨ (48 ≤ c ∧ c ≤ 57) ∨ c = 45 ∨ c = 95)

theorem D_letter (c : Int) : D id_charsLetter [.int .u8 c] = some ⟨.bool (letter c), false, []⟩ := by
  refine den_fn (N := 0) (F := charsLetter) rfl rfl ?_
  rw [charsLetter_eq]
  show charsLetterr D 0 c = _
  unfold charsLetterr
  simp only [D_Digit, Option.bind_some, asB_b, bool_cond, decide_eq_true_eq, beq_iff_eq]
  repeat' split
  all_goals refine retB_congr ?_
  all_goals (unfold letter; rw [Bool.eq_iff_iff]; simp only [decide_eq_true_eq, beq_iff_eq, true_iff, false_iff, Bool.false_eq_true]; omega)

theorem D_refLetter (c : Int) : D id_ref01Letter [.int .u8 c] = some ⟨.bool (letter c), false, []⟩ := by
  refine den_fn (N := 0) (F := ref01Letter) rfl rfl ?_
  rw [ref01Letter_eq]
  unfold ref01Letterr
  simp only [bool_cond, decide_eq_true_eq, beq_iff_eq]
  repeat' split
  all_goals refine retB_congr ?_
  all_goals (unfold letter; rw [Bool.eq_iff_iff]; simp only [decide_eq_true_eq, beq_iff_eq, true_iff, false_iff, Bool.false_eq_true]; omega)

def letters (s : List UInt8) : Bool := s.all fun c => letter c.toNat
theorem letters_cons (c : UInt8) (s : List UInt8) : letters (c :: s) = (letter c.toNat && letters s) := rfl
def nameP (s : List UInt8) : Bool := letters s && decide (1 ≤ s.length ∧ s.length ≤ 32)

theorem drop_step {s : List UInt8} {i : Nat} (h : i < s.length) : s.drop i = s.getD i 0 :: s.drop (i + 1) := by
  rw [List.drop_eq_getElem_cons h]; simp [List.getD, h]

theorem name_loop (s : List UInt8) (hs : s.length ≤ 1000000000000) (N : Nat) (k0 : Bool → Option Res) (k1 : List UInt8 → Option Res) : ∀ (n i : Nat), s.length < i + n → i ≤ s.length →
    charsName_L1 D N k0 k1 n s s s.length i = if letters (s.drop i) = true then k1 s else k0 false := by
  intro n
  induction n with
  | zero => intro i h _; omega
  | succ n ih =>
    intro i h hi
    simp only [charsName_L1, charsName_L1s]
    by_cases hlt : i < s.length
    · rw [cond_d (by omega), need_d (by omega)]
      simp only [Int.toNat_natCast]
      rw [get_bn hlt, D_letter]
      simp only [Option.bind_some, asB_b]
      rw [drop_step hlt, letters_cons, wrap_i64 (by omega) (by omega), show (i : Int) + 1 = ((i + 1 : Nat) : Int) by omega]
      cases hl : letter ((s.getD i 0).toNat : Int)
      · simp
      · rw [ih (i + 1) (by omega) (by omega)]; simp
    · rw [cond_nd (by omega), List.drop_eq_nil_of_le (by omega)]; simp [letters]

theorem D_Name (s : List UInt8) (hs : s.length ≤ 1000000000000) : D id_charsName [.str s] = some ⟨.bool (nameP s), false, []⟩ := by
  refine den_fn (N := s.length + 1) (F := charsName) rfl rfl ?_
  rw [charsName_eq]
  show charsNamer D _ s = _
  unfold charsNamer
  rw [show (0 : Int) = ((0 : Nat) : Int) from rfl, name_loop s hs _ _ _ _ 0 (by omega) (by omega)]
  unfold nameP
  cases hl : letters (s.drop 0) <;> rw [List.drop_zero] at hl
  · simp [hl]
  · simp only [hl, if_true, Bool.true_and, bool_cond, Bool.not_eq_true', beq_eq_false_iff_ne, ne_eq]
    cases s with
    | nil => simp
    | cons c r =>
      rw [if_pos (by simp)]
      refine retB_congr ?_
      rw [Bool.eq_iff_iff]; simp; omega

theorem refName_loop (s : List UInt8) (hs : s.length ≤ 1000000000000) (N : Nat) (k0 : Bool → Option Res) (k1 : List UInt8 → Option Res) : ∀ (n i : Nat), s.length < i + n → i ≤ s.length →
    ref01Name_L1 D N k0 k1 n s i = if letters (s.drop i) = true then k1 s else k0 false := by
  intro n
  induction n with
  | zero => intro i h _; omega
  | succ n ih =>
    intro i h hi
    simp only [ref01Name_L1, ref01Name_L1s]
    by_cases hlt : i < s.length
    · rw [cond_d (by omega), need_d (by omega)]
      simp only [Int.toNat_natCast]
      rw [get_bn hlt, D_refLetter]
      simp only [Option.bind_some, asB_b]
      rw [drop_step hlt, letters_cons, wrap_i64 (by omega) (by omega), show (i : Int) + 1 = ((i + 1 : Nat) : Int) by omega]
      cases hl : letter ((s.getD i 0).toNat : Int)
      · simp
      · rw [ih (i + 1) (by omega) (by omega)]; simp
    · rw [cond_nd (by omega), List.drop_eq_nil_of_le (by omega)]; simp [letters]

theorem D_refName (s : List UInt8) (hs : s.length ≤ 1000000000000) : D id_ref01Name [.str s] = some ⟨.bool (nameP s), false, []⟩ := by
  refine den_fn (N := s.length + 1) (F := ref01Name) rfl rfl ?_
  rw [ref01Name_eq]
  show ref01Namer D _ s = _
  unfold ref01Namer
  rw [show (0 : Int) = ((0 : Nat) : Int) from rfl, refName_loop s hs _ _ _ _ 0 (by omega) (by omega)]
  unfold nameP
  cases hl : letters (s.drop 0) <;> rw [List.drop_zero] at hl
  · simp [hl]
  · simp only [hl, if_true, Bool.true_and, bool_cond, decide_eq_true_eq]
    split
    · refine retB_congr ?_
      rw [Bool.eq_iff_iff]; simp only [decide_eq_true_eq]; omega
    · refine retB_congr ?_
      rw [Bool.eq_iff_iff]; simp only [decide_eq_true_eq, Bool.false_eq_true, false_iff]; omega
end Go.Proofs.YthdefengmkcacaaDoor.Vf
