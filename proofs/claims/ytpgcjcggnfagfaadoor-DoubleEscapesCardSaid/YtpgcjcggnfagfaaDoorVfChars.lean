
/- The functions on runes, texts and names, as plain functions on lists. No condition but sizes. -/
import Derived.Test.YtpgcjcggnfagfaaDoorVfKit
namespace Go.Proofs.YtpgcjcggnfagfaaDoor.Vf
set_option linter.unusedVariables false
set_option linter.unusedSimpArgs false

def retB (b : Bool) : Option Res := some ⟨.bool b, false, []⟩
theorem retB_congr {a b : Bool} (h : a = b) : some (⟨.bool a, false, []⟩ : Res) = some ⟨.bool b, false, []⟩ := by rw [h]

theorem D_Text (s : List UInt8) (n : Nat) (hn : n ≤ 1000000000) : D id_keepText [.str s, .int .i64 n] = some ⟨.str (s.take n), false, []⟩ := by
  refine den_fn (N := 0) (F := keepText) rfl rfl ?_
  rw [keepText_eq]
  show keepTextr D 0 s n = _
  unfold keepTextr
  have e : (if (n : Int) < (s.length : Int) then (n : Int) else (s.length : Int)) = ((min n s.length : Nat) : Int) := by split <;> omega
  have h2 : s.take (min n s.length) = s.take n := by rw [List.take_eq_take_iff]; omega
  rw [e, need_d2 (by omega) (by omega)]
  simp only [Int.toNat_natCast, List.drop_zero, h2]

theorem tmod_within (v : Int) (n : Int) (h0 : 1 ≤ n) (hn : n ≤ 1000000000) : (bif decide (Int.tmod v n < 0) then IntKind.i64.wrap (Int.tmod v n + n) else Int.tmod v n) = v % n := by
  have h4 := Int.emod_nonneg v (b := n) (by omega)
  have h5 := Int.emod_lt_of_pos v (b := n) (by omega)
  by_cases h3 : Int.tmod v n < 0
  · have e : Int.tmod v n + n = v % n := by
      have := Int.tmod_eq_emod (a := v) (b := n)
      rw [this] at h3 ⊢
      split at h3
      · omega
      · rename_i hh
        rw [if_neg hh]
        simp only [Int.natAbs_of_nonneg (show (0 : Int) ≤ n by omega)]; omega
    rw [cond_d h3, e, wrap_i64 (by omega) (by omega)]
  · have e : Int.tmod v n = v % n := by
      have := Int.tmod_eq_emod (a := v) (b := n)
      rw [this] at h3 ⊢
      split at h3
      · rename_i hh; rw [if_pos hh]; simp
      · rename_i hh; simp only [Int.natAbs_of_nonneg (show (0 : Int) ≤ n by omega)] at h3; omega
    rw [cond_nd h3, e]

theorem D_Within (v : Int) (n : Int) (h0 : 1 ≤ n) (hn : n ≤ 1000000000) : D id_keepWithin [.int .i64 v, .int .i64 n] = some ⟨.int .i64 (v % n), false, []⟩ := by
  refine den_fn (N := 0) (F := keepWithin) rfl rfl ?_
  rw [keepWithin_eq, ← tmod_within v n h0 hn]
  unfold keepWithinr
  rw [cond_nd (by omega), need_nd (by omega)]
  by_cases h3 : Int.tmod v n < 0
  · rw [cond_d h3, cond_d h3]
  · rw [cond_nd h3, cond_nd h3]

def printable (r : Int) : Bool := decide (r = 9 ∨ r = 10 ∨ r = 13 ∨ (32 ≤ r ∧ r ≤ 126) ∨ r = 133 ∨ (160 ≤ r ∧ r < 55296) ∨ (57343 < r ∧ r ≤ 1114111 ∧ r ≠ 65279 ∧ r ≠ 65534 ∧ r ≠ 65535))

theorem D_Printable (r : Int) : D id_charsPrintable [.int .i32 r] = some ⟨.bool (printable r), false, []⟩ := by
  refine den_fn (N := 0) (F := charsPrintable) rfl rfl ?_
  rw [charsPrintable_eq]
  unfold charsPrintabler
  simp only [bool_cond, decide_eq_true_eq, beq_iff_eq]
  repeat' split
  all_goals refine retB_congr ?_
  all_goals (unfold printable; rw [Bool.eq_iff_iff]; simp only [decide_eq_true_eq, beq_iff_eq, true_iff, false_iff, Bool.false_eq_true]; omega)

def letter (c : Int) : Bool := decide ((97 ≤ c ∧ c ≤ 122) ∨ (65 ≤ c ∧ c ≤ 90) ∨ (48 ≤ c ∧ c ≤ 57) ∨ c = 45 ∨ c = 95)

def letters (s : List UInt8) : Bool := s.all fun c => letter c.toNat
theorem letters_cons (c : UInt8) (s : List UInt8) : letters (c :: s) = (letter c.toNat && letters s) := rfl
def nameP (s : List UInt8) : Bool := letters s && decide (1 ≤ s.length ∧ s.length ≤ 32)

theorem drop_step {s : List UInt8} {i : Nat} (h : i < s.length) : s.drop i = s.getD i 0 :: s.drop (i + 1) := by
  rw [List.drop_eq_getElem_cons h]; simp [List.getD, h]

end Go.Proofs.YtpgcjcggnfagfaaDoor.Vf
