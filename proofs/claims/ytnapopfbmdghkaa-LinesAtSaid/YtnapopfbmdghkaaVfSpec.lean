/- What the functions that the statements on lines reach come to, as plain functions on lists. No condition but sizes. -/
import Derived.Test.YtnapopfbmdghkaaVfWalk
import Derived.Lib.IndexLaws
namespace Go.Proofs.Ytnapopfbmdghkaa.Vf
set_option linter.unusedVariables false
set_option linter.unusedSimpArgs false

/-- What the machine answers by itself. -/
def X (f : Nat) (vs : List AV) : Option Res :=
  bif Nat.beq f id_internalBytealgIndexByte then (match vs with
    | [.bytes s, .int .u8 n] => some ⟨.int .i64 (Lib.indexByte s n.toNat.toUInt8), false, []⟩
    | _ => none) else none
noncomputable def D : Nat → List AV → Option Res := den gl (get table) X

theorem wrap_i64 {x : Int} (h0 : -9223372036854775808 ≤ x) (h1 : x ≤ 9223372036854775807) : IntKind.i64.wrap x = x := by
  have e : IntKind.i64.wrap x = if decide (x % 18446744073709551616 ≥ 9223372036854775808) = true then x % 18446744073709551616 - 18446744073709551616 else x % 18446744073709551616 := rfl
  rw [e]
  by_cases h : x % 18446744073709551616 ≥ 9223372036854775808
  · rw [if_pos (by simpa using h)]; omega
  · rw [if_neg (by simpa using h)]; omega

theorem D_IndexByte (s : List UInt8) (n : Int) : D id_bytesIndexByte [.bytes s, .int .u8 n] = some ⟨.int .i64 (Lib.indexByte s n.toNat.toUInt8), false, []⟩ := by
  refine den_fn (N := 0) (F := bytesIndexByte) rfl rfl ?_
  rw [bytesIndexByte_eq]
  have : den gl (get table) X id_internalBytealgIndexByte [.bytes s, .int .u8 n] = some ⟨.int .i64 (Lib.indexByte s n.toNat.toUInt8), false, []⟩ := den_ext rfl
  simp [bytesIndexByter, this, asI]

theorem D_Equal (a b : List UInt8) : D id_bytesEqual [.bytes a, .bytes b] = some ⟨.bool (a == b), false, []⟩ :=
  den_fn (N := 0) (F := bytesEqual) rfl rfl (by rw [bytesEqual_eq]; rfl)

theorem D_HasPrefix (a b : List UInt8) : D id_bytesHasPrefix [.bytes a, .bytes b] = some ⟨.bool (decide (b.length ≤ a.length) && a.take b.length == b), false, []⟩ := by
  refine den_fn (N := 0) (F := bytesHasPrefix) rfl rfl ?_
  rw [bytesHasPrefix_eq]
  show bytesHasPrefixr D 0 a b = _
  unfold bytesHasPrefixr
  by_cases h : b.length ≤ a.length
  · have h1 : decide ((a.length : Int) ≥ (b.length : Int)) = true := by simp; omega
    rw [h1]
    simp [D_Equal, asB, need, h]
  · have h1 : decide ((a.length : Int) ≥ (b.length : Int)) = false := by simp; omega
    rw [h1]
    simp [h]

theorem D_Copy (s : List UInt8) (h : s.length ≤ 1099511627776) : D id_keepCopyByte [.bytes s] = some ⟨.bytes s, true, []⟩ := by
  refine den_fn (N := 0) (F := keepCopyByte) rfl rfl ?_
  rw [keepCopyByte_eq]
  simp [keepCopyByter, need, h]

theorem D_Cut (s : List UInt8) (n : Nat) (hn : n ≤ 1000000) : D id_keepCutByte [.bytes s, .int .i64 n] = some ⟨.bytes (s.take n), false, []⟩ := by
  refine den_fn (N := 0) (F := keepCutByte) rfl rfl ?_
  rw [keepCutByte_eq]
  show keepCutByter D 0 s n = _
  unfold keepCutByter
  have e : (if (n : Int) < (s.length : Int) then (n : Int) else (s.length : Int)) = ((min n s.length : Nat) : Int) := by split <;> omega
  rw [e]
  have h2 : s.take (min n s.length) = s.take n := by rw [List.take_eq_take_iff]; omega
  simp only [Int.toNat_natCast, List.drop_zero, h2]
  rw [D_Copy _ (by simp; omega)]
  have h3 : (decide ((0 : Int) ≤ ((min n s.length : Nat) : Int)) && decide (((min n s.length : Nat) : Int) ≤ ((s.length : Nat) : Int))) = true := by
    simp only [Bool.and_eq_true, decide_eq_true_eq]; omega
  rw [h3]
  rfl

theorem D_Within (v : Int) (n : Nat) (h0 : 1 ≤ n) (hn : n ≤ 1000000) : D id_keepWithin [.int .i64 v, .int .i64 n] = some ⟨.int .i64 (v % n), false, []⟩ := by
  refine den_fn (N := 0) (F := keepWithin) rfl rfl ?_
  rw [keepWithin_eq]
  unfold keepWithinr
  have h1 : decide ((n : Int) < 1) = false := by simp; omega
  have h2 : (!decide ((n : Int) = 0)) = true := by simp; omega
  rw [h1, h2]
  simp only [cond_false, need, cond_true]
  have h4 := Int.emod_nonneg v (b := (n : Int)) (by omega)
  have h5 := Int.emod_lt_of_pos v (b := (n : Int)) (by omega)
  by_cases h3 : Int.tmod v n < 0
  · have e : Int.tmod v n + n = v % n := by
      have := Int.tmod_eq_emod (a := v) (b := n)
      rw [this] at h3 ⊢
      split at h3
      · omega
      · rename_i hh
        rw [if_neg hh]
        simp
    rw [decide_eq_true h3]
    simp only [cond_true, e]
    rw [wrap_i64 (by omega) (by omega)]
  · have e : Int.tmod v n = v % n := by
      have := Int.tmod_eq_emod (a := v) (b := n)
      rw [this] at h3 ⊢
      split at h3
      · rename_i hh; rw [if_pos hh]; simp
      · rename_i hh; simp at h3; omega
    rw [decide_eq_false h3]
    simp only [cond_false, e]

/-- A line. -/
structure Ln where
  f : Nat
  t : Nat
  n : Nat
def Ln.av (l : Ln) : AV := .agg [.int .i64 l.f, .int .i64 l.t, .int .i64 l.n]

/-- The lines from a place on. -/
def splitFrom (b : List UInt8) : Nat → Nat → List Ln
  | 0, _ => []
  | k + 1, a => if a < b.length then (if Lib.indexByte (b.drop a) 10 < 0 then [⟨a, b.length, b.length⟩]
      else let n := (Lib.indexByte (b.drop a) 10).toNat
        ⟨a, if 0 < n ∧ b[a + n - 1]? = some 13 then a + n - 1 else a + n, a + n + 1⟩ :: splitFrom b k (a + n + 1)) else []

def bomAt (b : List UInt8) : Nat := if 3 ≤ b.length ∧ b.take 3 = [239, 187, 191] then 3 else 0
def splitL (b : List UInt8) : List Ln := splitFrom b (b.length + 1) (bomAt b)

theorem split_loop (b : List UInt8) (hb : b.length ≤ 1000000) (N : Nat) (k : List AV → Option Res) : ∀ (n a : Nat) (acc : List AV), b.length < a + n → acc.length ≤ a → a ≤ b.length →
    linesSplit_L1 D N k k n b a acc = k (acc ++ (splitFrom b n a).map Ln.av) := by
  intro n
  induction n with
  | zero => intro a acc h _ h2; omega
  | succ n ih =>
    intro a acc h hacc ha
    simp only [linesSplit_L1, linesSplit_L1s, splitFrom]
    by_cases hlt : a < b.length
    · have h1 : decide (((a : Nat) : Int) < ((b.length : Nat) : Int)) = true := by simp; omega
      rw [h1, if_pos hlt]
      simp only [cond_true, Int.toNat_natCast, List.take_length]
      rw [D_IndexByte]
      simp only [Option.bind_some, asI, decide_true, cond_true]
      have e10 : (10 : Int).toNat.toUInt8 = 10 := rfl
      rw [e10]
      have hneed : (decide ((0 : Int) ≤ (a : Int)) && decide ((a : Int) ≤ (b.length : Int))) = true := by simp; omega
      rw [hneed]
      simp only [need, cond_true, List.drop_zero, List.take_length]
      have hge := Lib.indexByte_ge (b.drop a) 10
      by_cases hneg : Lib.indexByte (b.drop a) 10 < 0
      · rw [decide_eq_true hneg, if_pos hneg]
        simp only [cond_true]
        have : decide (acc.length + [AV.agg [AV.int .i64 a, AV.int .i64 ((b.length : Nat) : Int), AV.int .i64 ((b.length : Nat) : Int)]].length ≤ 1099511627776) = true := by simp; omega
        rw [this]
        rfl
      · rw [decide_eq_false hneg, if_neg hneg]
        simp only [cond_false]
        obtain ⟨m, hm⟩ : ∃ m : Nat, Lib.indexByte (b.drop a) 10 = m := ⟨_, (Int.toNat_of_nonneg (by omega)).symm⟩
        have hat := (Lib.indexByte_some hm).1
        have hmlt := (List.getElem?_eq_some_iff.1 hat).1
        rw [List.length_drop] at hmlt
        rw [hm]
        simp only [Int.toNat_natCast]
        rw [wrap_i64 (x := (a : Int) + m) (by omega) (by omega)]
        rw [wrap_i64 (x := (a : Int) + m - 1) (by omega) (by omega), wrap_i64 (x := (a : Int) + m + 1) (by omega) (by omega)]
        have hdec : ∀ x y z : Int, decide (acc.length + [AV.agg [AV.int .i64 x, AV.int .i64 y, AV.int .i64 z]].length ≤ 1099511627776) = true := by intro x y z; simp; omega
        simp only [hdec, cond_true]
        have e2 : (a : Int) + m + 1 = ((a + m + 1 : Nat) : Int) := by omega
        have e1 : (a : Int) + m = ((a + m : Nat) : Int) := by omega
        rw [e2]
        by_cases hm0 : 0 < m
        · have d1 : decide (((m : Nat) : Int) > 0) = true := by simp; omega
          rw [d1]
          simp only [cond_true]
          have e3 : (a : Int) + m - 1 = ((a + m - 1 : Nat) : Int) := by omega
          rw [e3]
          have d2 : decide ((0 : Int) ≤ ((a + m - 1 : Nat) : Int)) = true := by simp
          rw [d2]
          simp only [cond_true, Int.toNat_natCast]
          obtain ⟨c, hc⟩ : ∃ c, b[a + m - 1]? = some c := ⟨b[a + m - 1]'(by omega), List.getElem?_eq_getElem (by omega)⟩
          rw [hc]
          simp only [Option.bind_some]
          by_cases h13 : c = 13
          · subst h13
            have d3 : (((13 : UInt8).toNat : Int) == 13) = true := rfl
            rw [d3]
            simp only [cond_true]
            rw [ih (a + m + 1) _ (by omega) (by rw [List.length_append]; simp only [List.length_cons, List.length_nil]; omega) (by omega)]
            simp [hm0, Ln.av]
          · have d3 : ((c.toNat : Int) == 13) = false := by
              simp only [beq_eq_false_iff_ne, ne_eq]
              intro hh
              exact h13 (UInt8.toNat_inj.1 (by simpa using (by omega : c.toNat = 13)))
            rw [d3]
            simp only [cond_false]
            rw [ih (a + m + 1) _ (by omega) (by rw [List.length_append]; simp only [List.length_cons, List.length_nil]; omega) (by omega)]
            simp [hm0, Ln.av, h13]
        · have d1 : decide (((m : Nat) : Int) > 0) = false := by simp; omega
          rw [d1]
          simp only [cond_false]
          rw [ih (a + m + 1) _ (by omega) (by rw [List.length_append]; simp only [List.length_cons, List.length_nil]; omega) (by omega)]
          simp [hm0, Ln.av]
    · have h1 : decide (((a : Nat) : Int) < ((b.length : Nat) : Int)) = false := by simp; omega
      rw [h1, if_neg hlt]
      simp
end Go.Proofs.Ytnapopfbmdghkaa.Vf
