
/- Paths: a path's steps, or which error it has. No condition but sizes. -/
import Derived.Test.YtlionohbndehgaaDoorVfPathC
namespace Go.Proofs.YtlionohbndehgaaDoor.Vf
set_option linter.unusedVariables false
set_option linter.unusedSimpArgs false

theorem D_long (x : Stp) : D id_pathParse1 [stA x] = some ⟨.bool (decide (128 < x.2.1.length)), false, []⟩ := by
  obtain ⟨k, nm, n⟩ := x
  refine den_fn (N := 0) (F := pathParse1) rfl rfl ?_
  show runF gl D 0 pathParse1 [.agg [.int .i64 (k : Nat), .str nm, .int .i64 n]] = _
  rw [pathParse1_eq]
  unfold pathParse1r
  have : decide ((((nm.length : Nat) : Int) : Int) > 128) = decide (128 < nm.length) := by rw [Bool.eq_iff_iff, decide_eq_true_eq, decide_eq_true_eq]; omega
  rw [this]
theorem idx_loop (l : List Stp) (hl : l.length ≤ 1000000) (N : Nat) (k0 : Int → Option Res) (k1 : Option Res) : ∀ (f i : Nat), l.length < f + i → i ≤ l.length →
    (((l.drop i).any (fun x => decide (128 < x.2.1.length)) = true) ∧ ∃ j : Nat, slicesIndexFuncScholiumPathStepScholiumPathStep_L1 D N k0 k1 f (l.map stA) id_pathParse1 [] (l.length : Nat) i = k0 j) ∨
    (((l.drop i).any (fun x => decide (128 < x.2.1.length)) = false) ∧ slicesIndexFuncScholiumPathStepScholiumPathStep_L1 D N k0 k1 f (l.map stA) id_pathParse1 [] (l.length : Nat) i = k1) := by
  intro f
  induction f with
  | zero => intro i h; omega
  | succ f ih =>
    intro i h hi
    simp only [slicesIndexFuncScholiumPathStepScholiumPathStep_L1, slicesIndexFuncScholiumPathStepScholiumPathStep_L1s]
    by_cases hlt : i < l.length
    · have e : (l.map stA)[i]? = some (stA l[i]) := by rw [List.getElem?_map, List.getElem?_eq_getElem hlt]; rfl
      have hd : l.drop i = l[i] :: l.drop (i + 1) := List.drop_eq_getElem_cons hlt
      have hD := D_long l[i]
      rw [cond_d (by omega), need_d (by omega)]
      simp only [Int.toNat_natCast]
      rw [e, hd]
      generalize l[i] = x at hD
      obtain ⟨k, nm, n⟩ := x
      simp only [stA, Option.bind_some, asISIA, asA_a, asC_c, asI_i, asS_s, asN_n, List.append_nil] at hD ⊢
      rw [hD]
      simp only [Option.bind_some, asB_b, List.any_cons]
      by_cases hb : 128 < nm.length
      · rw [decide_eq_true hb]
        exact .inl ⟨by simp, i, rfl⟩
      · rw [decide_eq_false hb, wrap_i64 (by omega) (by omega), show (i : Int) + 1 = ((i + 1 : Nat) : Int) by omega]
        simp only [Bool.false_or, cond_false]
        exact ih (i + 1) (by omega) (by omega)
    · rw [cond_nd (by omega), List.drop_eq_nil_of_le (by omega)]
      exact .inr ⟨rfl, rfl⟩
theorem D_ContainsFunc (l : List Stp) (hl : l.length ≤ 1000000) : D id_slicesContainsFuncScholiumPathStepScholiumPathStep [.row 3 (l.map stA), .fn id_pathParse1 []] = some ⟨.bool (l.any fun x => decide (128 < x.2.1.length)), false, []⟩ := by
  refine den_fn (N := 0) (F := slicesContainsFuncScholiumPathStepScholiumPathStep) rfl rfl ?_
  rw [slicesContainsFuncScholiumPathStepScholiumPathStep_eq]
  show slicesContainsFuncScholiumPathStepScholiumPathStepr D 0 _ _ _ = _
  unfold slicesContainsFuncScholiumPathStepScholiumPathStepr
  have key : ∃ z : Int, D id_slicesIndexFuncScholiumPathStepScholiumPathStep [.row 3 (l.map stA), .fn id_pathParse1 []] = some ⟨.int .i64 z, false, []⟩ ∧ decide (z ≥ 0) = l.any fun x => decide (128 < x.2.1.length) := by
    have run : ∀ z : Int, slicesIndexFuncScholiumPathStepScholiumPathStepr D (l.length + 1) (l.map stA) id_pathParse1 [] = some ⟨.int .i64 z, false, []⟩ → D id_slicesIndexFuncScholiumPathStepScholiumPathStep [.row 3 (l.map stA), .fn id_pathParse1 []] = some ⟨.int .i64 z, false, []⟩ := by
      intro z h
      refine den_fn (N := l.length + 1) (F := slicesIndexFuncScholiumPathStepScholiumPathStep) rfl rfl ?_
      rw [slicesIndexFuncScholiumPathStepScholiumPathStep_eq]; exact h
    unfold slicesIndexFuncScholiumPathStepScholiumPathStepr at run
    rw [List.length_map] at run
    rcases idx_loop l hl (l.length + 1) (fun i7 => some ⟨.int .i64 i7, false, []⟩) (some ⟨.int .i64 (-1), false, []⟩) (l.length + 1) 0 (by omega) (by omega) with ⟨h1, j, h2⟩ | ⟨h1, h2⟩
    · rw [List.drop_zero] at h1
      exact ⟨j, run _ h2, by rw [h1, decide_eq_true (by omega)]⟩
    · rw [List.drop_zero] at h1
      exact ⟨-1, run _ h2, by rw [h1]; rfl⟩
  obtain ⟨z, h1, h2⟩ := key
  rw [h1]
  simp only [Option.bind_some, asI_i, h2]
end Go.Proofs.YtlionohbndehgaaDoor.Vf
