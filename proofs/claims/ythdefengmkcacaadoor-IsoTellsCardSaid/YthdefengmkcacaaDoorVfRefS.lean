
/- What is met more than once, by the document's own answer. No condition but sizes. -/
import Derived.Test.YthdefengmkcacaaDoorVfShared
import Derived.Test.YthdefengmkcacaaDoorVfLawsIU
namespace Go.Proofs.YthdefengmkcacaaDoor.Vf
set_option linter.unusedVariables false
set_option linter.unusedSimpArgs false

theorem refShared2 : @ref18Shared_L2 = @isoShared_L2 := by kernel_rfl
theorem refShared3 : @ref18Shared_L3 = @isoShared_L3 := by kernel_rfl
/-- How often a thing is met, behind so many things, the first one once from the beginning. -/
def cntR (c : List Th) (i k : Nat) : Nat := (if k = 0 then 1 else 0) + (allK (c.take i)).count k
theorem refShared_loop (c : List Th) (hc : Fine c) (N : Nat) (hN : ∀ t ∈ c, t.kids.length < N) (k0 : Nat → List AV → Option Res) : ∀ (f i : Nat), c.length < i + f → i ≤ c.length →
    ref18Shared_L1 D N k0 f (gA c) c.length c.length i (cntA c.length (cntR c i)) = k0 c.length (cntA c.length (cntR c c.length)) := by
  have hs := hc.size
  intro f
  induction f with
  | zero => intro i h _; omega
  | succ f ih =>
    intro i h hi
    simp only [ref18Shared_L1, ref18Shared_L1s]
    by_cases hlt : i < c.length
    · have hmem := getD_mem hlt
      have hkl := (hc.small _ hmem).2.2
      have hkN := hN _ hmem
      have hkin := hc.kids _ hmem
      have htl := allK_take_len c i
      rw [cond_d (by omega), need_d (by omega)]
      simp only [Int.toNat_natCast]
      rw [get_gA hlt, asTh, refShared2, iA_len]
      refine (shared_inner (gA c) c.length (by omega) N _ c.length i (c.getD i default).kids (by omega) hkin N 0 _ (by omega) (by omega) fun k => ?_).trans ?_
      · have := @count_le (allK (c.take i)) k
        unfold cntR
        split <;> omega
      · rw [wrap_i64 (by omega) (by omega), show (i : Int) + 1 = ((i + 1 : Nat) : Int) by omega, List.drop_zero]
        have e : (fun k => cntR c i k + (((c.getD i default).kids).map Int.toNat).count k) = cntR c (i + 1) := by
          funext k
          unfold cntR
          rw [allK_take hlt, List.count_append]
          omega
        rw [e]
        exact ih (i + 1) (by omega) (by omega)
    · rw [cond_nd (by omega)]
      obtain rfl : i = c.length := by omega
      rfl
theorem D_refShared (g : List Th) (hg : Fine g) (h0 : 0 < g.length) : D id_ref18Shared [.row 4 (gA g)] = some ⟨.row 1 (nA (sharedL (canonL g))), true, []⟩ := by
  have hc := canon_fine hg
  have hs := hc.size
  have hp := canonL_ne h0
  refine den_fn (N := (canonL g).length + costOf (canonL g) [] + 1) (F := ref18Shared) rfl rfl ?_
  refine (ref18Shared_eq D _ (gA g)).trans ?_
  unfold ref18Sharedr
  rw [D_refCanon g hg h0]
  simp only [Option.bind_some, asR_r]
  rw [gA_len, need_d2 (by omega) (by omega), need_d2 (by omega) (by omega)]
  simp only [Int.toNat_natCast]
  have e : (List.replicate (canonL g).length (AV.int .i64 0)).set 0 (AV.int .i64 1) = cntA (canonL g).length (cntR (canonL g) 0) := by
    have e0 : List.replicate (canonL g).length (AV.int .i64 0) = cntA (canonL g).length fun _ => 0 := by
      apply List.ext_getElem?
      intro j
      by_cases hj : j < (canonL g).length
      · rw [cntA_get hj]; simp [hj]
      · rw [List.getElem?_eq_none (by simp; omega), List.getElem?_eq_none (by rw [cntA_len]; omega)]
    rw [e0, show AV.int .i64 1 = .int .i64 ((1 : Nat) : Int) from rfl, cntA_set]
    congr 1
  have e1 : (List.replicate (canonL g).length (AV.int .i64 0))[0 + Int.toNat 0]? = some (.int .i64 0) := by simp [hp]
  rw [e1, Option.bind_some, show ∀ (a b : Int) (y : Option Res), needSt (AV.int .i64 a) (AV.int .i64 b) 0 1 y = y from fun _ _ _ => rfl]
  rw [show 0 + Int.toNat 0 = 0 from rfl, e, refShared3]
  refine (refShared_loop (canonL g) hc _ (fun t ht => by have := kids_cost ht; omega) _ _ 0 (by omega) (by omega)).trans ?_
  refine (shared_out (canonL g).length (by omega) _ _ _ _ 0 (by omega) (by omega)).trans ?_
  rw [List.drop_zero, List.take_length]
  have es : (List.range (canonL g).length).filter (fun k => decide (1 < cntR (canonL g) (canonL g).length k)) = sharedL (canonL g) := by
    unfold sharedL
    refine List.filter_congr fun k _ => ?_
    unfold cntR cntAt
    simp only [hp, true_and]
  rw [es]
end Go.Proofs.YthdefengmkcacaaDoor.Vf
