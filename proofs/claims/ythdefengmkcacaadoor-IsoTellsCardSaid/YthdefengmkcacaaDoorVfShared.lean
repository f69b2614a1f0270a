
/- What is met more than once, as a plain function on lists. No condition but sizes. -/
import Derived.Test.YthdefengmkcacaaDoorVfIsoD
namespace Go.Proofs.YthdefengmkcacaaDoor.Vf
set_option linter.unusedVariables false
set_option linter.unusedSimpArgs false

/-- All Kids, one behind the other. -/
def allK (c : List Th) : List Nat := c.flatMap fun t => t.kids.map Int.toNat
/-- How often a thing is met, behind so many things. -/
def cntAt (c : List Th) (i k : Nat) : Nat := (if 0 < i ∧ k = 0 then 1 else 0) + (allK (c.take i)).count k
def sharedL (c : List Th) : List Nat := (List.range c.length).filter fun k => decide (1 < cntAt c c.length k)
def cntA (n : Nat) (f : Nat → Nat) : List AV := (List.range n).map fun k => AV.int .i64 ((f k : Nat) : Int)
theorem cntA_len (n : Nat) (f : Nat → Nat) : (cntA n f).length = n := by simp [cntA]
theorem cntA_get {n : Nat} {f : Nat → Nat} {k : Nat} (h : k < n) : (cntA n f)[k]? = some (.int .i64 ((f k : Nat) : Int)) := by simp [cntA, h]
theorem cntA_set {n : Nat} {f : Nat → Nat} {k v : Nat} : (cntA n f).set k (.int .i64 ((v : Nat) : Int)) = cntA n fun j => if j = k then v else f j := by
  apply List.ext_getElem?
  intro j
  unfold cntA
  rw [List.getElem?_set]
  simp only [List.length_map, List.length_range, List.getElem?_map]
  by_cases hj : k = j
  · subst hj
    by_cases hk : k < n
    · simp [hk]
    · simp [hk]
  · rw [if_neg hj]
    by_cases hl : j < n
    · simp [List.getElem?_range hl, show ¬ j = k from fun e => hj e.symm]
    · rw [List.getElem?_eq_none (by simp; omega)]; rfl
theorem count_le {l : List Nat} (k : Nat) : l.count k ≤ l.length := List.count_le_length

theorem shared_inner (lc : List AV) (n : Nat) (hn : n ≤ 1000000000) (N : Nat) (k0 : List AV → Nat → Int → Int → List AV → Option Res) (i5 i6 : Int) (ks : List Int) (hk : ks.length ≤ 1000000000) (hin : ∀ k ∈ ks, 0 ≤ k ∧ k < (n : Int)) : ∀ (f j : Nat) (F : Nat → Nat), ks.length < j + f → j ≤ ks.length → (∀ k, F k ≤ 2000000000000 + j) →
    isoShared_L2 D N k0 f lc n i5 i6 (iA ks) ks.length j (cntA n F) = k0 lc n i5 i6 (cntA n fun k => F k + ((ks.drop j).map Int.toNat).count k) := by
  intro f
  induction f with
  | zero => intro j F h _ _; omega
  | succ f ih =>
    intro j F h hj hF
    simp only [isoShared_L2, isoShared_L2s]
    by_cases hlt : j < ks.length
    · have hmem : ks.getD j 0 ∈ ks := by simp [List.getD, hlt]
      obtain ⟨q1, q2⟩ := hin _ hmem
      have hkn : (ks.getD j 0).toNat < n := by omega
      have hF1 := hF (ks.getD j 0).toNat
      rw [cond_d (by omega), need_d (by omega)]
      simp only [Int.toNat_natCast]
      rw [get_iA hlt]
      simp only [asI_i, Nat.zero_add]
      rw [need_d2 q1 q2, cntA_get hkn]
      simp only [Option.bind_some, flat0I, asI_i]
      rw [need_d2 q1 q2, show ∀ (a b : Int) (y : Option Res), needSt (AV.int .i64 a) (AV.int .i64 b) 0 1 y = y from fun _ _ _ => rfl]
      rw [wrap_i64 (x := ((F (ks.getD j 0).toNat : Nat) : Int) + 1) (by omega) (by omega), show ((F (ks.getD j 0).toNat : Nat) : Int) + 1 = ((F (ks.getD j 0).toNat + 1 : Nat) : Int) by omega, cntA_set, wrap_i64 (by omega) (by omega), show (j : Int) + 1 = ((j + 1 : Nat) : Int) by omega]
      refine (ih (j + 1) _ (by omega) (by omega) fun k => ?_).trans ?_
      · have := hF k
        by_cases hk' : k = (ks.getD j 0).toNat
        · simp only [hk', if_true]; omega
        · simp only [hk', if_false]; omega
      · congr 2
        funext k
        rw [List.drop_eq_getElem_cons hlt, List.map_cons, List.count_cons]
        have e : ks[j] = ks.getD j 0 := by simp [List.getD, hlt]
        rw [e]
        by_cases hk' : k = (ks.getD j 0).toNat
        · simp only [hk', if_true, beq_self_eq_true]; omega
        · have hk2 : ((ks.getD j 0).toNat == k) = false := by simpa using fun e => hk' e.symm
          simp only [hk', if_false, hk2, Bool.false_eq_true]; omega
    · rw [cond_nd (by omega), List.drop_eq_nil_of_le (by omega)]
      simp
theorem allK_take {c : List Th} {i : Nat} (h : i < c.length) : allK (c.take (i + 1)) = allK (c.take i) ++ (c.getD i default).kids.map Int.toNat := by
  unfold allK
  rw [List.take_succ_eq_append_getElem h, List.flatMap_append]
  simp [List.getD, h]
theorem allK_len (c : List Th) : (allK c).length = costOf c [] := by
  rw [cost_all]
  unfold allK
  induction c with
  | nil => rfl
  | cons t r ih => simp [ih]
theorem allK_take_len (c : List Th) (i : Nat) : (allK (c.take i)).length ≤ costOf c [] := by
  rw [← allK_len c]
  conv => rhs; rw [← List.take_append_drop i c]
  unfold allK
  rw [List.flatMap_append, List.length_append]
  omega
theorem shared_loop (c : List Th) (hc : Fine c) (N : Nat) (hN : ∀ t ∈ c, t.kids.length < N) (k0 : Nat → List AV → Option Res) : ∀ (f i : Nat), c.length < i + f → i ≤ c.length →
    isoShared_L1 D N k0 f (gA c) c.length c.length i (cntA c.length (cntAt c i)) = k0 c.length (cntA c.length (cntAt c c.length)) := by
  have hs := hc.size
  intro f
  induction f with
  | zero => intro i h _; omega
  | succ f ih =>
    intro i h hi
    simp only [isoShared_L1, isoShared_L1s]
    by_cases hlt : i < c.length
    · have hmem := getD_mem hlt
      have hkl := (hc.small _ hmem).2.2
      have hkN := hN _ hmem
      have hkin := hc.kids _ hmem
      have htl := allK_take_len c i
      have go : ∀ (F : Nat → Nat), (∀ k, F k = (if k = 0 then 1 else 0) + (allK (c.take i)).count k) →
          isoShared_L2 D N (fun l16 n6 i18 i19 l17 => isoShared_L1 D N k0 f l16 n6 i18 (IntKind.i64.wrap (i19 + 1)) l17) N (gA c) c.length c.length i (iA (c.getD i default).kids) (((iA (c.getD i default).kids).length : Nat) : Int) 0 (cntA c.length F) = k0 c.length (cntA c.length (cntAt c c.length)) := by
        intro F hF
        rw [iA_len]
        refine (shared_inner (gA c) c.length (by omega) N _ c.length i (c.getD i default).kids (by omega) hkin N 0 F (by omega) (by omega) fun k => ?_).trans ?_
        · rw [hF]
          have := @count_le (allK (c.take i)) k
          split <;> omega
        · rw [wrap_i64 (by omega) (by omega), show (i : Int) + 1 = ((i + 1 : Nat) : Int) by omega, List.drop_zero]
          have e : (fun k => F k + (((c.getD i default).kids).map Int.toNat).count k) = cntAt c (i + 1) := by
            funext k
            unfold cntAt
            rw [allK_take hlt, List.count_append, hF]
            simp only [Nat.succ_pos, true_and]
            omega
          rw [e]
          exact ih (i + 1) (by omega) (by omega)
      rw [cond_d (by omega)]
      by_cases h0 : i = 0
      · subst h0
        rw [show ((0 : Nat) : Int) = 0 from rfl] at *
        rw [cond_eq rfl, need_d2 (by omega) (by omega)]
        simp only [Int.toNat_zero, Nat.zero_add]
        rw [cntA_get hlt]
        simp only [Option.bind_some, flat0I, asI_i]
        rw [need_d2 (by omega) (by omega), show ∀ (a b : Int) (y : Option Res), needSt (AV.int .i64 a) (AV.int .i64 b) 0 1 y = y from fun _ _ _ => rfl, need_d (by omega), get_gA hlt, asTh]
        have e0 : cntAt c 0 0 = 0 := by simp [cntAt, allK]
        rw [e0, wrap_i64 (by omega) (by omega), show ((0 : Nat) : Int) + 1 = ((1 : Nat) : Int) from rfl, cntA_set]
        refine go _ fun k => ?_
        by_cases hk : k = 0
        · simp [hk, allK]
        · simp [hk, allK, cntAt]
      · rw [cond_ne (by omega), need_d (by omega)]
        simp only [Int.toNat_natCast]
        rw [get_gA hlt, asTh]
        refine go _ fun k => ?_
        unfold cntAt
        simp only [show 0 < i by omega, true_and]
    · rw [cond_nd (by omega)]
      obtain rfl : i = c.length := by omega
      rfl
theorem shared_out (n : Nat) (hn : n ≤ 1000000000) (F : Nat → Nat) (N : Nat) (k0 : List AV → Option Res) : ∀ (f i : Nat), n < i + f → i ≤ n →
    isoShared_L3 D N k0 f n n i (nA ((List.range i).filter fun k => decide (1 < F k))) (cntA n F) = k0 (nA ((List.range n).filter fun k => decide (1 < F k))) := by
  intro f
  induction f with
  | zero => intro i h _; omega
  | succ f ih =>
    intro i h hi
    simp only [isoShared_L3, isoShared_L3s]
    by_cases hlt : i < n
    · rw [cond_d (by omega), need_d2 (by omega) (by omega)]
      simp only [Int.toNat_natCast, Nat.zero_add]
      rw [cntA_get hlt]
      simp only [Option.bind_some, flat0I, asI_i]
      have hfl : ((List.range i).filter fun k => decide (1 < F k)).length ≤ i := by
        have := List.length_filter_le (fun k => decide (1 < F k)) (List.range i)
        simpa using this
      rw [wrap_i64 (by omega) (by omega), show (i : Int) + 1 = ((i + 1 : Nat) : Int) by omega]
      have e : (List.range (i + 1)).filter (fun k => decide (1 < F k)) = (List.range i).filter (fun k => decide (1 < F k)) ++ if 1 < F i then [i] else [] := by
        rw [List.range_succ, List.filter_append]
        congr 1
        by_cases h1 : 1 < F i <;> simp [h1]
      by_cases h1 : 1 < F i
      · rw [cond_d (by omega), List.drop_zero, List.take_length, need_d (by rw [nA_len]; simp; omega)]
        have := ih (i + 1) (by omega) (by omega)
        rw [e, if_pos h1, nA_app] at this
        exact this
      · rw [cond_nd (by omega)]
        have := ih (i + 1) (by omega) (by omega)
        rw [e, if_neg h1, List.append_nil] at this
        exact this
    · rw [cond_nd (by omega)]
      obtain rfl : i = n := by omega
      rfl
theorem kids_cost {c : List Th} {t : Th} (h : t ∈ c) : t.kids.length ≤ costOf c [] := by
  obtain ⟨i, hi, rfl⟩ := List.getElem_of_mem h
  have := kd_lt (g := c) hi
  simpa [kd, List.getD, hi] using this
theorem D_Shared (g : List Th) (hg : Fine g) : D id_isoShared [.row 4 (gA g)] = some ⟨.row 1 (nA (sharedL (canonL g))), true, []⟩ := by
  have hc := canon_fine hg
  have hs := hc.size
  refine den_fn (N := (canonL g).length + costOf (canonL g) [] + 1) (F := isoShared) rfl rfl ?_
  refine (isoShared_eq D _ (gA g)).trans ?_
  unfold isoSharedr
  rw [D_Canon g hg]
  simp only [Option.bind_some, asR_r]
  rw [gA_len, need_d2 (by omega) (by omega)]
  simp only [Int.toNat_natCast]
  have e : List.replicate (canonL g).length (AV.int .i64 0) = cntA (canonL g).length (cntAt (canonL g) 0) := by
    apply List.ext_getElem?
    intro j
    by_cases hj : j < (canonL g).length
    · rw [cntA_get hj]; simp [hj, cntAt, allK]
    · rw [List.getElem?_eq_none (by simp; omega), List.getElem?_eq_none (by rw [cntA_len]; omega)]
  rw [e]
  refine (shared_loop (canonL g) hc _ (fun t ht => by have := kids_cost ht; omega) _ _ 0 (by omega) (by omega)).trans ?_
  refine (shared_out (canonL g).length (by omega) _ _ _ _ 0 (by omega) (by omega)).trans ?_
  rw [List.drop_zero, List.take_length]
  rfl
end Go.Proofs.YthdefengmkcacaaDoor.Vf
