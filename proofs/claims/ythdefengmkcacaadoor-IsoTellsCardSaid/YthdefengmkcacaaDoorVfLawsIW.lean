
/- Which lists are graphs, what is reached, what is shared, how deep: the document's own answers are the program's. No condition. -/
import Derived.Test.YthdefengmkcacaaDoorVfRefW
import Derived.Test.YthdefengmkcacaaDoorVfRefS
import Derived.Test.YthdefengmkcacaaDoorVfRefD
import Derived.Test.YthdefengmkcacaaDoorVfThings
import Derived.Test.YthdefengmkcacaaDoorVfGood
namespace Go.Proofs.YthdefengmkcacaaDoor.Vf
set_option linter.unusedVariables false
set_option linter.unusedSimpArgs false

def negA (n i : Nat) : List AV := (List.range n).map fun x => AV.int .i64 (if x < i then -1 else 0)
theorem negA_set {n i : Nat} (h : i < n) : (negA n i)[i]? = some (.int .i64 0) ∧ (negA n i).set i (.int .i64 (-1)) = negA n (i + 1) := by
  refine ⟨by simp [negA, h], ?_⟩
  apply List.ext_getElem?
  intro j
  unfold negA
  rw [List.getElem?_set]
  by_cases hj : i = j
  · subst hj; simp [h]
  · rw [if_neg hj]
    by_cases hl : j < n
    · simp only [List.getElem?_map, List.getElem?_range hl, Option.map_some]
      by_cases h2 : j < i
      · rw [if_pos h2, if_pos (by omega)]
      · rw [if_neg h2, if_neg (by omega)]
    · rw [List.getElem?_eq_none (by simp; omega), List.getElem?_eq_none (by simp; omega)]
theorem refDepth_known (l3 : List AV) (n : Nat) (hn : n ≤ 1000000000) (N : Nat) (k0 : List AV → Nat → List AV → Option Res) : ∀ (f i : Nat), n < i + f → i ≤ n →
    ref18Depth_L1 D N k0 f l3 n n i (negA n i) = k0 l3 n (negA n n) := by
  intro f
  induction f with
  | zero => intro i h _; omega
  | succ f ih =>
    intro i h hi
    simp only [ref18Depth_L1, ref18Depth_L1s]
    by_cases hlt : i < n
    · obtain ⟨h1, h2⟩ := negA_set hlt
      rw [cond_d (by omega), need_d2 (by omega) (by omega)]
      simp only [Int.toNat_natCast, Nat.zero_add]
      rw [h1, Option.bind_some, show ∀ (a b : Int) (y : Option Res), needSt (AV.int .i64 a) (AV.int .i64 b) 0 1 y = y from fun _ _ _ => rfl, h2, wrap_i64 (by omega) (by omega), show (i : Int) + 1 = ((i + 1 : Nat) : Int) by omega]
      exact ih (i + 1) (by omega) (by omega)
    · rw [cond_nd (by omega)]
      obtain rfl : i = n := by omega
      rfl
theorem D_refDepth (g : List Th) (hg : Fine g) (h0 : 0 < g.length) : D id_ref18Depth [.row 4 (gA g)] = some ⟨.tup [.int .i64 ((depthL (canonL g)).1 : Nat), .bool (depthL (canonL g)).2], false, []⟩ := by
  have hc := canon_fine hg
  have hs := hc.size
  have hne := canonL_ne h0
  have hok := zerosD_ok (canonL g)
  have hz : (zerosD (canonL g)).1.count 0 < (canonL g).length + 1 := by simp [zerosD]
  obtain ⟨o1, o2⟩ := depI_ok hc ((canonL g).length + 1) 0 (zerosD (canonL g)) hok hne hz
  refine den_fn (N := (canonL g).length + 1) (F := ref18Depth) rfl rfl ?_
  refine (ref18Depth_eq D _ (gA g)).trans ?_
  unfold ref18Depthr
  rw [D_refCanon g hg h0]
  simp only [Option.bind_some, asR_r]
  rw [gA_len, need_d2 (by omega) (by omega)]
  simp only [Int.toNat_natCast]
  have e : List.replicate (canonL g).length (AV.int .i64 0) = negA (canonL g).length 0 := by
    unfold negA
    simp only [Nat.not_lt_zero, if_false, List.map_const', List.length_range]
  rw [e]
  refine (refDepth_known (gA (canonL g)) (canonL g).length (by omega) _ _ _ 0 (by omega) (by omega)).trans ?_
  have e1 : negA (canonL g).length (canonL g).length = knA (zerosD (canonL g)) := by
    unfold negA knA
    rw [hok.l1]
    refine List.map_congr_left fun x hx => ?_
    have hx' := List.mem_range.1 hx
    rw [if_pos hx']
    unfold knV
    rw [if_neg (by simp [zerosD, hx'])]
  have e2 : List.replicate (canonL g).length (AV.bool false) = onA (zerosD (canonL g)) := by
    unfold onA zerosD
    rw [List.map_replicate]; rfl
  rw [gA_len, need_d2 (by omega) (by omega), e1, e2, onA_len, knA_len, hok.l1, beqn, need_true, need_true]
  have hd := D_refDepthLow (canonL g) hc ((canonL g).length + 1) 0 (zerosD (canonL g)) hok (fun x _ => by
    simp only [zerosD, List.getD_eq_getElem?_getD, List.getElem?_replicate]
    split <;> rfl) hne hz
  rw [show ((0 : Nat) : Int) = 0 from rfl] at hd
  rw [hd]
  unfold depthL
  generalize depI (canonL g) ((canonL g).length + 1) 0 (zerosD (canonL g)) = r at o1 o2 ⊢
  obtain ⟨b, s'⟩ := r
  simp only at o1 o2 ⊢
  simp only [refR, Option.bind_some, asC_c, asRf, asR_r, asN_n, asIBT, asT_t, asI_i, asB_b]
  rw [onA_len, knA_len, o1.l1, beqn, need_true, need_true]
  cases b <;> rfl

theorem raw_small (l : List LT) : ∀ t ∈ rawG l true, t.small := by
  intro t ht
  obtain ⟨x, hx, rfl⟩ := List.mem_map.1 ht
  refine ⟨?_, ?_, ?_⟩
  · have e : (tag1 (kindOf true x) x).length ≤ 100 := by
      unfold tag1
      split
      · exact pick_len (by decide)
      · split
        · exact pick_len (by decide)
        · exact pick_len (by decide)
    simp only [thOf, tag2]
    split
    · rw [List.length_take]; omega
    · omega
  · have := val1_len (kindOf true x) x
    simp only [thOf, val2]
    split
    · simp
    · omega
  · have := kidsOf_len l.length true x (kindOf true x)
    simp only [thOf]; omega
theorem graph_small (l : List LT) (raw : Bool) : (graphL l raw).length ≤ 1000 ∧ ∀ t ∈ graphL l raw, t.small := by
  cases raw
  · have := (graph_good l).2.2
    exact ⟨by omega, (graph_fine l).small⟩
  · have e : graphL l true = rawG l true := by unfold graphL; rw [if_pos rfl]
    have := rawG_len l true
    rw [e]
    exact ⟨by omega, raw_small l⟩
theorem valid_fine (l : List LT) (raw : Bool) (h : validP (graphL l raw) = true) : Fine (graphL l raw) ∧ 0 < (graphL l raw).length := by
  cases raw
  · exact ⟨graph_fine l, graph_pos l⟩
  · have e : graphL l true = rawG l true := by unfold graphL; rw [if_pos rfl]
    rw [e] at h ⊢
    have hl := rawG_len l true
    unfold validP at h
    simp only [Bool.and_eq_true, Bool.not_eq_true', List.isEmpty_eq_false_iff] at h
    refine ⟨⟨fun t ht => ?_, ?_, raw_small l⟩, List.length_pos_iff.2 h.1⟩
    · have hr := List.all_eq_true.1 h.2 t ht
      unfold rightP at hr
      simp only [Bool.and_eq_true] at hr
      exact kidsIn_inG hr.1.2
    · have := sum_le (f := fun t => t.kids.length) (rawG_kids l true)
      rw [cost_all]
      omega
theorem nA_iA (l : List Nat) : nA l = iA (l.map fun n => ((n : Nat) : Int)) := by
  unfold nA iA; rw [List.map_map]; rfl
theorem D_IsoTells (l : List LT) (raw : Bool) : D id_law18IsoTells [.row 5 (ltA l), .bool raw] = some ⟨.bool true, false, []⟩ := by
  refine den_fn (N := 1) (F := law18IsoTells) rfl rfl ?_
  refine (law18IsoTells_eq D _ (ltA l) raw).trans ?_
  unfold law18IsoTellsr
  obtain ⟨hlen, hs⟩ := graph_small l raw
  rw [D_Graph]
  simp only [Option.bind_some, asR_r]
  have hvf := valid_fine l raw
  generalize graphL l raw = g at hlen hs hvf ⊢
  rw [D_isoValid g (by omega) hs]
  simp only [Option.bind_some, asB_b]
  rw [D_refGraph g (by omega) hs]
  simp only [Option.bind_some, asB_b, beq_self_eq_true, Bool.not_true, cond_false]
  unfold law18IsoTells_J1
  rw [posN_pos (by omega)]
  cases hv : validP g
  · simp only [Bool.not_false, cond_true]
    rw [D_wakes18]
    rfl
  · obtain ⟨hg, h0⟩ := hvf hv
    have hc := canon_fine hg
    have hcs := hc.size
    simp only [Bool.not_true, cond_false]
    unfold law18IsoTells_J2
    rw [posN_pos (by omega), D_Depth g hg h0]
    simp only [Option.bind_some, asIBT, asT_t, asC_c, asI_i, asB_b, asN_n]
    rw [D_refDepth g hg h0]
    simp only [Option.bind_some, asT_t, asC_c, asI_i, asB_b, asN_n]
    rw [D_Canon g hg]
    simp only [Option.bind_some, asR_r]
    rw [D_refCanon g hg h0]
    simp only [Option.bind_some, asR_r]
    rw [D_Things _ _ (by omega) hc.small hc.small]
    simp only [Option.bind_some, asB_b, decide_true, cond_true]
    rw [D_Shared g hg]
    simp only [Option.bind_some, asR_r]
    rw [D_refShared g hg h0]
    simp only [Option.bind_some, asR_r]
    have hsl : (sharedL (canonL g)).length ≤ 1000000000 := by
      have := List.length_filter_le (fun k => decide (1 < cntAt (canonL g) (canonL g).length k)) (List.range (canonL g).length)
      rw [List.length_range] at this
      unfold sharedL; omega
    rw [nA_iA, D_SameInt _ _ (by rw [List.length_map]; exact hsl) (by rw [List.length_map]; exact hsl)]
    simp only [Option.bind_some, asB_b, decide_true, cond_true]
    rw [cond_eq rfl, beq_self_eq_true, cond_true, D_Same g g hg hg]
    simp only [Option.bind_some, asB_b, decide_true, cond_true]
    rw [D_wakes18]
    rfl
end Go.Proofs.YthdefengmkcacaaDoor.Vf
