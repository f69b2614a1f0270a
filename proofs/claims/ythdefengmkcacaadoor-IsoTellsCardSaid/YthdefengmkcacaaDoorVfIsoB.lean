
/- Graphs: the walk that meets first what stands first, the canonical form, sameness. No condition but sizes. -/
import Derived.Test.YthdefengmkcacaaDoorVfIso
namespace Go.Proofs.YthdefengmkcacaaDoor.Vf
set_option linter.unusedVariables false
set_option linter.unusedSimpArgs false

theorem flat0I {k : IntKind} {n : Int} : (AV.int k n).flat[0]? = some (.int k n) := rfl
theorem flat0B {b : Bool} : (AV.bool b).flat[0]? = some (.bool b) := rfl
def nA (l : List Nat) : List AV := l.map fun n : Nat => AV.int .i64 ((n : Nat) : Int)
theorem nA_len (l : List Nat) : (nA l).length = l.length := List.length_map ..
theorem nA_app (a b : List Nat) : nA (a ++ b) = nA a ++ nA b := List.map_append ..
def kd (g : List Th) (i : Nat) : List Nat := (g.getD i default).kids.map Int.toNat
theorem kd_iA {g : List Th} {i : Nat} (h : inG g (g.getD i default).kids) : iA (g.getD i default).kids = nA (kd g i) := by
  unfold iA nA kd
  rw [List.map_map]
  apply List.map_congr_left
  intro k hk
  have := (h k hk).1
  show AV.int .i64 k = AV.int .i64 ((k.toNat : Nat) : Int)
  rw [Int.toNat_of_nonneg this]

theorem intsOf_iA : ∀ l : List Int, intsOf (iA l) = some l
  | [] => rfl
  | a :: r => by
    show ((intsOf (iA r)).bind fun l => some (a :: l)) = _
    rw [intsOf_iA r]; rfl
theorem D_Reverse (l : List Int) (h : l.length ≤ 1000000000) : D id_slicesReverseIntInt [.ref (.row 1 (iA l))] = some ⟨.tup [], false, [.ref (.row 1 (iA l.reverse))]⟩ := den_ext (by
  have e : XR id_slicesReverseIntInt [.ref (.row 1 (iA l))] = (intsOf (iA l)).bind fun l => bif decide (l.length ≤ 1000000000000) then some (⟨.tup [], false, [.ref (.row 1 (l.reverse.map (AV.int .i64)))]⟩ : Res) else none := rfl
  rw [e, intsOf_iA, Option.bind_some, cond_d (by omega)]; rfl)
theorem D_Clone (l : List AV) (h : l.length ≤ 1000000000) : D id_slicesCloneIntInt [.row 1 l] = some ⟨.row 1 l, true, []⟩ := by
  refine den_fn (N := 0) (F := slicesCloneIntInt) rfl rfl ?_
  refine (slicesCloneIntInt_eq D _ l).trans ?_
  unfold slicesCloneIntIntr
  have e : need (decide (((([] : List AV).drop 0).take 0).length + l.length ≤ 1099511627776)) (some (⟨AV.row 1 (((((([] : List AV).drop 0).take 0) ++ l : List AV).drop 0).take ((((([] : List AV).drop 0).take 0) ++ l).length)), true, []⟩ : Res)) = some ⟨.row 1 l, true, []⟩ := by
    rw [need_d (by simp; omega)]; simp
  cases hb : Nat.beq l.length 0
  · simp only [cond_false]; exact e
  · simp only [cond_true]
    refine anyN_of (by omega) fun j _ => ?_
    cases hj : Nat.beq j 0
    · simp only [cond_false]; exact e
    · have : l = [] := List.length_eq_zero_iff.1 (Nat.eq_of_beq_eq_true hb)
      subst this; rfl

/-- What the walk meets: `out` is met, `st` stands on the stack, its top first. -/
def ordGo (g : List Th) : Nat → List Nat → List Nat → List Nat
  | 0, out, _ => out
  | _ + 1, out, [] => out
  | n + 1, out, i :: st => if i ∈ out then ordGo g n out st else ordGo g n (out ++ [i]) (kd g i ++ st)
def costOf (g : List Th) (out : List Nat) : Nat := ((List.range g.length).map fun i => if i ∈ out then 0 else (kd g i).length).sum
theorem sum_drop {f : Nat → Nat} {i : Nat} : ∀ {L : List Nat}, L.Nodup → i ∈ L → (L.map fun j => if j = i then 0 else f j).sum + f i = (L.map f).sum
  | [], _, h => by cases h
  | a :: r, hn, h => by
    simp only [List.map_cons, List.sum_cons]
    rw [List.nodup_cons] at hn
    by_cases ha : a = i
    · subst ha
      rw [if_pos rfl]
      have : (r.map fun j => if j = a then 0 else f j) = r.map f := List.map_congr_left fun j hj => by rw [if_neg]; rintro rfl; exact hn.1 hj
      rw [this]; omega
    · rw [if_neg ha]
      have := sum_drop (f := f) hn.2 ((List.mem_cons.1 h).resolve_left (fun e => ha e.symm))
      omega
theorem cost_met {g : List Th} {out : List Nat} {i : Nat} (hi : i < g.length) (ho : i ∉ out) : costOf g (out ++ [i]) + (kd g i).length = costOf g out := by
  have h := sum_drop (f := fun j => if j ∈ out then 0 else (kd g j).length) (i := i) List.nodup_range (List.mem_range.2 hi)
  rw [if_neg ho] at h
  have e : costOf g (out ++ [i]) = ((List.range g.length).map fun j => if j = i then 0 else if j ∈ out then 0 else (kd g j).length).sum := by
    unfold costOf
    congr 1
    apply List.map_congr_left
    intro j _
    by_cases h1 : j = i
    · rw [if_pos h1, if_pos (by simp [h1])]
    · rw [if_neg h1]
      by_cases h2 : j ∈ out
      · rw [if_pos h2, if_pos (by simp [h2])]
      · rw [if_neg h2, if_neg (by simp [h1, h2])]
  rw [e]; exact h
def metL (g : List Th) (out : List Nat) : List AV := (List.range g.length).map fun i => AV.bool (decide (i ∈ out))
theorem metL_set {g : List Th} {out : List Nat} {i : Nat} (hi : i < g.length) : (metL g out).set i (.bool true) = metL g (out ++ [i]) := by
  apply List.ext_getElem?
  intro j
  unfold metL
  rw [List.getElem?_set]
  simp only [List.length_map, List.length_range, List.getElem?_map, List.getElem?_range]
  by_cases hj : i = j
  · subst hj; simp [hi]
  · rw [if_neg hj]
    by_cases hl : j < g.length
    · simp [List.getElem?_range hl, show ¬ j = i from fun e => hj e.symm]
    · rw [List.getElem?_eq_none (by simp; omega)]; rfl
/-- All kids are in the list; sizes. -/
structure Fine (g : List Th) : Prop where
  kids : ∀ t ∈ g, inG g t.kids
  size : g.length + costOf g [] ≤ 1000000000
  small : ∀ t ∈ g, t.small
theorem getD_mem {g : List Th} {i : Nat} (h : i < g.length) : g.getD i default ∈ g := by simp [List.getD, h]
theorem kd_in {g : List Th} (hg : Fine g) {i : Nat} (hi : i < g.length) : ∀ k ∈ kd g i, k < g.length := by
  intro k hk
  obtain ⟨z, hz, rfl⟩ := List.mem_map.1 hk
  have := hg.kids _ (getD_mem hi) z hz
  omega

theorem order_loop (g : List Th) (hg : Fine g) (N : Nat) (k0 : Nat → List AV → Option Res) : ∀ (n : Nat) (out st : List Nat) (l12 : List AV), st.length + costOf g out < n → out.length + n ≤ 1000000002 → (∀ i ∈ st, i < g.length) → l12.take st.length = nA st.reverse → st.length ≤ l12.length →
    isoOrder_L1 D N k0 n (gA g) g.length out.length st.length (nA out) (metL g out) l12 = k0 (ordGo g n out st).length (nA (ordGo g n out st)) := by
  intro n
  induction n with
  | zero => intro out st l12 h; omega
  | succ n ih =>
    intro out st l12 h hB hst hl hll
    simp only [isoOrder_L1, isoOrder_L1s]
    cases st with
    | nil =>
      rw [cond_nd (by simp)]
      simp only [ordGo]
    | cons i st =>
      simp only [List.length_cons] at h hl hll ⊢
      have hi := hst i List.mem_cons_self
      have htop : l12[st.length]? = some (.int .i64 (i : Int)) := by
        have : (l12.take (st.length + 1))[st.length]? = some (.int .i64 (i : Int)) := by
          rw [hl]; simp [nA]
        rwa [List.getElem?_take_of_lt (by omega)] at this
      have hpop : l12.take st.length = nA st.reverse := by
        have := congrArg (List.take st.length) hl
        rw [List.take_take, Nat.min_eq_left (by omega)] at this
        rw [this]; simp [nA]
      have hw1 : IntKind.i64.wrap (((st.length + 1 : Nat) : Int) - 1) = ((st.length : Nat) : Int) := by rw [wrap_i64 (by omega) (by omega)]; omega
      rw [cond_d (by omega)]
      simp only [hw1]
      rw [need_d2 (by omega) (by omega)]
      simp only [Int.toNat_natCast, Nat.zero_add]
      rw [htop]
      simp only [Option.bind_some, flat0I, asI_i, Int.toNat_natCast]
      rw [need_d2 (by omega) (by omega), need_d2 (by omega) (by omega)]
      have hmet : (metL g out)[i]? = some (.bool (decide (i ∈ out))) := by
        unfold metL; simp [List.getElem?_range hi]
      rw [hmet]
      simp only [Option.bind_some, flat0B, asB_b]
      by_cases ho : i ∈ out
      · rw [cond_d ho]
        simp only [ordGo, if_pos ho]
        exact ih out st l12 (by omega) (by omega) (fun j hj => hst j (List.mem_cons_of_mem _ hj)) hpop (by omega)
      · rw [cond_nd ho]
        have hc := cost_met hi ho
        have hkl : (g.getD i default).kids.length = (kd g i).length := by simp [kd]
        simp only [Option.bind_some, ordGo, if_neg ho]
        rw [need_d2 (by omega) (by omega), show ∀ (a b : Bool) (y : Option Res), needSt (AV.bool a) (AV.bool b) 0 1 y = y from fun _ _ _ => rfl, need_d (by simp [nA_len]; omega), need_d (by omega), get_gA hi, asTh, D_Clone _ (by rw [iA_len]; omega)]
        simp only [Option.bind_some, asR_r, need_true]
        rw [show ∀ (x : Nat) (y : Option Res), need (Nat.beq x x) y = y from fun x y => by rw [Nat.beq_refl]; rfl, D_Reverse _ (by omega)]
        simp only [Option.bind_some, asC_c, asN_n, asRf, asR_r, iA_len, List.length_reverse, Nat.beq_refl, need_true, as0T, asT_t]
        rw [need_d (by simp only [List.length_take, List.length_drop, iA_len, List.length_reverse]; omega)]
        have hkA := kd_iA (hg.kids _ (getD_mem hi))
        have hrev : iA (g.getD i default).kids.reverse = nA (kd g i).reverse := by
          have := congrArg List.reverse hkA
          simpa [iA, nA] using this
        have e1 : (((nA out).drop 0).take out.length) ++ [AV.int .i64 (i : Int)] = nA (out ++ [i]) := by
          rw [List.drop_zero, List.take_of_length_le (by rw [nA_len]; omega), nA_app]; rfl
        have e2 : ((l12.drop 0).take st.length) ++ (((iA (g.getD i default).kids.reverse).drop 0).take (g.getD i default).kids.length) = nA (kd g i ++ st).reverse := by
          rw [List.drop_zero, List.drop_zero, hpop, hrev, List.take_of_length_le (by rw [nA_len]; simp [kd]), List.reverse_append, nA_app]
        rw [e1, e2, metL_set hi, nA_len, nA_len, List.length_reverse]
        exact ih (out ++ [i]) (kd g i ++ st) _ (by rw [List.length_append]; omega) (by simp; omega) (fun j hj => by
          rcases List.mem_append.1 hj with hj | hj
          · exact kd_in hg hi j hj
          · exact hst j (List.mem_cons_of_mem _ hj)) (List.take_of_length_le (by rw [nA_len, List.length_reverse]; exact Nat.le_refl _)) (by rw [nA_len, List.length_reverse]; exact Nat.le_refl _)

/-- The things as a walk meets them first. -/
def orderL (g : List Th) : List Nat := ordGo g (costOf g [] + 2) [] [0]
theorem D_order (g : List Th) (hg : Fine g) (h0 : 0 < g.length) : D id_isoOrder [.row 4 (gA g)] = some ⟨.row 1 (nA (orderL g)), true, []⟩ := by
  have hs := hg.size
  refine den_fn (N := costOf g [] + 2) (F := isoOrder) rfl rfl ?_
  refine (isoOrder_eq D _ (gA g)).trans ?_
  unfold isoOrderr
  rw [gA_len, need_d2 (by omega) (by omega)]
  simp only [Int.toNat_natCast]
  have e : List.replicate g.length (AV.bool false) = metL g [] := by
    unfold metL
    apply List.ext_getElem?
    intro j
    by_cases hj : j < g.length
    · simp [List.getElem?_range hj, hj]
    · rw [List.getElem?_eq_none (by simp; omega), List.getElem?_eq_none (by simp; omega)]
  rw [e]
  refine (order_loop g hg _ (fun n7 l18 => some ⟨AV.row 1 ((l18.drop 0).take n7), true, []⟩) _ [] [0] [AV.int .i64 0] (by simp only [List.length_singleton]; omega) (by simp only [List.length_nil]; omega) (by simpa using h0) rfl (by simp)).trans ?_
  show some (⟨AV.row 1 (((nA (orderL g)).drop 0).take (orderL g).length), true, []⟩ : Res) = _
  rw [List.drop_zero, List.take_of_length_le (by rw [nA_len]; omega)]

end Go.Proofs.YthdefengmkcacaaDoor.Vf
