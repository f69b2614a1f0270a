
/- Graphs with another text, another tag, another order are not the same. No condition. -/
import Derived.Test.YtmpjohnbddnehaaDoorVfLawsIS
import Derived.Test.YtmpjohnbddnehaaDoorVfIsoE
namespace Go.Proofs.YtmpjohnbddnehaaDoor.Vf
set_option linter.unusedVariables false
set_option linter.unusedSimpArgs false

def xTwo : List Th := [⟨2, [33, 33, 115, 101, 113], [], [1, 1]⟩, ⟨1, [33, 33, 115, 116, 114], [115], []⟩]
def xApart : List Th := [⟨2, [33, 33, 115, 101, 113], [], [1, 2]⟩, ⟨1, [33, 33, 115, 116, 114], [115], []⟩, ⟨1, [33, 33, 115, 116, 114], [115], []⟩]
theorem apart_end (N : Nat) (hN : 0 < N) (k0 : Bool → Option Res) : law18IsoApart_J4 D N k0 = k0 true := by
  unfold law18IsoApart_J4
  rw [posN_pos hN]
  have f1 : Fine xTwo := fine_of (by decide +kernel)
  have f2 : Fine xApart := fine_of (by decide +kernel)
  have h1 : D id_isoSame [.row 4 (gA xTwo), .row 4 (gA xApart)] = some ⟨.bool false, false, []⟩ := by
    rw [D_Same _ _ f1 f2, decide_eq_false (by decide +kernel)]
  have h2 : D id_isoShared [.row 4 (gA xTwo)] = some ⟨.row 1 (nA [1]), true, []⟩ := by
    rw [D_Shared _ f1, show sharedL (canonL xTwo) = [1] by decide +kernel]
  have h3 : D id_isoShared [.row 4 (gA xApart)] = some ⟨.row 1 (nA []), true, []⟩ := by
    rw [D_Shared _ f2, show sharedL (canonL xApart) = [] by decide +kernel]
  simp only [xTwo, xApart, gA, iA, Th.av, List.map_cons, List.map_nil] at h1 h2 h3
  rw [h1]
  simp only [Option.bind_some, asB_b, Bool.not_false, cond_true]
  rw [h2]
  simp only [Option.bind_some, asR_r]
  rw [cond_eq (show (((nA [1]).length : Nat) : Int) = 1 from rfl), h3]
  simp only [Option.bind_some, asR_r]
  rw [cond_eq (show (((nA []).length : Nat) : Int) = 0 from rfl), D_wakes18]
  rfl

/-- A canonical form with other words at one place. -/
structure Alter (c a : List Th) (i : Nat) : Prop where
  len : a.length = c.length
  kids : ∀ j, j < c.length → (a.getD j default).kids = (c.getD j default).kids
  tag : ∀ t ∈ a, t.tag.length ≤ 1000
  value : ∀ t ∈ a, t.value.length ≤ 10000
  ne : a ≠ c
theorem alter_set {c : List Th} {i : Nat} (hi : i < c.length) {t : Th} (hk : t.kids = (c.getD i default).kids) (h1 : t.tag.length ≤ 1000) (h2 : t.value.length ≤ 10000) (hne : t ≠ c.getD i default) (hc1 : ∀ t ∈ c, t.tag.length ≤ 1000 ∧ t.value.length ≤ 10000) : Alter c (c.set i t) i where
  len := List.length_set
  kids := fun j hj => by
    simp only [List.getD_eq_getElem?_getD, List.getElem?_set]
    by_cases hij : i = j
    · subst hij
      simp only [if_true, hi, Option.getD_some]
      rw [hk, List.getD_eq_getElem?_getD]
    · simp only [hij, if_false]
  tag := fun x hx => by
    rcases List.mem_or_eq_of_mem_set hx with hx | rfl
    · exact (hc1 x hx).1
    · exact h1
  value := fun x hx => by
    rcases List.mem_or_eq_of_mem_set hx with hx | rfl
    · exact (hc1 x hx).2
    · exact h2
  ne := fun e => by
    apply hne
    have := congrArg (fun l => l.getD i default) e
    simp only [List.getD_eq_getElem?_getD, List.getElem?_set, if_true, hi, Option.getD_some] at this
    rw [this, List.getD_eq_getElem?_getD]
theorem alter_kd {c a : List Th} {i : Nat} (h : Alter c a i) : ∀ j, j < c.length → kd a j = kd c j := fun j hj => by
  unfold kd; rw [h.kids j hj]
theorem alter_fine {c a : List Th} {i : Nat} (hc : Fine c) (h : Alter c a i) : Fine a := by
  have hl := h.len
  have each : ∀ t ∈ a, ∃ j, j < c.length ∧ t.kids = (c.getD j default).kids := fun t ht => by
    obtain ⟨j, hj, rfl⟩ := List.getElem_of_mem ht
    refine ⟨j, by omega, ?_⟩
    rw [← h.kids j (by omega)]
    simp [List.getD, hj]
  refine ⟨fun t ht => ?_, ?_, fun t ht => ?_⟩
  · obtain ⟨j, hj, e⟩ := each t ht
    rw [e]
    intro k hk
    have := hc.kids _ (getD_mem hj) k hk
    omega
  · have e : costOf a [] = costOf c [] := by
      unfold costOf
      rw [hl]
      congr 1
      apply List.map_congr_left
      intro j hj
      rw [alter_kd h j (List.mem_range.1 hj)]
    have := hc.size
    omega
  · obtain ⟨j, hj, e⟩ := each t ht
    refine ⟨by have := h.tag t ht; omega, by have := h.value t ht; omega, ?_⟩
    rw [e]
    exact (hc.small _ (getD_mem hj)).2.2
theorem alter_apart {c a : List Th} {i : Nat} (hc : Fine c) (h0 : 0 < c.length) (hr : orderL c = List.range c.length) (h : Alter c a i) : canonL a = a ∧ canonL c = c := by
  have ha := alter_fine hc h
  refine ⟨canon_self ha (by rw [h.len]; exact h0) ?_, canon_self hc h0 hr⟩
  rw [relabel_order hc ha h0 h.len (alter_kd h), hr, h.len]
theorem ns_set {α : Type} (t : Th) (s : List UInt8) (y : Option α) : needSt t.av (AV.str s) 1 1 y = y ∧ needSt t.av (AV.str s) 2 1 y = y := ⟨rfl, rfl⟩
theorem set_tag (c : List Th) (i : Nat) (s : List UInt8) : (gA c).set i (.agg (putCells (c.getD i default).av.flat 1 (AV.flat (AV.str s)))) = gA (c.set i { c.getD i default with tag := s }) := by
  unfold gA; rw [List.map_set]; rfl
theorem set_value (c : List Th) (i : Nat) (s : List UInt8) : (gA c).set i (.agg (putCells (c.getD i default).av.flat 2 (AV.flat (AV.str s)))) = gA (c.set i { c.getD i default with value := s }) := by
  unfold gA; rw [List.map_set]; rfl
theorem apart_law (N : Nat) (hN : 0 < N) (k0 : Bool → Option Res) (c : List Th) (hc : Fine c) (h0 : 0 < c.length) (hr : orderL c = List.range c.length) (hs : ∀ t ∈ c, t.tag.length ≤ 1000 ∧ t.value.length ≤ 10000) (i : Nat) (hi : i < c.length) (a : List Th) (ha : Alter c a i) :
    law18IsoApart_J2 D N k0 (i : Int) (gA c) c.length (gA a) (gA c) = k0 true := by
  have hsz := hc.size
  have faf := alter_fine hc ha
  obtain ⟨ca, cc⟩ := alter_apart hc h0 hr ha
  unfold law18IsoApart_J2
  rw [posN_pos hN, gA_len, need_d2 (by omega) (by omega)]
  simp only [Int.toNat_natCast, Nat.zero_add]
  rw [get_gA hi]
  have f1 : ∀ t : Th, (t.av.flat[1]?) = some (.str t.tag) := fun t => rfl
  simp only [f1, Option.bind_some, asS_s]
  cases hb : ((c.getD i default).tag == ([33, 101, 108, 115, 101, 119, 104, 101, 114, 101] : List UInt8))
  · simp only [cond_false]
    unfold law18IsoApart_J3
    rw [posN_pos hN, gA_len, need_d2 (by omega) (by omega)]
    simp only [Int.toNat_natCast, Nat.zero_add]
    rw [get_gA hi, (ns_set _ _ _).1, set_tag]
    have hb' : (c.getD i default).tag ≠ [33, 101, 108, 115, 101, 119, 104, 101, 114, 101] := by simpa using hb
    have hB : Alter c (c.set i { c.getD i default with tag := [33, 101, 108, 115, 101, 119, 104, 101, 114, 101] }) i :=
      alter_set hi rfl (by simp) (by simpa using (hs _ (getD_mem hi)).2) (fun e => hb' (by rw [← e])) hs
    generalize hbb : c.set i { c.getD i default with tag := [33, 101, 108, 115, 101, 119, 104, 101, 114, 101] } = b at hB ⊢
    have fbf := alter_fine hc hB
    obtain ⟨cb, _⟩ := alter_apart hc h0 hr hB
    have ea : ((gA a).drop 0).take c.length = gA a := by rw [List.drop_zero, List.take_of_length_le (by rw [gA_len, ha.len]; exact Nat.le_refl _)]
    have eb : ((gA b).drop 0).take c.length = gA b := by rw [List.drop_zero, List.take_of_length_le (by rw [gA_len, hB.len]; exact Nat.le_refl _)]
    rw [ea, eb]
    have hla := ha.len
    have hlb := hB.len
    have vA := D_isoValid a (by omega) faf.small
    have vB := D_isoValid b (by omega) fbf.small
    have sA : D id_isoSame [.row 4 (gA a), .row 4 (gA c)] = some ⟨.bool false, false, []⟩ := by
      rw [D_Same _ _ faf hc, decide_eq_false (by rw [ca, cc]; exact ha.ne)]
    have sB : D id_isoSame [.row 4 (gA c), .row 4 (gA b)] = some ⟨.bool false, false, []⟩ := by
      rw [D_Same _ _ hc fbf, decide_eq_false (by rw [cb, cc]; exact fun e => hB.ne e.symm)]
    rw [vA]
    simp only [Option.bind_some, asB_b]
    have e4 := apart_end N hN k0
    have fin : ((D id_isoValid [.row 4 (gA b)]).bind fun r15 => asB r15.v fun b12 => bif b12 then ((D id_isoSame [.row 4 (gA c), .row 4 (gA b)]).bind fun r16 => asB r16.v fun b13 => bif b13 then (k0 false) else law18IsoApart_J4 D N (fun b14 => k0 b14)) else law18IsoApart_J4 D N (fun b15 => k0 b15)) = k0 true := by
      rw [vB]
      simp only [Option.bind_some, asB_b]
      cases validP b
      · exact e4
      · simp only [cond_true]
        rw [sB]
        exact e4
    cases validP a
    · exact fin
    · simp only [cond_true]
      rw [sA]
      exact fin
  · simp only [cond_true]
    rw [D_wakes18]
    rfl
theorem D_IsoApart (l : List LT) (v : Int) : D id_law18IsoApart [.row 5 (ltA l), .int .i64 v] = some ⟨.bool true, false, []⟩ := by
  have hg := graph_fine l
  have h0 := graph_pos l
  have hgd := (graph_good l).1
  have hc := canon_fine hg
  have hpos := canonL_ne h0
  have hr := canon_range hg h0
  have hsz := hc.size
  have hw : ∀ t ∈ canonL (graphL l false), t.tag.length ≤ 100 ∧ t.value.length ≤ 1000 ∧ (t.kind ≠ 1 → t.tag.length ≤ 5) := by
    intro t ht
    rw [canonL_pos h0] at ht
    obtain ⟨i, hi, rfl⟩ := List.mem_map.1 ht
    have := hgd _ (getD_mem (orderL_in hg h0 i hi))
    exact ⟨this.tl, this.vl, this.kt⟩
  have hs : ∀ t ∈ canonL (graphL l false), t.tag.length ≤ 1000 ∧ t.value.length ≤ 10000 := fun t ht => by have := hw t ht; omega
  refine den_fn (N := 1) (F := law18IsoApart) rfl rfl ?_
  refine (law18IsoApart_eq D _ (ltA l) v).trans ?_
  unfold law18IsoApartr
  rw [D_Graph]
  simp only [Option.bind_some, asR_r]
  rw [D_Canon _ hg]
  simp only [Option.bind_some, asR_r]
  rw [gA_len, cond_ne (by omega)]
  generalize canonL (graphL l false) = c at hc hpos hr hsz hw hs ⊢
  unfold law18IsoApart_J1
  rw [posN_pos (by omega), gA_len, D_Within v _ (by omega) (by omega)]
  simp only [Option.bind_some, asI_i]
  have hi0 := Int.emod_nonneg v (show (c.length : Int) ≠ 0 by omega)
  have hi1 := Int.emod_lt_of_pos v (show (0 : Int) < (c.length : Int) by omega)
  obtain ⟨i, hi⟩ : ∃ i : Nat, v % (c.length : Int) = i := ⟨(v % (c.length : Int)).toNat, by omega⟩
  rw [hi] at hi0 hi1 ⊢
  have hil : i < c.length := by omega
  rw [D_CopyT _ (by rw [gA_len]; omega)]
  simp only [Option.bind_some, asR_r, need_true]
  rw [gA_len, need_d2 (by omega) (by omega)]
  simp only [Int.toNat_natCast, Nat.zero_add]
  rw [get_gA hil]
  have f0 : ∀ t : Th, (t.av.flat[0]?) = some (.int .i64 t.kind) := fun t => rfl
  have f2 : ∀ t : Th, (t.av.flat[2]?) = some (.str t.value) := fun t => rfl
  simp only [f0, Option.bind_some, asI_i]
  have hwi := hw _ (getD_mem hil)
  by_cases h1 : (c.getD i default).kind = 1
  · rw [cond_eq h1, need_d2 (by omega) (by omega), get_gA hil]
    simp only [f2, Option.bind_some, asS_s]
    have hv := hwi.2.1
    rw [need_d (by simp only [List.length_cons, List.length_nil]; omega), need_d2 (by omega) (by omega), get_gA hil, (ns_set _ _ _).2, set_value]
    refine apart_law 1 (by omega) _ c hc hpos hr hs i hil _ (alter_set hil rfl (by simp only; omega) (by simp only [List.length_append, List.length_cons, List.length_nil]; omega) (fun e => ?_) hs)
    have := congrArg (fun t : Th => t.value.length) e
    simp only [List.length_append, List.length_cons, List.length_nil] at this
    omega
  · rw [cond_ne h1, need_d2 (by omega) (by omega), get_gA hil, (ns_set _ _ _).1, set_tag]
    refine apart_law 1 (by omega) _ c hc hpos hr hs i hil _ (alter_set hil rfl (by simp) (by simp only; omega) (fun e => ?_) hs)
    have := congrArg (fun t : Th => t.tag.length) e
    have h5 := hwi.2.2 h1
    simp only [List.length_cons, List.length_nil] at this
    omega
end Go.Proofs.YtmpjohnbddnehaaDoor.Vf
