
/- Which graphs are alike, by the document's own answer. No condition. -/
import Derived.Test.YtmpjohnbddnehaaDoorVfGood
import Derived.Test.YtmpjohnbddnehaaDoorVfIsoE
import Derived.Test.YtmpjohnbddnehaaDoorVfMetD
namespace Go.Proofs.YtmpjohnbddnehaaDoor.Vf
set_option linter.unusedVariables false
set_option linter.unusedSimpArgs false

theorem intsX_iA : ∀ l : List Int, intsOfX (iA l) = some l
  | [] => rfl
  | a :: r => by
    show ((intsOfX (iA r)).bind fun l => some (a :: l)) = _
    rw [intsX_iA r]; rfl
theorem ths_gA : ∀ g : List Th, thsOf (gA g) = some (g.map Th.gx)
  | [] => rfl
  | t :: r => by
    show ((intsOfX (iA t.kids)).bind fun q => (thsOf (gA r)).bind fun l => some (⟨t.kind, t.tag, t.value, q⟩ :: l)) = _
    rw [intsX_iA, Option.bind_some, ths_gA r]; rfl
theorem D_refCanon (g : List Th) (hg : Fine g) (h0 : 0 < g.length) : D id_ref18Canon [.row 4 (gA g)] = some ⟨.row 4 (gA (canonL g)), false, []⟩ :=
  D_ext (by
    have h : X id_ref18Canon [.row 4 (gA g)] = (thsOf (gA g)).bind fun l => bif canonOk l then some (⟨.row 4 ((canonS l).2.map GTx.av), false, []⟩ : Res) else none := rfl
    have hok : canonOk (g.map Th.gx) = true := by
      have hsz := hg.size
      unfold canonOk
      simp only [List.length_map, Bool.and_eq_true, decide_eq_true_eq, List.all_eq_true]
      refine ⟨⟨h0, by omega⟩, fun t ht => ?_⟩
      obtain ⟨x, hx, rfl⟩ := List.mem_map.1 ht
      exact ⟨(hg.small x hx).2.2, hg.kids x hx⟩
    have he : (canonS (g.map Th.gx)).2.map GTx.av = gA (canonL g) := by
      rw [← canonS_law hg h0]
      unfold gA
      rw [List.map_map]; rfl
    rw [h, ths_gA, Option.bind_some, hok, cond_true, he])
theorem refSame_inner (N : Nat) (k0 : Bool → Option Res) (k1 : List AV → List AV → Int → Int → Option Res) (l7 l8 : List AV) (i5 i6 i9 i10 : Int) (s5 s6 s7 s8 : List UInt8) (a b : List Int) (hl : a.length = b.length) (ha : a.length ≤ 1000000000) : ∀ (n i : Nat), a.length < i + n → i ≤ a.length →
    ref18SameLow_L2 D N k0 k1 n l7 l8 i5 i6 a.length i i9 s5 s6 (iA a) i10 s7 s8 (iA b) = if a.drop i = b.drop i then k1 l7 l8 i5 i6 else k0 false := by
  intro n
  induction n with
  | zero => intro i h _; omega
  | succ n ih =>
    intro i h hi
    simp only [ref18SameLow_L2, ref18SameLow_L2s]
    by_cases hlt : i < a.length
    · rw [cond_d (by omega), need_d (by omega)]
      simp only [Int.toNat_natCast]
      rw [get_iA hlt]
      simp only [asI_i]
      rw [need_d (by omega), get_iA (by omega)]
      simp only [asI_i]
      have ea : a.drop i = a.getD i 0 :: a.drop (i + 1) := by rw [List.drop_eq_getElem_cons hlt]; simp [List.getD, hlt]
      have eb : b.drop i = b.getD i 0 :: b.drop (i + 1) := by rw [List.drop_eq_getElem_cons (by omega)]; simp [List.getD, show i < b.length by omega]
      rw [ea, eb]
      by_cases hx : a.getD i 0 = b.getD i 0
      · rw [cond_beq hx, wrap_i64 (by omega) (by omega), show (i : Int) + 1 = ((i + 1 : Nat) : Int) by omega, ih (i + 1) (by omega) (by omega)]
        simp only [hx, List.cons.injEq, true_and]
      · rw [cond_bne hx, if_neg]
        intro e
        exact hx (List.cons.inj e).1
    · rw [cond_nd (by omega), List.drop_eq_nil_of_le (by omega), List.drop_eq_nil_of_le (by omega)]; rfl
theorem refSame_loop (a b : List Th) (hl : a.length = b.length) (ha : a.length ≤ 1000000000) (sa : ∀ t ∈ a, t.small) (N : Nat) (hN : ∀ t ∈ a, t.kids.length < N) (k0 : Bool → Option Res) (k1 : Option Res) : ∀ (n i : Nat), a.length < i + n → i ≤ a.length →
    ref18SameLow_L1 D N k0 k1 n (gA a) (gA b) a.length i = if a.drop i = b.drop i then k1 else k0 false := by
  intro n
  induction n with
  | zero => intro i h _; omega
  | succ n ih =>
    intro i h hi
    simp only [ref18SameLow_L1, ref18SameLow_L1s]
    by_cases hlt : i < a.length
    · have hltb : i < b.length := by omega
      have ea : a.drop i = a.getD i default :: a.drop (i + 1) := by rw [List.drop_eq_getElem_cons hlt]; simp [List.getD, hlt]
      have eb : b.drop i = b.getD i default :: b.drop (i + 1) := by rw [List.drop_eq_getElem_cons hltb]; simp [List.getD, hltb]
      have ga := getD_mem hlt
      have nd : ∀ y : Option Res, need (decide (0 ≤ (i : Int))) y = y := fun y => need_d (by omega)
      rw [cond_d (by omega), ea, eb]
      simp only [nd, Int.toNat_natCast, get_gA hlt, get_gA hltb, asTh]
      have ha' := sa _ ga
      have hNa := hN _ ga
      generalize a.getD i default = x at ha' hNa ⊢
      generalize b.getD i default = y
      obtain ⟨k, t, v, q⟩ := x
      obtain ⟨k', t', v', q'⟩ := y
      simp only at hNa ⊢
      by_cases h1 : k = k'
      · rw [cond_beq h1]
        by_cases h2 : t = t'
        · rw [show (t == t') = true by simpa using h2, Bool.not_true, cond_false]
          by_cases h3 : v = v'
          · rw [show (v == v') = true by simpa using h3, Bool.not_true, cond_false, iA_len, iA_len]
            by_cases h4 : q.length = q'.length
            · have := ha'.2.2
              rw [cond_beq (by omega)]
              refine (refSame_inner N _ _ (gA a) (gA b) a.length i k k' t v t' v' q q' h4 this N 0 (by omega) (by omega)).trans ?_
              simp only [List.drop_zero]
              by_cases h5 : q = q'
              · rw [if_pos h5, wrap_i64 (by omega) (by omega), show (i : Int) + 1 = ((i + 1 : Nat) : Int) by omega, ih (i + 1) (by omega) (by omega)]
                simp [h1, h2, h3, h5]
              · rw [if_neg h5, if_neg (by simp [h5])]
            · rw [cond_bne (by omega), if_neg (by simp; intro _ _ _ e; exact absurd (by rw [e]) h4)]
          · rw [show (v == v') = false by simpa using h3, Bool.not_false, cond_true, if_neg (by simp [h3])]
        · rw [show (t == t') = false by simpa using h2, Bool.not_false, cond_true, if_neg (by simp [h2])]
      · rw [cond_bne h1, if_neg (by simp [h1])]
    · rw [cond_nd (by omega), List.drop_eq_nil_of_le (by omega), List.drop_eq_nil_of_le (by omega)]; rfl
theorem D_refSameLow (a b : List Th) (ha : a.length ≤ 1000000000) (sa : ∀ t ∈ a, t.small) : D id_ref18SameLow [.row 4 (gA a), .row 4 (gA b)] = some ⟨.bool (decide (a = b)), false, []⟩ := by
  refine den_fn (N := a.length + 1000000001) (F := ref18SameLow) rfl rfl ?_
  refine (ref18SameLow_eq D _ (gA a) (gA b)).trans ?_
  unfold ref18SameLowr
  rw [gA_len, gA_len]
  by_cases hl : a.length = b.length
  · rw [cond_beq (by omega), show (0 : Int) = ((0 : Nat) : Int) from rfl, refSame_loop a b hl ha sa _ (fun t ht => by have := (sa t ht).2.2; omega) _ _ _ 0 (by omega) (by omega)]
    simp only [List.drop_zero]
    by_cases h : a = b
    · rw [if_pos h]; simp [h]
    · rw [if_neg h]; simp [h]
  · rw [cond_bne (by omega)]
    rw [decide_eq_false (fun e => hl (by rw [e]))]
theorem D_refSame (a b : List Th) (ha : Fine a) (hb : Fine b) (ha0 : 0 < a.length) (hb0 : 0 < b.length) : D id_ref18Same [.row 4 (gA a), .row 4 (gA b)] = some ⟨.bool (decide (canonL a = canonL b)), false, []⟩ := by
  have hca := canon_fine ha
  have hsz := hca.size
  refine den_fn (N := 0) (F := ref18Same) rfl rfl ?_
  refine (ref18Same_eq D _ (gA a) (gA b)).trans ?_
  unfold ref18Samer
  rw [D_refCanon a ha ha0]
  simp only [Option.bind_some, asR_r]
  rw [D_refCanon b hb hb0]
  simp only [Option.bind_some, asR_r]
  rw [D_refSameLow _ _ (by omega) hca.small]
  simp only [Option.bind_some, asB_b]
theorem D_IsoSame (l m : List LT) (same : Bool) : D id_law18IsoSame [.row 5 (ltA l), .row 5 (ltA m), .bool same] = some ⟨.bool true, false, []⟩ := by
  have hg := graph_fine l
  have h0 := graph_pos l
  have hh := graph_fine m
  have h0' := graph_pos m
  refine den_fn (N := 0) (F := law18IsoSame) rfl rfl ?_
  refine (law18IsoSame_eq D _ (ltA l) (ltA m) same).trans ?_
  unfold law18IsoSamer
  rw [D_Graph]
  simp only [Option.bind_some, asR_r]
  rw [D_Graph]
  simp only [Option.bind_some, asR_r]
  generalize graphL l false = g at hg h0 ⊢
  generalize graphL m false = h at hh h0' ⊢
  have hc := canon_fine hg
  have hc0 := canonL_ne h0
  have ecc := canon_canon hg h0
  cases same
  · simp only [cond_false]
    rw [D_Same _ _ hg hh, D_Same _ _ hh hg]
    simp only [Option.bind_some, asB_b]
    rw [D_refSame _ _ hg hh h0 h0']
    simp only [Option.bind_some, asB_b]
    have e : (decide (canonL h = canonL g) == decide (canonL g = canonL h)) = true := by
      rw [beq_iff_eq, decide_eq_decide]; exact ⟨Eq.symm, Eq.symm⟩
    rw [e, beq_self_eq_true]
    simp only [cond_true, Bool.not_false]
    rw [D_wakes18]
    rfl
  · simp only [cond_true]
    rw [D_refCanon g hg h0]
    simp only [Option.bind_some, asR_r]
    rw [D_Same _ _ hg hc, D_Same _ _ hc hg, ecc]
    simp only [Option.bind_some, asB_b, decide_true]
    rw [D_refSame _ _ hg hc h0 hc0, ecc]
    simp only [Option.bind_some, asB_b, decide_true, beq_self_eq_true, cond_true, Bool.not_true, cond_false]
    rw [D_wakes18]
    rfl
end Go.Proofs.YtmpjohnbddnehaaDoor.Vf
