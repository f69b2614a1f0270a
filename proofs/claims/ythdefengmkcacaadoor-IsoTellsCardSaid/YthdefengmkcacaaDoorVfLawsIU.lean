
/- Which graphs are alike, by the document's own answer. No condition. -/
import Derived.Test.YthdefengmkcacaaDoorVfGood
import Derived.Test.YthdefengmkcacaaDoorVfIsoE
import Derived.Test.YthdefengmkcacaaDoorVfMetD
namespace Go.Proofs.YthdefengmkcacaaDoor.Vf
set_option linter.unusedVariables false
set_option linter.unusedSimpArgs false

theorem intsX_iA : ∀ l : List Int, intsOfX (iA l) = some l
  | [] => rfl
  | a :: r => by
    show ((intsOfX (iA r)).bind fun l => some (a :: l)) = _
    rw [intsX_iA r]; rfl
theorem ths_gA : ∀ g : List Th, thsOf (gA g) = some (g.map Th.gx)
  | [] => rfl
  | t :: r => by
    show ((intsOfX (iA t.kids)).bind fun q => (thsOf (gA r)).bind fun l => some (⟨t.kind, t.tag, t.value, q⟩ :: l)) = _
    rw [intsX_iA, Option.bind_some, ths_gA r]; rfl
theorem D_refCanon (g : List Th) (hg : Fine g) (h0 : 0 < g.length) : D id_ref18Canon [.row 4 (gA g)] = some ⟨.row 4 (gA (canonL g)), false, []⟩ :=
  D_ext (by
    have h : X id_ref18Canon [.row 4 (gA g)] = (thsOf (gA g)).bind fun l => bif canonOk l then some (⟨.row 4 ((canonS l).2.map GTx.av), false, []⟩ : Res) else none := rfl
    have hok : canonOk (g.map Th.gx) = true := by
      have hsz := hg.size
      unfold canonOk
      simp only [List.length_map, Bool.and_eq_true, decide_eq_true_eq, List.all_eq_true]
      refine ⟨⟨h0, by omega⟩, fun t ht => ?_⟩
      obtain ⟨x, hx, rfl⟩ := List.mem_map.1 ht
      exact ⟨(hg.small x hx).2.2, hg.kids x hx⟩
    have he : (canonS (g.map Th.gx)).2.map GTx.av = gA (canonL g) := by
      rw [← canonS_law hg h0]
      unfold gA
      rw [List.map_map]; rfl
    rw [h, ths_gA, Option.bind_some, hok, cond_true, he])
end Go.Proofs.YthdefengmkcacaaDoor.Vf
