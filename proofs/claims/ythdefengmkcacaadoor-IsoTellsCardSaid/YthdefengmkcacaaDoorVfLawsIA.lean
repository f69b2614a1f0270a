
/- The example of chapter 18, and the law of forms. No condition. -/
import Derived.Test.YthdefengmkcacaaDoorVfIsoC
namespace Go.Proofs.YthdefengmkcacaaDoor.Vf
set_option linter.unusedVariables false
set_option linter.unusedSimpArgs false

def thS : Th := ⟨1, [33, 33, 115, 116, 114], [97], []⟩
def fineB (g : List Th) : Bool := g.all (fun t => kidsIn g t.kids) && decide (g.length + costOf g [] ≤ 1000000000) && g.all fun t => decide (t.tag.length ≤ 1000000) && decide (t.value.length ≤ 1000000000) && decide (t.kids.length ≤ 1000000000)
theorem fine_of {g : List Th} (h : fineB g = true) : Fine g := by
  simp only [fineB, Bool.and_eq_true, List.all_eq_true, decide_eq_true_eq] at h
  obtain ⟨⟨h1, h2⟩, h3⟩ := h
  exact ⟨fun t ht => kidsIn_inG (h1 t ht), h2, fun t ht => ⟨(h3 t ht).1.1, (h3 t ht).1.2, (h3 t ht).2⟩⟩

theorem D_CopyT (l : List AV) (h : l.length ≤ 1099511627776) : D id_keepCopyApiThing [.row 4 l] = some ⟨.row 4 l, true, []⟩ := by
  refine den_fn (N := 0) (F := keepCopyApiThing) rfl rfl ?_
  refine (keepCopyApiThing_eq D _ l).trans ?_
  unfold keepCopyApiThingr
  rw [need_d h, List.drop_zero, List.take_length]
theorem D_wakes18 : D id_law18Wakes [] = some ⟨.bool true, false, []⟩ := by
  refine den_fn (N := 0) (F := law18Wakes) rfl rfl ?_
  refine (law18Wakes_eq D _).trans ?_
  unfold law18Wakesr
  have f1 : Fine [thS] := fine_of (by decide +kernel)
  have f2 : Fine [thS, thS] := fine_of (by decide +kernel)
  have hS : D id_isoSame [.row 4 (gA [thS]), .row 4 (gA [thS, thS])] = some ⟨.bool true, false, []⟩ := by
    rw [D_Same _ _ f1 f2, decide_eq_true (by decide +kernel)]
  have hV : D id_isoValid [.row 4 (gA [thS])] = some ⟨.bool true, false, []⟩ := by
    rw [D_isoValid _ (by decide) f1.small, show validP [thS] = true by decide +kernel]
  have hN : D id_isoValid [.row 4 (gA [])] = some ⟨.bool false, false, []⟩ := by
    rw [D_isoValid _ (by decide) (by simp), show validP [] = false from rfl]
  rw [D_CopyT _ (by decide)]
  simp only [Option.bind_some, asR_r, need_true]
  refine Eq.trans (b := (D id_isoSame [.row 4 (gA [thS]), .row 4 (gA [thS, thS])]).bind fun r2 => asB r2.v fun b1 => bif b1 then ((D id_isoValid [.row 4 (gA [thS])]).bind fun r3 => asB r3.v fun b2 => bif b2 then ((D id_isoValid [.row 4 (gA [])]).bind fun r4 => asB r4.v fun b3 => some ⟨AV.bool (!b3), false, []⟩) else some ⟨AV.bool false, false, []⟩) else some ⟨AV.bool false, false, []⟩) rfl ?_
  rw [hS]
  simp only [Option.bind_some, asB_b, cond_true]
  rw [hV]
  simp only [Option.bind_some, asB_b, cond_true]
  rw [hN]
  rfl

end Go.Proofs.YthdefengmkcacaaDoor.Vf
