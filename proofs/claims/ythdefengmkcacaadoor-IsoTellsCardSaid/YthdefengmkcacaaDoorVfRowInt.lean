
/- A reading of whole numbers is numbers. No condition. -/
import Derived.Test.YthdefengmkcacaaDoorVfRowBase
namespace Go.Proofs.YthdefengmkcacaaDoor.Vf
set_option linter.unusedVariables false
set_option linter.unusedSimpArgs false
open Go.ChangeShapes Go.WideShapes Go.ChangeAt Go.RowKit

theorem relL_i64s (w : World) (B : Nat → Prop) : ∀ zs : List Int, RelL w B (flats (zs.map fun z => AV.int .i64 z)) (zs.map fun z => Value.int .i64 z)
  | [] => .nil
  | z :: zs => .cons _ _ _ _ (.int _ _) (relL_i64s w B zs)

theorem rel_of_i64s {w : World} {a : Option Addr} {len cap : Nat} {zs : List Int} (h : (a = none ∧ len = 0 ∧ cap = 0 ∧ zs = []) ∨ ∃ x, a = some x ∧ len ≤ cap ∧ len ≤ zs.length ∧ (∀ i, i < zs.length → w.cell? (x.add i) = some (.int .i64 (zs.getD i 0)))) :
    ∃ ws : List Int, ws.length = len ∧ Rel w (fun _ => False) (.row 1 (ws.map (AV.int .i64))) (.slice a len cap) := by
  rcases h with ⟨rfl, rfl, rfl, _⟩ | ⟨x, rfl, h1, h2, h3⟩
  · exact ⟨[], rfl, .rnil 1 none 0⟩
  · by_cases h0 : len = 0
    · subst h0; exact ⟨[], rfl, .rnil 1 (some x) cap⟩
    · have hc0 := h3 0 (by omega)
      rw [show x.add 0 = x from by unfold Addr.add; split <;> simp_all] at hc0
      obtain ⟨b, o, sp⟩ := x
      have hsp : sp = none ∧ b < w.heap.size := by
        unfold World.cell? at hc0
        split at hc0
        · rename_i hh
          split at hc0
          · cases hc0
          · rename_i hs; exact ⟨by cases sp <;> simp_all, lt_of_get hh⟩
        · cases hc0
      obtain ⟨rfl, hb⟩ := hsp
      have hlen : ((zs.take len).map (AV.int .i64)).length = len := by simp; omega
      refine ⟨zs.take len, by simp; omega, ?_⟩
      have := Rel.row (w := w) (B := fun _ => False) 1 ((zs.take len).map (AV.int .i64)) ((zs.take len).map (Value.int .i64)) b o cap hb (fun h => h) (by omega)
        (fun y hy => by
          obtain ⟨z, _, rfl⟩ := List.mem_map.1 hy
          rfl)
        (fun v hv => by
          obtain ⟨z, _, rfl⟩ := List.mem_map.1 hv; rfl)
        (relL_i64s w _ _)
        (fun j v hj => by
          simp only [List.getElem?_map, Option.map_eq_some_iff] at hj
          obtain ⟨s, hs, rfl⟩ := hj
          have hjl : j < len := by have := (List.getElem?_eq_some_iff.1 hs).1; simp at this; omega
          have hz : zs[j]? = some s := by rw [List.getElem?_take] at hs; simpa [hjl] using hs
          have h5 := h3 j (by omega)
          rw [Addr.add_mk, List.getD_eq_getElem?_getD, hz] at h5
          exact h5)
      rw [hlen] at this
      exact this
end Go.Proofs.YthdefengmkcacaaDoor.Vf
