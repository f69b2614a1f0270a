
/- A reading of strings is strings. No condition. -/
import Derived.Test.YtpjpmfchcijikaaDoorVfRowBase
import Derived.SliceStrings
namespace Go.Proofs.YtpjpmfchcijikaaDoor.Vf
set_option linter.unusedVariables false
set_option linter.unusedSimpArgs false
open Go.ChangeShapes Go.WideShapes Go.ChangeAt Go.RowKit

theorem relL_strings (w : World) (B : Nat → Prop) : ∀ ss : List ByteArray, RelL w B (flats (ss.map fun s => AV.str s.data.toList)) (ss.map Value.string)
  | [] => .nil
  | s :: ss => .cons _ _ _ _ (.str s) (relL_strings w B ss)

theorem rel_of_strings {w : World} {a : Option Addr} {len cap : Nat} {ss : List ByteArray} (h : (a = none ∧ len = 0 ∧ cap = 0 ∧ ss = []) ∨ ∃ x, a = some x ∧ len ≤ cap ∧ len ≤ ss.length ∧ (∀ i, i < ss.length → w.cell? (x.add i) = some (.string (ss.getD i ByteArray.empty)))) :
    ∃ ws : List (List UInt8), ws.length = len ∧ Rel w (fun _ => False) (.row 1 (ws.map AV.str)) (.slice a len cap) := by
  rcases h with ⟨rfl, rfl, rfl, _⟩ | ⟨x, rfl, h1, h2, h3⟩
  · exact ⟨[], rfl, .rnil 1 none 0⟩
  · by_cases h0 : len = 0
    · subst h0; exact ⟨[], rfl, .rnil 1 (some x) cap⟩
    · have hc0 := h3 0 (by omega)
      rw [show x.add 0 = x from by unfold Addr.add; split <;> simp_all] at hc0
      obtain ⟨b, o, sp⟩ := x
      have hsp : sp = none ∧ b < w.heap.size := by
        unfold World.cell? at hc0
        split at hc0
        · rename_i hh
          split at hc0
          · cases hc0
          · rename_i hs; exact ⟨by cases sp <;> simp_all, lt_of_get hh⟩
        · cases hc0
      obtain ⟨rfl, hb⟩ := hsp
      have hlen : (((ss.take len).map fun s => s.data.toList).map AV.str).length = len := by simp; omega
      refine ⟨(ss.take len).map fun s => s.data.toList, by simp; omega, ?_⟩
      have e : ((ss.take len).map fun s => s.data.toList).map AV.str = (ss.take len).map fun s => AV.str s.data.toList := by rw [List.map_map]; rfl
      have := Rel.row (w := w) (B := fun _ => False) 1 (((ss.take len).map fun s => s.data.toList).map AV.str) ((ss.take len).map Value.string) b o cap hb (fun h => h) (by omega)
        (fun y hy => by
          obtain ⟨z, _, rfl⟩ := List.mem_map.1 hy
          rfl)
        (fun v hv => by
          obtain ⟨z, _, rfl⟩ := List.mem_map.1 hv; rfl)
        (by rw [e]; exact relL_strings w _ _)
        (fun j v hj => by
          simp only [List.getElem?_map, Option.map_eq_some_iff] at hj
          obtain ⟨s, hs, rfl⟩ := hj
          have hjl : j < len := by have := (List.getElem?_eq_some_iff.1 hs).1; simp at this; omega
          have hz : ss[j]? = some s := by rw [List.getElem?_take] at hs; simpa [hjl] using hs
          have h5 := h3 j (by omega)
          rw [Addr.add_mk, List.getD_eq_getElem?_getD, hz] at h5
          exact h5)
      rw [hlen] at this
      exact this
end Go.Proofs.YtpjpmfchcijikaaDoor.Vf
