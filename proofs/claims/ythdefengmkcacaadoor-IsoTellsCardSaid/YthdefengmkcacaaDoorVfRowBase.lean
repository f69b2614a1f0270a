
/- From what a row says of memory to what the evaluator asks, and back. No condition. -/
import Derived.Test.YthdefengmkcacaaDoorVfSoundX
import Derived.Test.YthdefengmkcacaaDoorRows
import Derived.OpenShut
import Derived.ShutString
import Derived.ChangeOld
import Derived.SizedLaws
import Derived.Lay
import Derived.Lib.LaidU8T
namespace Go.Proofs.YthdefengmkcacaaDoor.Vf
set_option linter.unusedVariables false
set_option linter.unusedSimpArgs false
open Go.ChangeShapes Go.WideShapes Go.ChangeAt Go.RowKit
open Go.ChangeMaps (open_string shut_string)

theorem own : ownKnob Tryd.prog.godebug = none := by kernel_rfl
theorem laidOut : laidOutB Tryd.prog = true := by kernel_rfl

theorem lt_of_cell {w : World} {b j : Nat} {v : Value} (h : w.cell? ⟨b, j, none⟩ = some v) : b < w.heap.size := by
  rcases Nat.lt_or_ge b w.heap.size with h' | h'
  · exact h'
  · simp [World.cell?, Array.getElem?_eq_none h'] at h

theorem relL_ints {w : World} {B : Nat → Prop} {k : IntKind} (f : Nat → Int) : ∀ l : List Nat, RelL w B (l.map fun c => AV.int k (f c)) (l.map fun c => Value.int k (f c))
  | [] => .nil
  | c :: l => .cons _ _ _ _ (.int _ _) (relL_ints f l)


theorem gok_of_tabs {w : World} (h : Lib.Utf8Tabs g_first g_accept w) : GOk gl (fun _ => False) w := by
  intro g cs hg
  simp only [gl, get_cons] at hg
  split at hg
  · rename_i e
    cases hg
    refine ⟨by rw [e]; exact lt_of_cell (h.1 0 (by omega)), fun h => h, ⟨(fun h => by simp at h), fun h => Bool.noConfusion (show false = true from h)⟩, _, relL_ints (fun c => (Lib.firstT c : Int)) _, fun j v hj => ?_⟩
    rw [List.getElem?_map, Option.map_eq_some_iff] at hj
    obtain ⟨c, hc, rfl⟩ := hj
    obtain ⟨hlt, rfl⟩ := List.getElem?_eq_some_iff.1 hc
    simp only [List.length_range] at hlt
    rw [e, List.getElem_range]
    exact h.1 _ hlt
  · split at hg
    · rename_i e
      cases hg
      refine ⟨by rw [e]; exact lt_of_cell (h.2 0 (by omega)).1, fun h => h, ⟨(fun h => by simp at h), fun h => Bool.noConfusion (show false = true from h)⟩, _, relL_ints (fun i => (bif Nat.beq (i % 2) 0 then (Lib.accLo (i / 2) : Int) else (Lib.accHi (i / 2) : Int))) _, fun j v hj => ?_⟩
      rw [List.getElem?_map, Option.map_eq_some_iff] at hj
      obtain ⟨c, hc, rfl⟩ := hj
      obtain ⟨hlt, rfl⟩ := List.getElem?_eq_some_iff.1 hc
      simp only [List.length_range] at hlt
      rw [e, List.getElem_range]
      have := h.2 (j / 2) (by omega)
      rcases Nat.mod_two_eq_zero_or_one j with h0 | h0
      · rw [h0]
        have e2 : 2 * (j / 2) = j := by omega
        rw [e2] at this
        exact this.1
      · rw [h0]
        have e2 : 2 * (j / 2) + 1 = j := by omega
        rw [e2] at this
        exact this.2
    · cases hg

def tabRen : Go.Shelf.Ren := ⟨fun n => n, fun | 5 => 5 | 119 => 74 | 138 => 76 | 139 => 77 | n => n, fun | 3 => g_first | 4 => g_accept | n => n⟩
theorem tabTypes : U8Types Tryd.prog tabRen := ⟨by kernel_rfl, by kernel_rfl, by kernel_rfl, by kernel_rfl⟩
theorem tabExtra : U8Extra Tryd.prog tabRen := ⟨by kernel_rfl, by kernel_rfl, by kernel_rfl, by kernel_rfl, by kernel_rfl, by kernel_rfl, by kernel_rfl⟩
theorem gok_of_laid {laid : List (String × DataW Unit)} {w : World} (h : laidMet Tryd.prog laid w) (hf : ("unicode/utf8.first", Rows.laid_unicode_utf8_first) ∈ laid) (ha : ("unicode/utf8.acceptRanges", (Rows.laid_unicode_utf8_acceptRanges : DataW Unit)) ∈ laid) : GOk gl (fun _ => False) w :=
  gok_of_tabs
  (utf8Tabs_of_readsT (ρ := tabRen) tabTypes tabExtra ((show Rows.laid_unicode_utf8_first = Lib.firstData by kernel_rfl) ▸ Lib.laidMet.reads h hf) ((show (Rows.laid_unicode_utf8_acceptRanges : DataW Unit) = Lib.acceptData by kernel_rfl) ▸ Lib.laidMet.reads h ha))

end Go.Proofs.YthdefengmkcacaaDoor.Vf
