
/- What the machine answers by itself, or by the library's own text, is what we say: so what D answers is what calls come to. No condition. -/
import Derived.Test.YthdefengmkcacaaDoorVfKit
import Derived.Test.YthdefengmkcacaaDoorVfLay
import Derived.WalkKit
import Derived.ProofKit
import Derived.Laws.CopyOwn
import Derived.Laws.OwnMore
import Derived.Lib.Hide
import Derived.Lib.BytesEntry
import Derived.Laws.Externs
import Derived.Shelf.Spec.DecodeRune
import Derived.Below
import Derived.Shelf.Unicode.ValidAny
namespace Go.Proofs.YthdefengmkcacaaDoor
open Go.RowKit Go.Lib
set_option linter.unusedVariables false
set_option linter.unusedSimpArgs false
namespace Vf

theorem Agree.of_below {w w' : World} (h : Below w.heap.size w w') : Agree (fun _ => False) w w' := by
  obtain ⟨h1, h2, h3, h4, h5⟩ := h
  exact ⟨h4, fun b hb _ => h5 b hb, ⟨h1, h2, h3⟩⟩

theorem Agree.below {w w' : World} (h : Agree (fun _ => False) w w') : Below w.heap.size w w' :=
  ⟨h.3.1, h.3.2.1, h.3.2.2, h.1, fun k hk => h.2 k hk fun h => h⟩

theorem callsX_of {P : Program} {f : Nat} {args : Array Value} {w : World} {S : Ending → World → Prop} (hf : callFits P f = true) (h : Calls P f args w S) : CallsX P f args w S := by
  unfold CallsX
  rw [run_callFunc hf]
  exact h

theorem tabs_of_gok {B : Nat → Prop} {w : World} (h : GOk gl B w) : Lib.Utf8Tabs g_first g_accept w := by
  obtain ⟨_, _, _, vs, hr, hc⟩ := h g_first ((List.range 256).map fun c => AV.int .u8 (Lib.firstT c)) rfl
  obtain ⟨_, _, _, us, hr2, hc2⟩ := h g_accept ((List.range 32).map fun i => AV.int .u8 (bif Nat.beq (i % 2) 0 then Lib.accLo (i / 2) else Lib.accHi (i / 2))) rfl
  refine ⟨fun c hlt => ?_, fun i hi => ⟨?_, ?_⟩⟩
  · obtain ⟨v, hv, hrel⟩ := hr.get (i := c) (x := AV.int .u8 (Lib.firstT c)) (by simp [hlt])
    cases hrel
    exact hc c _ hv
  · obtain ⟨v, hv, hrel⟩ := hr2.get (i := 2 * i) (x := AV.int .u8 (Lib.accLo i)) (by
      have e1 : 2 * i % 2 = 0 := by omega
      have e2 : 2 * i / 2 = i := by omega
      have e3 : 2 * i < 32 := by omega
      rw [List.getElem?_map, List.getElem?_range e3]; simp only [Option.map_some, e1, e2]; rfl)
    cases hrel
    exact hc2 _ _ hv
  · obtain ⟨v, hv, hrel⟩ := hr2.get (i := 2 * i + 1) (x := AV.int .u8 (Lib.accHi i)) (by
      have e1 : (2 * i + 1) % 2 = 1 := by omega
      have e2 : (2 * i + 1) / 2 = i := by omega
      have e3 : 2 * i + 1 < 32 := by omega
      rw [List.getElem?_map, List.getElem?_range e3]; simp only [Option.map_some, e1, e2]; rfl)
    cases hrel
    exact hc2 _ _ hv

set_option maxHeartbeats 1000000 in
set_option maxRecDepth 100000 in
/-- The machine's own entries, and the library's contracts, are what we say. -/
theorem X0_sound : RSound0 Tryd.prog gl X0 := by
  intro f vs r h Bo w args hG hBo hrel
  unfold X0 at h
  cases hf : Nat.beq f id_unicodeUtf8ValidString
  case true =>
    rw [hf] at h
    simp only [cond_true] at h
    have e := Nat.eq_of_beq_eq_true hf
    subst e
    split at h
    case h_2 => cases h
    rename_i s
    by_cases hle : s.length ≤ 1000000000
    · rw [cond_d hle] at h
      simp only [Option.some.injEq] at h
      subst h
      cases hrel with
      | cons _ v1 _ _ h1 ht =>
      cases ht
      cases h1 with
      | str s =>
      have e1 : s.size ≤ 1000000000 := hle
      have hT : Lib.Utf8Tabs (Tryd.laysValid_ren.g 3) (Tryd.laysValid_ren.g 4) w := tabs_of_gok hG
      have hcon := Any.utf8_ValidString Tryd.laysValid s w (by omega) hT
      refine callsX_of (by kernel_rfl) (Calls.mono hcon fun e w' ⟨he, hb⟩ => ?_)
      exact ⟨_, he, Agree.of_below hb, .bool _, fun h => by cases h⟩
    · rw [cond_nd hle] at h; cases h
  rw [hf] at h
  simp only [cond_false] at h
  clear hf
  cases h

end Vf
end Go.Proofs.YthdefengmkcacaaDoor
