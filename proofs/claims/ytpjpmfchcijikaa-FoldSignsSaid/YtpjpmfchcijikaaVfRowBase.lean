
/- From what a row says of memory to what the evaluator asks, and back. No condition. -/
import Derived.Test.YtpjpmfchcijikaaVfSoundX
import Derived.Test.YtpjpmfchcijikaaRows
import Derived.OpenShut
import Derived.ShutString
import Derived.ChangeOld
import Derived.SizedLaws
namespace Go.Proofs.Ytpjpmfchcijikaa.Vf
set_option linter.unusedVariables false
set_option linter.unusedSimpArgs false
open Go.ChangeShapes Go.WideShapes Go.ChangeAt Go.RowKit
open Go.ChangeMaps (open_string shut_string)

theorem own : ownKnob Try.prog.godebug = none := by kernel_rfl
theorem laidOut : laidOutB Try.prog = true := by kernel_rfl

theorem lt_of_cell {w : World} {b j : Nat} {v : Value} (h : w.cell? ⟨b, j, none⟩ = some v) : b < w.heap.size := by
  rcases Nat.lt_or_ge b w.heap.size with h' | h'
  · exact h'
  · simp [World.cell?, Array.getElem?_eq_none h'] at h

theorem relL_ints {w : World} {B : Nat → Prop} {k : IntKind} (f : Nat → Int) : ∀ l : List Nat, RelL w B (l.map fun c => AV.int k (f c)) (l.map fun c => Value.int k (f c))
  | [] => .nil
  | c :: l => .cons _ _ _ _ (.int _ _) (relL_ints f l)


/-- A reading of bytes is bytes. -/
theorem rel_of_ints {w : World} {a : Option Addr} {len cap : Nat} {zs : List Int} (h : (a = none ∧ len = 0 ∧ cap = 0 ∧ zs = []) ∨ ∃ x, a = some x ∧ len ≤ cap ∧ len ≤ zs.length ∧ (∀ i, i < zs.length → w.cell? (x.add i) = some (.int .u8 (zs.getD i 0))) ∧ ∀ n ∈ zs, (Lit.int .u8 n).wf = true) :
    ∃ s : List UInt8, s.length = len ∧ Rel w (fun _ => False) (.bytes s) (.slice a len cap) := by
  rcases h with ⟨rfl, rfl, rfl, _⟩ | ⟨x, rfl, h1, h2, h3, h4⟩
  · exact ⟨[], rfl, .bnil none 0⟩
  · by_cases h0 : len = 0
    · subst h0; exact ⟨[], rfl, .bnil (some x) cap⟩
    · have hc0 := h3 0 (by omega)
      rw [show x.add 0 = x from by unfold Addr.add; split <;> simp_all] at hc0
      obtain ⟨b, o, sp⟩ := x
      have hsp : sp = none ∧ b < w.heap.size := by
        unfold World.cell? at hc0
        split at hc0
        · rename_i hh
          split at hc0
          · cases hc0
          · rename_i hs; exact ⟨by cases sp <;> simp_all, lt_of_get hh⟩
        · cases hc0
      obtain ⟨rfl, hb⟩ := hsp
      have hlen : ((zs.take len).map fun n => UInt8.ofNat n.toNat).length = len := by simp; omega
      refine ⟨(zs.take len).map fun n => UInt8.ofNat n.toNat, hlen, ?_⟩
      have := Rel.bytes (w := w) (B := fun _ => False) ((zs.take len).map fun n => UInt8.ofNat n.toNat) b o cap hb (fun h => h) (by omega) fun j y hj => by
        simp only [List.getElem?_map, Option.map_eq_some_iff] at hj
        obtain ⟨n, hn, rfl⟩ := hj
        have hjl : j < len := by have := (List.getElem?_eq_some_iff.1 hn).1; simp at this; omega
        have hz : zs[j]? = some n := by rw [List.getElem?_take] at hn; simpa [hjl] using hn
        have hw := h4 n (List.mem_of_getElem? hz)
        have h5 := h3 j (by omega)
        rw [Addr.add_mk, List.getD_eq_getElem?_getD, hz] at h5
        rw [h5]
        have : 0 ≤ n ∧ n < 256 := by simp [Lit.wf, IntKind.min, IntKind.max, IntKind.signed, IntKind.bits] at hw; omega
        simp
        omega
      rw [hlen] at this
      exact this
end Go.Proofs.Ytpjpmfchcijikaa.Vf
