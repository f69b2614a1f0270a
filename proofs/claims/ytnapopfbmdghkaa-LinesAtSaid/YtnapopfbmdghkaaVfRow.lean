/- The law LinesAt: whatever the input, it answers true, and leaves its arguments alone. No condition. -/
import Derived.Test.YtnapopfbmdghkaaVfAt
import Derived.Test.YtnapopfbmdghkaaRows
import Derived.WalkKit
import Derived.ProofKit
import Derived.OpenShut
import Derived.ShutString
import Derived.ChangeOld
import Derived.Below
import Derived.SizedLaws
import Derived.Lib.BytesEntry
import Derived.Laws.Externs
namespace Go.Proofs.Ytnapopfbmdghkaa.Vf
set_option linter.unusedVariables false
set_option linter.unusedSimpArgs false
open Go.ChangeShapes Go.WideShapes Go.ChangeAt Go.RowKit
open Go.ChangeMaps (open_string shut_string)

theorem bytesOf_nums (s : List UInt8) : Lib.bytesOf (s.map fun b => (b.toNat : Int)) = s := by
  unfold Lib.bytesOf
  rw [List.map_map]
  have : ((fun n : Int => UInt8.ofNat n.toNat) ∘ fun b : UInt8 => (b.toNat : Int)) = id := by funext b; simp
  rw [this, List.map_id]

/-- The machine's own entry is what we say. -/
theorem X_sound : RSound Try.prog gl X := by
  intro f vs r h Bo w args hG hBo hrel
  unfold X at h
  cases hf : Nat.beq f id_internalBytealgIndexByte
  · rw [hf] at h; cases h
  rw [hf] at h
  simp only [cond_true] at h
  have e := Nat.eq_of_beq_eq_true hf
  subst e
  split at h
  case h_2 => cases h
  rename_i s n
  simp only [Option.some.injEq] at h
  subst h
  cases hrel with
  | cons _ v1 _ _ h1 ht =>
  cases ht with
  | cons _ v2 _ _ h2 ht =>
  cases ht
  cases h2
  have hcall : ∀ args : Array Value, (callFunc id_internalBytealgIndexByte args).run Try.prog w = ((Extern.BytealgIndexByte.indexByte args).run Try.prog w).andThen fun v w' => .ok (.value v) w' :=
    fun args => run_callFunc_extern Try.func14 (by kernel_rfl) (by kernel_rfl) (by kernel_rfl) (e := Extern.BytealgIndexByte.indexByte) (by kernel_rfl) args w
  have fin : (Extern.BytealgIndexByte.indexByte #[v1, .int .u8 n]).run Try.prog w = .ok (.int .i64 (Lib.indexByte s n.toNat.toUInt8)) w := by
    cases h1 with
    | bnil a cap =>
      cases a with
      | none => exact Lib.run_indexByteNil w 0 cap n
      | some x => exact Lib.run_indexByteString (P := Try.prog) .empty n w
    | bytes s b o cap hb hB hc hs =>
      have := Lib.run_indexByteSlice (P := Try.prog) w b o s.length cap (s.map fun b => (b.toNat : Int)) (by simp) (fun i hi => by
        rw [hs i s[i] (by simp [hi])]; simp [hi]) n
      rw [bytesOf_nums] at this
      exact this
  unfold CallsX
  rw [hcall, fin]
  exact ⟨_, rfl, Agree.refl _ _, .int _ _, fun h => by cases h⟩

theorem D_sound : RSound Try.prog gl D := den_sound (by kernel_rfl) X_sound table_fit

theorem gl_ok (B : Nat → Prop) (w : World) : GOk gl B w := fun g cs h => by cases h

/-- A call of a function of the table, as the walk wants it. -/
theorem calls_of_D {f : Nat} {vs : List AV} {r : Res} (hb : callFits Try.prog f = true) (h : D f vs = some r) (w : World) (args : List Value) (hrel : RelL w (fun _ => False) vs args) :
    Calls Try.prog f args.toArray w fun e w' => ∃ v, e = .returned v ∧ Agree (fun _ => False) w w' ∧ Rel w' (fun _ => False) r.v v := by
  have := D_sound f vs r h (fun _ => False) w args (gl_ok _ _) (fun _ h => h.elim) hrel
  unfold CallsX at this
  rw [run_callFunc hb] at this
  exact this.mono fun e w' ⟨v, h1, h2, h3, _⟩ => ⟨v, h1, h2, h3⟩

theorem Agree.below {w w' : World} (h : Agree (fun _ => False) w w') : Below w.heap.size w w' :=
  ⟨h.3.1, h.3.2.1, h.3.2.2, h.1, fun k hk => h.2 k hk fun h => h⟩

/-- A reading of bytes is bytes. -/
theorem rel_of_ints {w : World} {a : Option Addr} {len cap : Nat} {zs : List Int} (h : (a = none ∧ len = 0 ∧ cap = 0 ∧ zs = []) ∨ ∃ x, a = some x ∧ len ≤ cap ∧ len ≤ zs.length ∧ (∀ i, i < zs.length → w.cell? (x.add i) = some (.int .u8 (zs.getD i 0))) ∧ ∀ n ∈ zs, (Lit.int .u8 n).wf = true) :
    ∃ s : List UInt8, s.length = len ∧ Rel w (fun _ => False) (.bytes s) (.slice a len cap) := by
  rcases h with ⟨rfl, rfl, rfl, _⟩ | ⟨x, rfl, h1, h2, h3, h4⟩
  · exact ⟨[], rfl, .bnil none 0⟩
  · by_cases h0 : len = 0
    · subst h0; exact ⟨[], rfl, .bnil (some x) cap⟩
    · have hc0 := h3 0 (by omega)
      rw [show x.add 0 = x from by unfold Addr.add; split <;> simp_all] at hc0
      obtain ⟨b, o, sp⟩ := x
      have hsp : sp = none ∧ b < w.heap.size := by
        unfold World.cell? at hc0
        split at hc0
        · rename_i hh
          split at hc0
          · cases hc0
          · rename_i hs; exact ⟨by cases sp <;> simp_all, lt_of_get hh⟩
        · cases hc0
      obtain ⟨rfl, hb⟩ := hsp
      have hlen : ((zs.take len).map fun n => UInt8.ofNat n.toNat).length = len := by simp; omega
      refine ⟨(zs.take len).map fun n => UInt8.ofNat n.toNat, hlen, ?_⟩
      have := Rel.bytes (w := w) (B := fun _ => False) ((zs.take len).map fun n => UInt8.ofNat n.toNat) b o cap hb (fun h => h) (by omega) fun j y hj => by
        simp only [List.getElem?_map, Option.map_eq_some_iff] at hj
        obtain ⟨n, hn, rfl⟩ := hj
        have hjl : j < len := by have := (List.getElem?_eq_some_iff.1 hn).1; simp at this; omega
        have hz : zs[j]? = some n := by rw [List.getElem?_take] at hn; simpa [hjl] using hn
        have hw := h4 n (List.mem_of_getElem? hz)
        have h5 := h3 j (by omega)
        rw [Addr.add_mk, List.getD_eq_getElem?_getD, hz] at h5
        rw [h5]
        have : 0 ≤ n ∧ n < 256 := by simp [Lit.wf, IntKind.min, IntKind.max, IntKind.signed, IntKind.bits] at hw; omega
        simp
        omega
      rw [hlen] at this
      exact this

end Go.Proofs.Ytnapopfbmdghkaa.Vf
