
/- What the machine answers by itself, or by the library's own text, is what we say: so what D answers is what calls come to. No condition. -/
import Derived.Test.YtnapopfbmdghkaaVfKit
import Derived.WalkKit
import Derived.ProofKit
import Derived.Laws.CopyOwn
import Derived.Laws.OwnMore
import Derived.Lib.Hide
import Derived.Lib.BytesEntry
import Derived.Laws.Externs
import Derived.Shelf.Spec.DecodeRune
import Derived.Below
namespace Go.Proofs.Ytnapopfbmdghkaa
open Go.RowKit Go.Lib
set_option linter.unusedVariables false
set_option linter.unusedSimpArgs false
namespace Vf

theorem bytesOf_nums (s : List UInt8) : Lib.bytesOf (s.map fun b => (b.toNat : Int)) = s := by
  unfold Lib.bytesOf
  rw [List.map_map]
  have : ((fun n : Int => UInt8.ofNat n.toNat) ∘ fun b : UInt8 => (b.toNat : Int)) = id := by funext b; simp
  rw [this, List.map_id]

theorem Agree.of_below {w w' : World} (h : Below w.heap.size w w') : Agree (fun _ => False) w w' := by
  obtain ⟨h1, h2, h3, h4, h5⟩ := h
  exact ⟨h4, fun b hb _ => h5 b hb, ⟨h1, h2, h3⟩⟩

theorem callsX_of {P : Program} {f : Nat} {args : Array Value} {w : World} {S : Ending → World → Prop} (hf : callFits P f = true) (h : Calls P f args w S) : CallsX P f args w S := by
  unfold CallsX
  rw [run_callFunc hf]
  exact h

theorem get_list (l : List UInt8) (i : Nat) : (⟨l.toArray⟩ : ByteArray).get! i = l.getD i 0 := by
  show l.toArray[i]! = _
  rw [List.getElem!_toArray]
  simp [List.getD, getElem!_def]
  cases l[i]? <;> rfl

theorem decodeGo_dec (l : List UInt8) : Lib.decodeGo ⟨l.toArray⟩ = dec l := by
  unfold Lib.decodeGo dec
  cases l with
  | nil => rfl
  | cons c s =>
    rw [if_neg (show ¬ (⟨(c :: s).toArray⟩ : ByteArray).size = 0 by show ¬ (c :: s).toArray.size = 0; simp), if_neg (fun h => by cases h), Lib.decode_at, get_list, get_list, get_list, get_list]
    rfl

/-- The machine's own entries, and the library's contracts, are what we say. -/
theorem X_sound : RSound Try.prog gl X := by
  intro f vs r h Bo w args hG hBo hrel
  unfold X at h
  cases hf : Nat.beq f id_internalBytealgIndexByte
  case true =>
    rw [hf] at h
    simp only [cond_true] at h
    have e := Nat.eq_of_beq_eq_true hf
    subst e
    split at h
    case h_2 => cases h
    rename_i s n
    simp only [Option.some.injEq] at h
    subst h
    cases hrel with
    | cons _ v1 _ _ h1 ht =>
    cases ht with
    | cons _ v2 _ _ h2 ht =>
    cases ht
    cases h2
    have hcall : ∀ args : Array Value, (callFunc id_internalBytealgIndexByte args).run Try.prog w = ((Extern.BytealgIndexByte.indexByte args).run Try.prog w).andThen fun v w' => .ok (.value v) w' :=
      fun args => run_callFunc_extern Try.func14 (by kernel_rfl) (by kernel_rfl) (by kernel_rfl) (e := Extern.BytealgIndexByte.indexByte) (by kernel_rfl) args w
    have fin : (Extern.BytealgIndexByte.indexByte #[v1, .int .u8 n]).run Try.prog w = .ok (.int .i64 (Lib.indexByte s n.toNat.toUInt8)) w := by
      cases h1 with
      | bnil a cap =>
        cases a with
        | none => exact Lib.run_indexByteNil w 0 cap n
        | some x => exact Lib.run_indexByteString (P := Try.prog) .empty n w
      | bytes s b o cap hb hB hc hs =>
        have := Lib.run_indexByteSlice (P := Try.prog) w b o s.length cap (s.map fun b => (b.toNat : Int)) (by simp) (fun i hi => by
          rw [hs i s[i] (by simp [hi])]; simp [hi]) n
        rw [bytesOf_nums] at this
        exact this
    unfold CallsX
    rw [hcall, fin]
    exact ⟨_, rfl, Agree.refl _ _, .int _ _, fun h => by cases h⟩
  rw [hf] at h
  simp only [cond_false] at h
  clear hf
  cases h

theorem D_sound : RSound Try.prog gl D := den_sound (by kernel_rfl) X_sound table_fit

theorem Agree.below {w w' : World} (h : Agree (fun _ => False) w w') : Below w.heap.size w w' :=
  ⟨h.3.1, h.3.2.1, h.3.2.2, h.1, fun k hk => h.2 k hk fun h => h⟩

/-- A call of a function of the table, as the walk wants it. -/
theorem calls_of_D {f : Nat} {vs : List AV} {r : Res} (hb : callFits Try.prog f = true) (h : D f vs = some r) (w : World) (args : List Value) (hG : GOk gl (fun _ => False) w) (hrel : RelL w (fun _ => False) vs args) :
    Calls Try.prog f args.toArray w fun e w' => ∃ v, e = .returned v ∧ Agree (fun _ => False) w w' ∧ Rel w' (fun _ => False) r.v v := by
  have := D_sound f vs r h (fun _ => False) w args hG (fun _ h => h.elim) hrel
  unfold CallsX at this
  rw [run_callFunc hb] at this
  exact this.mono fun e w' ⟨v, h1, h2, h3, _⟩ => ⟨v, h1, h2, h3⟩
end Vf
end Go.Proofs.Ytnapopfbmdghkaa
