
/- What the machine answers by itself, or by the library's own text, is what we say: so what D answers is what calls come to. No condition. -/
import Derived.Test.YtlionohbndehgaaDoorVfKit
import Derived.Test.YtlionohbndehgaaDoorVfLay
import Derived.WalkKit
import Derived.ProofKit
import Derived.Laws.CopyOwn
import Derived.Laws.OwnMore
import Derived.Lib.Hide
import Derived.Lib.BytesEntry
import Derived.Laws.Externs
import Derived.Shelf.Spec.DecodeRune
import Derived.Below
import Derived.Shelf.Strconv.Atoi
import Derived.Lib.AtoiErrMem
namespace Go.Proofs.YtlionohbndehgaaDoor
open Go.RowKit Go.Lib
set_option linter.unusedVariables false
set_option linter.unusedSimpArgs false
namespace Vf

theorem bytesOf_nums (s : List UInt8) : Lib.bytesOf (s.map fun b => (b.toNat : Int)) = s := by
  unfold Lib.bytesOf
  rw [List.map_map]
  have : ((fun n : Int => UInt8.ofNat n.toNat) ∘ fun b : UInt8 => (b.toNat : Int)) = id := by funext b; simp
  rw [this, List.map_id]

theorem Agree.of_below {w w' : World} (h : Below w.heap.size w w') : Agree (fun _ => False) w w' := by
  obtain ⟨h1, h2, h3, h4, h5⟩ := h
  exact ⟨h4, fun b hb _ => h5 b hb, ⟨h1, h2, h3⟩⟩

theorem Agree.below {w w' : World} (h : Agree (fun _ => False) w w') : Below w.heap.size w w' :=
  ⟨h.3.1, h.3.2.1, h.3.2.2, h.1, fun k hk => h.2 k hk fun h => h⟩

theorem callsX_of {P : Program} {f : Nat} {args : Array Value} {w : World} {S : Ending → World → Prop} (hf : callFits P f = true) (h : Calls P f args w S) : CallsX P f args w S := by
  unfold CallsX
  rw [run_callFunc hf]
  exact h

theorem get_list (l : List UInt8) (i : Nat) : (⟨l.toArray⟩ : ByteArray).get! i = l.getD i 0 := by
  show l.toArray[i]! = _
  rw [List.getElem!_toArray]
  simp [List.getD, getElem!_def]
  cases l[i]? <;> rfl

theorem decodeGo_dec (l : List UInt8) : Lib.decodeGo ⟨l.toArray⟩ = dec l := by
  unfold Lib.decodeGo dec
  cases l with
  | nil => rfl
  | cons c s =>
    rw [if_neg (show ¬ (⟨(c :: s).toArray⟩ : ByteArray).size = 0 by show ¬ (c :: s).toArray.size = 0; simp), if_neg (fun h => by cases h), Lib.decode_at, get_list, get_list, get_list, get_list]
    rfl

set_option maxHeartbeats 1000000 in
set_option maxRecDepth 100000 in
/-- The machine's own entries, and the library's contracts, are what we say. -/
theorem X0_sound : RSound0 Tryd.prog gl X0 := by
  intro f vs r h Bo w args hG hBo hrel
  unfold X0 at h
  cases hf : Nat.beq f id_internalBytealgIndexByteString
  case true =>
    rw [hf] at h
    simp only [cond_true] at h
    have e := Nat.eq_of_beq_eq_true hf
    subst e
    split at h
    case h_2 => cases h
    rename_i s n
    simp only [Option.some.injEq] at h
    subst h
    cases hrel with
    | cons _ v1 _ _ h1 ht =>
    cases ht with
    | cons _ v2 _ _ h2 ht =>
    cases ht
    cases h2
    cases h1 with
    | str s =>
    have hcall : ∀ args : Array Value, (callFunc id_internalBytealgIndexByteString args).run Tryd.prog w = ((Extern.BytealgIndexByte.indexByte args).run Tryd.prog w).andThen fun v w' => .ok (.value v) w' :=
      fun args => run_callFunc_extern Tryd.func90 (by kernel_rfl) (by kernel_rfl) (by kernel_rfl) (e := Extern.BytealgIndexByte.indexByte) (by kernel_rfl) args w
    unfold CallsX
    rw [hcall, Lib.run_indexByteString s n w]
    exact ⟨_, rfl, Agree.refl _ _, .int _ _, fun h => by cases h⟩
  rw [hf] at h
  simp only [cond_false] at h
  clear hf
  cases hf : Nat.beq f id_strconvAtoi
  case true =>
    rw [hf] at h
    simp only [cond_true] at h
    have e := Nat.eq_of_beq_eq_true hf
    subst e
    split at h
    case h_2 => cases h
    rename_i s
    by_cases hle : s.length ≤ 18
    · rw [cond_d hle] at h
      split at h
      case h_2 => cases h
      rename_i n hn
      simp only [Option.some.injEq] at h
      subst h
      cases hrel with
      | cons _ v1 _ _ h1 ht =>
      cases ht
      cases h1 with
      | str s =>
      have hcon := Any.strconv_Atoi Tryd.laysAtoi s n hle hn w
      refine callsX_of (by kernel_rfl) (Calls.mono hcon fun e w' ⟨he, t, hw⟩ => ?_)
      exact ⟨_, he, Agree.of_below (by rw [hw]; exact Lib.bytesWorld_below w _ t), .tup _ _ (.cons _ _ _ _ (.int _ _) (.cons _ _ _ _ .nilI .nil)), fun h => by cases h⟩
    · rw [cond_nd hle] at h; cases h
  rw [hf] at h
  simp only [cond_false] at h
  clear hf
  cases h

set_option maxRecDepth 100000 in
theorem D0_sound : RSound0 Tryd.prog gl D0 := (den_sound (by kernel_rfl) X0_sound.up table_fit).plain
end Vf
end Go.Proofs.YtlionohbndehgaaDoor
