
/- What the machine answers by itself, or by the library's own text, is what we say: so what D answers is what calls come to. No condition. -/
import Derived.Test.YtlionohbndehgaaDoorVfKit
import Derived.Test.YtlionohbndehgaaDoorVfLay
import Derived.WalkKit
import Derived.ProofKit
import Derived.Laws.CopyOwn
import Derived.Laws.OwnMore
import Derived.Lib.Hide
import Derived.Lib.BytesEntry
import Derived.Laws.Externs
import Derived.Shelf.Spec.DecodeRune
import Derived.Below
import Derived.Shelf.Unicode.ValidAny
import Derived.Shelf.Strconv.Itoa3
import Derived.Lib.LaidTab
import Derived.Lib.AppendIntMem
import Derived.Shelf.Strconv.Atoi
import Derived.Lib.AtoiErrMem
namespace Go.Proofs.YtlionohbndehgaaDoor
open Go.RowKit Go.Lib
set_option linter.unusedVariables false
set_option linter.unusedSimpArgs false
namespace Vf

theorem bytesOf_nums (s : List UInt8) : Lib.bytesOf (s.map fun b => (b.toNat : Int)) = s := by
  unfold Lib.bytesOf
  rw [List.map_map]
  have : ((fun n : Int => UInt8.ofNat n.toNat) ∘ fun b : UInt8 => (b.toNat : Int)) = id := by funext b; simp
  rw [this, List.map_id]

theorem Agree.of_below {w w' : World} (h : Below w.heap.size w w') : Agree (fun _ => False) w w' := by
  obtain ⟨h1, h2, h3, h4, h5⟩ := h
  exact ⟨h4, fun b hb _ => h5 b hb, ⟨h1, h2, h3⟩⟩

theorem Agree.below {w w' : World} (h : Agree (fun _ => False) w w') : Below w.heap.size w w' :=
  ⟨h.3.1, h.3.2.1, h.3.2.2, h.1, fun k hk => h.2 k hk fun h => h⟩

theorem callsX_of {P : Program} {f : Nat} {args : Array Value} {w : World} {S : Ending → World → Prop} (hf : callFits P f = true) (h : Calls P f args w S) : CallsX P f args w S := by
  unfold CallsX
  rw [run_callFunc hf]
  exact h

theorem tabs_of_gok {B : Nat → Prop} {w : World} (h : GOk gl B w) : Lib.Utf8Tabs g_first g_accept w := by
  obtain ⟨_, _, _, vs, hr, hc⟩ := h g_first ((List.range 256).map fun c => AV.int .u8 (Lib.firstT c)) rfl
  obtain ⟨_, _, _, us, hr2, hc2⟩ := h g_accept ((List.range 32).map fun i => AV.int .u8 (bif Nat.beq (i % 2) 0 then Lib.accLo (i / 2) else Lib.accHi (i / 2))) rfl
  refine ⟨fun c hlt => ?_, fun i hi => ⟨?_, ?_⟩⟩
  · obtain ⟨v, hv, hrel⟩ := hr.get (i := c) (x := AV.int .u8 (Lib.firstT c)) (by simp [hlt])
    cases hrel
    exact hc c _ hv
  · obtain ⟨v, hv, hrel⟩ := hr2.get (i := 2 * i) (x := AV.int .u8 (Lib.accLo i)) (by
      have e1 : 2 * i % 2 = 0 := by omega
      have e2 : 2 * i / 2 = i := by omega
      have e3 : 2 * i < 32 := by omega
      rw [List.getElem?_map, List.getElem?_range e3]; simp only [Option.map_some, e1, e2]; rfl)
    cases hrel
    exact hc2 _ _ hv
  · obtain ⟨v, hv, hrel⟩ := hr2.get (i := 2 * i + 1) (x := AV.int .u8 (Lib.accHi i)) (by
      have e1 : (2 * i + 1) % 2 = 1 := by omega
      have e2 : (2 * i + 1) / 2 = i := by omega
      have e3 : 2 * i + 1 < 32 := by omega
      rw [List.getElem?_map, List.getElem?_range e3]; simp only [Option.map_some, e1, e2]; rfl)
    cases hrel
    exact hc2 _ _ hv

theorem get_list (l : List UInt8) (i : Nat) : (⟨l.toArray⟩ : ByteArray).get! i = l.getD i 0 := by
  show l.toArray[i]! = _
  rw [List.getElem!_toArray]
  simp [List.getD, getElem!_def]
  cases l[i]? <;> rfl

theorem decodeGo_dec (l : List UInt8) : Lib.decodeGo ⟨l.toArray⟩ = dec l := by
  unfold Lib.decodeGo dec
  cases l with
  | nil => rfl
  | cons c s =>
    rw [if_neg (show ¬ (⟨(c :: s).toArray⟩ : ByteArray).size = 0 by show ¬ (c :: s).toArray.size = 0; simp), if_neg (fun h => by cases h), Lib.decode_at, get_list, get_list, get_list, get_list]
    rfl

theorem pow10_of_gok {w : World} {Bo : Nat → Prop} (h : GOk gl Bo w) : Lib.TabIs Tryd.prog w "internal/strconv.uint64pow10" .u64 Lib.pow10Tab := by
  obtain ⟨e, fr, hh⟩ := (h g_pow10 (Lib.pow10Tab.map (AV.int .u64)) (by kernel_rfl)).2.2.1.2 (by kernel_rfl)
  unfold Lib.TabIs World.var?
  rw [show Tryd.prog.globalNamed "internal/strconv.uint64pow10" = some g_pow10 by kernel_rfl, Option.bind_some, hh]
  simp only [List.map_map]
  rfl
set_option maxHeartbeats 1000000 in
set_option maxRecDepth 100000 in
/-- The machine's own entries, and the library's contracts, are what we say. -/
theorem X0_sound : RSound0 Tryd.prog gl X0 := by
  intro f vs r h Bo w args hG hBo hrel
  unfold X0 at h
  cases hf : Nat.beq f id_internalBytealgIndexByteString
  case true =>
    rw [hf] at h
    simp only [cond_true] at h
    have e := Nat.eq_of_beq_eq_true hf
    subst e
    split at h
    case h_2 => cases h
    rename_i s n
    simp only [Option.some.injEq] at h
    subst h
    cases hrel with
    | cons _ v1 _ _ h1 ht =>
    cases ht with
    | cons _ v2 _ _ h2 ht =>
    cases ht
    cases h2
    cases h1 with
    | str s =>
    have hcall : ∀ args : Array Value, (callFunc id_internalBytealgIndexByteString args).run Tryd.prog w = ((Extern.BytealgIndexByte.indexByte args).run Tryd.prog w).andThen fun v w' => .ok (.value v) w' :=
      fun args => run_callFunc_extern Tryd.func90 (by kernel_rfl) (by kernel_rfl) (by kernel_rfl) (e := Extern.BytealgIndexByte.indexByte) (by kernel_rfl) args w
    unfold CallsX
    rw [hcall, Lib.run_indexByteString s n w]
    exact ⟨_, rfl, Agree.refl _ _, .int _ _, fun h => by cases h⟩
  rw [hf] at h
  simp only [cond_false] at h
  clear hf
  cases hf : Nat.beq f id_unicodeUtf8ValidString
  case true =>
    rw [hf] at h
    simp only [cond_true] at h
    have e := Nat.eq_of_beq_eq_true hf
    subst e
    split at h
    case h_2 => cases h
    rename_i s
    by_cases hle : s.length ≤ 1000000000
    · rw [cond_d hle] at h
      simp only [Option.some.injEq] at h
      subst h
      cases hrel with
      | cons _ v1 _ _ h1 ht =>
      cases ht
      cases h1 with
      | str s =>
      have e1 : s.size ≤ 1000000000 := hle
      have hT : Lib.Utf8Tabs (Tryd.laysValid_ren.g 3) (Tryd.laysValid_ren.g 4) w := tabs_of_gok hG
      have hcon := Any.utf8_ValidString Tryd.laysValid s w (by omega) hT
      refine callsX_of (by kernel_rfl) (Calls.mono hcon fun e w' ⟨he, hb⟩ => ?_)
      exact ⟨_, he, Agree.of_below hb, .bool _, fun h => by cases h⟩
    · rw [cond_nd hle] at h; cases h
  rw [hf] at h
  simp only [cond_false] at h
  clear hf
  cases hf : Nat.beq f id_strconvItoa
  case true =>
    rw [hf] at h
    simp only [cond_true] at h
    have e := Nat.eq_of_beq_eq_true hf
    subst e
    split at h
    case h_2 => cases h
    rename_i n
    by_cases hle : -9223372036854775808 ≤ n ∧ n ≤ 9223372036854775807
    · rw [decide_eq_true hle.1, decide_eq_true hle.2] at h
      simp only [Bool.and_self, cond_true, Option.some.injEq] at h
      subst h
      cases hrel with
      | cons _ v1 _ _ h1 ht =>
      cases ht
      cases h1 with
      | int k n =>
      have hcon := Any.strconv_Itoa Tryd.laysItoa n hle.1 hle.2 w (pow10_of_gok hG)
      refine callsX_of (by kernel_rfl) (Calls.mono hcon fun e w' ⟨he, k, os, hw⟩ => ?_)
      exact ⟨_, he, Agree.of_below (by rw [hw]; exact Lib.below_grow _ w (Nat.le_refl _) k os), Rel.str ⟨(Lib.itoa n).toArray⟩, fun h => by cases h⟩
    · have : (decide (-9223372036854775808 ≤ n) && decide (n ≤ 9223372036854775807)) = false := by
        rw [Bool.eq_false_iff]; intro hh
        simp only [Bool.and_eq_true, decide_eq_true_eq] at hh
        exact hle hh
      rw [this] at h; cases h
  rw [hf] at h
  simp only [cond_false] at h
  clear hf
  cases hf : Nat.beq f id_strconvAtoi
  case true =>
    rw [hf] at h
    simp only [cond_true] at h
    have e := Nat.eq_of_beq_eq_true hf
    subst e
    split at h
    case h_2 => cases h
    rename_i s
    by_cases hle : s.length ≤ 18
    · rw [cond_d hle] at h
      split at h
      case h_2 => cases h
      rename_i n hn
      simp only [Option.some.injEq] at h
      subst h
      cases hrel with
      | cons _ v1 _ _ h1 ht =>
      cases ht
      cases h1 with
      | str s =>
      have hcon := Any.strconv_Atoi Tryd.laysAtoi s n hle hn w
      refine callsX_of (by kernel_rfl) (Calls.mono hcon fun e w' ⟨he, t, hw⟩ => ?_)
      exact ⟨_, he, Agree.of_below (by rw [hw]; exact Lib.bytesWorld_below w _ t), .tup _ _ (.cons _ _ _ _ (.int _ _) (.cons _ _ _ _ .nilI .nil)), fun h => by cases h⟩
    · rw [cond_nd hle] at h; cases h
  rw [hf] at h
  simp only [cond_false] at h
  clear hf
  cases h

set_option maxRecDepth 100000 in
theorem D0_sound : RSound0 Tryd.prog gl D0 := (den_sound (by kernel_rfl) X0_sound.up table_fit).plain
end Vf
end Go.Proofs.YtlionohbndehgaaDoor
