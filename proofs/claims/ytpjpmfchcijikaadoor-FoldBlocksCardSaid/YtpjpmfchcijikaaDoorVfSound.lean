
/- What the machine answers by itself, or by the library's own text, is what we say: so what D answers is what calls come to. No condition. -/
import Derived.Test.YtpjpmfchcijikaaDoorVfKit
import Derived.Test.YtpjpmfchcijikaaDoorVfLay
import Derived.WalkKit
import Derived.ProofKit
import Derived.Laws.CopyOwn
import Derived.Laws.OwnMore
import Derived.Lib.Hide
import Derived.Lib.BytesEntry
import Derived.Laws.Externs
import Derived.Shelf.Spec.DecodeRune
import Derived.Below
import Derived.Shelf.Strings.Repeat
import Derived.Shelf.Strings.OnBuilder
namespace Go.Proofs.YtpjpmfchcijikaaDoor
open Go.RowKit Go.Lib
set_option linter.unusedVariables false
set_option linter.unusedSimpArgs false
namespace Vf

theorem bytesOf_nums (s : List UInt8) : Lib.bytesOf (s.map fun b => (b.toNat : Int)) = s := by
  unfold Lib.bytesOf
  rw [List.map_map]
  have : ((fun n : Int => UInt8.ofNat n.toNat) ∘ fun b : UInt8 => (b.toNat : Int)) = id := by funext b; simp
  rw [this, List.map_id]

theorem Agree.of_below {w w' : World} (h : Below w.heap.size w w') : Agree (fun _ => False) w w' := by
  obtain ⟨h1, h2, h3, h4, h5⟩ := h
  exact ⟨h4, fun b hb _ => h5 b hb, ⟨h1, h2, h3⟩⟩

theorem Agree.below {w w' : World} (h : Agree (fun _ => False) w w') : Below w.heap.size w w' :=
  ⟨h.3.1, h.3.2.1, h.3.2.2, h.1, fun k hk => h.2 k hk fun h => h⟩

theorem callsX_of {P : Program} {f : Nat} {args : Array Value} {w : World} {S : Ending → World → Prop} (hf : callFits P f = true) (h : Calls P f args w S) : CallsX P f args w S := by
  unfold CallsX
  rw [run_callFunc hf]
  exact h

theorem tabs_of_gok {B : Nat → Prop} {w : World} (h : GOk gl B w) : Lib.Utf8Tabs g_first g_accept w := by
  obtain ⟨_, _, vs, hr, hc⟩ := h g_first ((List.range 256).map fun c => AV.int .u8 (Lib.firstT c)) rfl
  obtain ⟨_, _, us, hr2, hc2⟩ := h g_accept ((List.range 32).map fun i => AV.int .u8 (bif Nat.beq (i % 2) 0 then Lib.accLo (i / 2) else Lib.accHi (i / 2))) rfl
  refine ⟨fun c hlt => ?_, fun i hi => ⟨?_, ?_⟩⟩
  · obtain ⟨v, hv, hrel⟩ := hr.get (i := c) (x := AV.int .u8 (Lib.firstT c)) (by simp [hlt])
    cases hrel
    exact hc c _ hv
  · obtain ⟨v, hv, hrel⟩ := hr2.get (i := 2 * i) (x := AV.int .u8 (Lib.accLo i)) (by
      have e1 : 2 * i % 2 = 0 := by omega
      have e2 : 2 * i / 2 = i := by omega
      have e3 : 2 * i < 32 := by omega
      rw [List.getElem?_map, List.getElem?_range e3]; simp only [Option.map_some, e1, e2]; rfl)
    cases hrel
    exact hc2 _ _ hv
  · obtain ⟨v, hv, hrel⟩ := hr2.get (i := 2 * i + 1) (x := AV.int .u8 (Lib.accHi i)) (by
      have e1 : (2 * i + 1) % 2 = 1 := by omega
      have e2 : (2 * i + 1) / 2 = i := by omega
      have e3 : 2 * i + 1 < 32 := by omega
      rw [List.getElem?_map, List.getElem?_range e3]; simp only [Option.map_some, e1, e2]; rfl)
    cases hrel
    exact hc2 _ _ hv

/-- A row of texts, as it lies. -/
theorem rel_strings {w : World} {B : Nat → Prop} {l : List (List UInt8)} {v : Value} (h : Rel w B (.row 1 (l.map AV.str)) v) : ∃ (a : Option Addr) (ss : List ByteArray) (c : Nat), v = .slice a ss.length c ∧ l = (ss.map fun s => s.data.toList) ∧ ss.length ≤ c ∧
    (0 < ss.length → ∃ b o, a = some ⟨b, o, none⟩ ∧ b < w.heap.size) ∧ ∀ (j : Nat) x, ss[j]? = some x → ∃ b o, a = some ⟨b, o, none⟩ ∧ w.cell? ⟨b, o + j, none⟩ = some (.string x) := by
  generalize hx : AV.row 1 (l.map AV.str) = r at h
  cases h with
  | rnil sz a cap =>
    simp only [AV.row.injEq, List.map_eq_nil_iff] at hx
    obtain ⟨_, rfl⟩ := hx
    exact ⟨a, [], cap, rfl, rfl, Nat.zero_le _, fun h => by simp at h, fun j x h => by simp at h⟩
  | row sz xs vs b o cap hb hB hc hz h1 hr hs =>
    simp only [AV.row.injEq] at hx
    obtain ⟨rfl, rfl⟩ := hx
    have key : ∀ (l : List (List UInt8)) (vs : List Value), RelL w B (flats (l.map AV.str)) vs → ∃ ss : List ByteArray, vs = ss.map Value.string ∧ l = ss.map fun s => s.data.toList := by
      intro l
      induction l with
      | nil => intro vs h; cases h; exact ⟨[], rfl, rfl⟩
      | cons s l ih =>
        intro vs h
        have h' : RelL w B (AV.str s :: flats (l.map AV.str)) vs := h
        cases h' with
        | cons _ v _ vs' h1 h2 =>
        obtain ⟨ss, rfl, rfl⟩ := ih vs' h2
        cases h1 with
        | str s => exact ⟨s :: ss, rfl, rfl⟩
    obtain ⟨ss, rfl, rfl⟩ := key l vs hr
    refine ⟨some ⟨b, o, none⟩, ss, cap, by simp, rfl, by simpa using hc, fun _ => ⟨b, o, rfl, hb⟩, fun j x hx => ⟨b, o, rfl, ?_⟩⟩
    exact hs j _ (by simp [hx])
  | _ => cases hx
theorem get_list (l : List UInt8) (i : Nat) : (⟨l.toArray⟩ : ByteArray).get! i = l.getD i 0 := by
  show l.toArray[i]! = _
  rw [List.getElem!_toArray]
  simp [List.getD, getElem!_def]
  cases l[i]? <;> rfl

theorem decodeGo_dec (l : List UInt8) : Lib.decodeGo ⟨l.toArray⟩ = dec l := by
  unfold Lib.decodeGo dec
  cases l with
  | nil => rfl
  | cons c s =>
    rw [if_neg (show ¬ (⟨(c :: s).toArray⟩ : ByteArray).size = 0 by show ¬ (c :: s).toArray.size = 0; simp), if_neg (fun h => by cases h), Lib.decode_at, get_list, get_list, get_list, get_list]
    rfl

theorem extraRepeat : Builder.Extra Tryd.prog Tryd.laysRepeat_ren := { sizeBuilder := by kernel_rfl, liesBuilder := by kernel_rfl, t5 := Tryd.underlying5, a5 := Tryd.isAgg5, z5 := Tryd.sizeOf5, v5 := Tryd.zeroValue5, infoByte := by kernel_rfl, cellsByte := by kernel_rfl, sizeByte := by kernel_rfl, neB5 := by decide }
theorem extraJoin : Builder.Extra Tryd.prog Tryd.laysJoin_ren := { sizeBuilder := by kernel_rfl, liesBuilder := by kernel_rfl, t5 := Tryd.underlying5, a5 := Tryd.isAgg5, z5 := Tryd.sizeOf5, v5 := Tryd.zeroValue5, infoByte := by kernel_rfl, cellsByte := by kernel_rfl, sizeByte := by kernel_rfl, neB5 := by decide }
/-- The machine's own entries, and the library's contracts, are what we say. -/
theorem X0_sound : RSound Tryd.prog gl X0 := by
  intro f vs r h Bo w args hG hBo hrel
  unfold X0 at h
  cases hf : Nat.beq f id_internalBytealgIndexByte
  case true =>
    rw [hf] at h
    simp only [cond_true] at h
    have e := Nat.eq_of_beq_eq_true hf
    subst e
    split at h
    case h_2 => cases h
    rename_i s n
    simp only [Option.some.injEq] at h
    subst h
    cases hrel with
    | cons _ v1 _ _ h1 ht =>
    cases ht with
    | cons _ v2 _ _ h2 ht =>
    cases ht
    cases h2
    have hcall : ∀ args : Array Value, (callFunc id_internalBytealgIndexByte args).run Tryd.prog w = ((Extern.BytealgIndexByte.indexByte args).run Tryd.prog w).andThen fun v w' => .ok (.value v) w' :=
      fun args => run_callFunc_extern Tryd.func26 (by kernel_rfl) (by kernel_rfl) (by kernel_rfl) (e := Extern.BytealgIndexByte.indexByte) (by kernel_rfl) args w
    have fin : (Extern.BytealgIndexByte.indexByte #[v1, .int .u8 n]).run Tryd.prog w = .ok (.int .i64 (Lib.indexByte s n.toNat.toUInt8)) w := by
      cases h1 with
      | bnil a cap =>
        cases a with
        | none => exact Lib.run_indexByteNil w 0 cap n
        | some x => exact Lib.run_indexByteString (P := Tryd.prog) .empty n w
      | bytes s b o cap hb hB hc hs =>
        have := Lib.run_indexByteSlice (P := Tryd.prog) w b o s.length cap (s.map fun b => (b.toNat : Int)) (by simp) (fun i hi => by
          rw [hs i s[i] (by simp [hi])]; simp [hi]) n
        rw [bytesOf_nums] at this
        exact this
    unfold CallsX
    rw [hcall, fin]
    exact ⟨_, rfl, Agree.refl _ _, .int _ _, fun h => by cases h⟩
  rw [hf] at h
  simp only [cond_false] at h
  clear hf
  cases hf : Nat.beq f id_unicodeUtf8DecodeRuneSlow
  case true =>
    rw [hf] at h
    simp only [cond_true] at h
    have e := Nat.eq_of_beq_eq_true hf
    subst e
    split at h
    case h_2 => cases h
    rename_i c s
    simp only [Option.some.injEq] at h
    subst h
    cases hrel with
    | cons _ v1 _ _ h1 ht =>
    cases ht
    generalize hl : c :: s = l at h1
    cases h1 with
    | bnil a cap => cases hl
    | bytes _ b o cap hb hB hc hs =>
    have hT : Lib.Utf8Tabs (Tryd.laysDec7_ren.g 2) (Tryd.laysDec7_ren.g 3) w := tabs_of_gok hG
    have hcon := Any7.utf8_decodeRuneSlow Tryd.laysDec7 ⟨l.toArray⟩ b o cap w hT (fun j hj => by
      have hj' : j < l.length := hj
      rw [get_list, hs j (l.getD j 0) (by simp [List.getD, hj'])])
    rw [decodeGo_dec] at hcon
    refine callsX_of (by kernel_rfl) (Calls.mono hcon fun e w' ⟨he, hb⟩ => ?_)
    have hag := Agree.of_below hb
    refine ⟨_, he, hag, ?_, fun h => by cases h⟩
    exact .tup _ [_, _] (.cons _ _ _ _ (.int _ _) (.cons _ _ _ _ (.int _ _) .nil))
  rw [hf] at h
  simp only [cond_false] at h
  clear hf
  cases hf : Nat.beq f id_stringsRepeat
  case true =>
    rw [hf] at h
    simp only [cond_true] at h
    have e := Nat.eq_of_beq_eq_true hf
    subst e
    split at h
    case h_2 => cases h
    rename_i s n
    by_cases hle : (decide (0 ≤ n) && decide (n ≤ 1000000) && decide (s.length ≤ 1000000)) = true
    · rw [hle] at h
      simp only [cond_true, Option.some.injEq] at h
      subst h
      simp only [Bool.and_eq_true, decide_eq_true_eq] at hle
      obtain ⟨m, rfl⟩ : ∃ m : Nat, n = m := ⟨n.toNat, by omega⟩
      cases hrel with
      | cons _ v1 _ _ h1 ht =>
      cases ht with
      | cons _ v2 _ _ h2 ht =>
      cases ht
      cases h2
      cases h1 with
      | str s =>
      have hs : s.size ≤ 1000000 := hle.2
      have hmul : s.size * m ≤ 1000000 * 1000000 := Nat.mul_le_mul hs (by omega)
      have hcon := Any.strings_Repeat Tryd.laysRepeat extraRepeat s m w (by omega) (by omega)
      refine callsX_of (by kernel_rfl) (Calls.mono hcon fun e w' ⟨he, hb⟩ => ?_)
      exact ⟨_, he, Agree.of_below hb, Rel.str ⟨(Lib.repeatL s.data.toList m).toArray⟩, fun h => by cases h⟩
    · rw [Bool.eq_false_iff.2 hle] at h; cases h
  rw [hf] at h
  simp only [cond_false] at h
  clear hf
  cases hf : Nat.beq f id_stringsJoin
  case true =>
    rw [hf] at h
    simp only [cond_true] at h
    have e := Nat.eq_of_beq_eq_true hf
    subst e
    split at h
    case h_2 => cases h
    rename_i xs sep
    rw [Option.bind_eq_some_iff] at h
    obtain ⟨l, hl, h⟩ := h
    have hxs := strsOf_some hl
    subst hxs
    by_cases hle : (decide (l.length ≤ 1000000) && decide ((Lib.join l sep).length ≤ 1000000000)) = true
    · rw [hle] at h
      simp only [cond_true, Option.some.injEq] at h
      subst h
      simp only [Bool.and_eq_true, decide_eq_true_eq] at hle
      cases hrel with
      | cons _ v1 _ _ h1 ht =>
      cases ht with
      | cons _ v2 _ _ h2 ht =>
      cases ht
      cases h2 with
      | str sep =>
      obtain ⟨a, ss, c, rfl, rfl, hc, hcells⟩ := rel_strings h1
      have hj : (ss.map fun s => s.data.toList) = ss.map (·.data.toList) := rfl
      have key : Calls Tryd.prog id_stringsJoin #[.slice a ss.length c, .string sep] w fun e w' => e = .returned (.string ⟨(Lib.join (ss.map (·.data.toList)) sep.data.toList).toArray⟩) ∧ Below w.heap.size w w' := by
        cases ss with
        | nil => exact (Any.strings_Join_none Tryd.laysJoin extraJoin a c sep w).mono fun e w' ⟨he, hw⟩ => ⟨he, hw ▸ Below.refl _ _⟩
        | cons x ss =>
          obtain ⟨b, o, rfl, hb⟩ := hcells.1 (by simp)
          refine Any.strings_Join Tryd.laysJoin extraJoin b o c (x :: ss) sep w (fun j x hx => ?_) hb (by simp only [List.length_map] at hle; omega) hc (by have := hle.2; omega)
          obtain ⟨b', o', e', h'⟩ := hcells.2 j x hx
          cases e'
          exact h'
      refine callsX_of (by kernel_rfl) (Calls.mono key fun e w' ⟨he, hb⟩ => ?_)
      exact ⟨_, he, Agree.of_below hb, Rel.str ⟨(Lib.join (ss.map (·.data.toList)) sep.data.toList).toArray⟩, fun h => by cases h⟩
    · rw [Bool.eq_false_iff.2 hle] at h; cases h
  rw [hf] at h
  simp only [cond_false] at h
  clear hf
  cases h

theorem D0_sound : RSound Tryd.prog gl D0 := den_sound (by kernel_rfl) X0_sound table_fit
end Vf
end Go.Proofs.YtpjpmfchcijikaaDoor
