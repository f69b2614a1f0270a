
/- What the machine answers by itself, or by the library's own text, is what we say: so what D answers is what calls come to. No condition. -/
import Derived.Test.YtmpjohnbddnehaaDoorVfKit
import Derived.Test.YtmpjohnbddnehaaDoorVfLay
import Derived.WalkKit
import Derived.ProofKit
import Derived.Laws.CopyOwn
import Derived.Laws.OwnMore
import Derived.Lib.Hide
import Derived.Lib.BytesEntry
import Derived.Laws.Externs
import Derived.Shelf.Spec.DecodeRune
import Derived.Below
import Derived.Shelf.Strings.OnBuilder
import Derived.Shelf.Unicode.ValidAny
namespace Go.Proofs.YtmpjohnbddnehaaDoor
open Go.RowKit Go.Lib
set_option linter.unusedVariables false
set_option linter.unusedSimpArgs false
theorem cellH {w : World} {b : Nat} {cs : Array Value} {T : TypeId} {fr : Nat × Nat} (h : w.heap[b]? = some (.cells cs T fr)) (j : Nat) : w.cell? ⟨b, j, none⟩ = cs[j]? := by simp [World.cell?, h]
theorem frozH {w : World} {b : Nat} {cs : Array Value} {T : TypeId} (h : w.heap[b]? = some (.cells cs T (0, 0))) (j : Nat) : w.frozen? ⟨b, j, none⟩ = false := by simp [World.frozen?, h]

/-- What Lend leaves. -/
def LentAt (w : World) (cs : List Value) (n : Nat) (e : Ending) (w' : World) : Prop :=
  e = .returned (.slice (some ⟨w.heap.size, 0, none⟩) n (n + 3)) ∧ Below w.heap.size w w' ∧ w.heap.size < w'.heap.size ∧ (∀ j v, cs[j]? = some v → w'.cell? ⟨w.heap.size, j, none⟩ = some v) ∧ ∀ j, j < 3 → w'.cell? ⟨w.heap.size, n + j, none⟩ = some (.int .u8 85)

theorem infoB : ∃ i z, Tryd.prog.info? 5 = some i ∧ i.zero = some z ∧ i.size = 1 ∧ i.bytes = 1 ∧ z.cells = #[Value.int .u8 0] :=
  ⟨Tryd.t5, .int .u8 0, by kernel_rfl, by kernel_rfl, by kernel_rfl, by kernel_rfl, rfl⟩

set_option maxRecDepth 100000 in
theorem lend0 (a : Option Addr) (n cap : Nat) (w : World) (cs : List Value) (hcl : cs.length = n) (h1 : ∀ v ∈ cs, v.oneCell' = true) (hsrc : 0 < cs.length → ∃ ad, a = some ad ∧ ad.block < w.heap.size ∧ ∀ j v, cs[j]? = some v → w.cell? (ad.add j) = some v) (hn : (n : Int) ≤ 1000000) : Calls Tryd.prog 38 #[.slice a n cap] w (LentAt w cs n) := by
  have e1 : IntKind.i64.wrap ((n : Int) + 3) = (n : Int) + 3 := by rw [IntKind.wrap_i64]; omega
  have hmk : ∀ W : World, (Instr.makeSlice 28 (.int .i64 n) (.int .i64 ((n : Int) + 3))).run Tryd.prog W = .ok (.slice (some ⟨W.heap.size, 0, none⟩) n (n + 3)) (W.alloc (.cells (List.replicate (n + 3) (.int .u8 0)).toArray 5)) := by
    intro W
    obtain ⟨i, z, hi, hz, hs, hb, hc⟩ := infoB
    have hr := run_make (P := Tryd.prog) W 28 5 i z Tryd.underlying28 hi hz .i64 .i64 n ((n : Int) + 3) (by omega) (by omega) (by rw [hb]; omega) (by omega)
    rw [hs, show ((n : Int) + 3).toNat = n + 3 by omega, Int.toNat_natCast, Nat.mul_one, hc] at hr
    have hm : madeCells #[Value.int .u8 0] (n + 3) = (List.replicate (n + 3) (Value.int .u8 0)).toArray := by
      apply Array.ext'; rw [toList_madeCells_one]
    rw [hm] at hr
    exact hr
  go_enter Tryd.func38, Tryd.ntmps38
  go_wp2_with (refine wpList_copy_splice rfl (.tmp 12) (.tmp 13) 28 28 rfl 5 Tryd.underlying28 (by kernel_rfl) _ _ _ _ _ _ rfl rfl w.heap.size 0 (List.replicate (n + 3) (.int .u8 0)) 5 ?hg cs ?hn ?hpos ?hfit h1 w.heap.size w ?hb (Nat.le_refl _) ?_; rotate_left; rotate_left; rotate_left; rotate_left; rotate_left; intro w' hg' hb')
  case hg => exact (Array.getElem?_push_size).trans (by simp)
  case hn => simp [hcl]
  case hpos =>
    intro h0
    obtain ⟨ad, rfl, hlt, hc⟩ := hsrc (by omega)
    refine ⟨ad, rfl, fun j v hj => ?_⟩
    rw [← hc j v hj]
    refine ((Below.refl w.heap.size w).alloc (Nat.le_refl _) _).cell (p := ad.add j) ?_
    unfold Addr.add; split <;> exact hlt
  case hfit => simp [hcl]
  case hb => exact (Below.refl _ _).alloc (Nat.le_refl _) _
  have hg2 := hg'.out
  have hsz : w.heap.size < w'.heap.size := Vf.lt_of_get hg2
  have hf : ∀ o, w'.frozen? ⟨w.heap.size, o, none⟩ = false := fun o => frozH hg2 o
  have hcell : ∀ j, j < 3 → w'.cell? ⟨w.heap.size, n + j, none⟩ = some (.int .u8 0) := fun j hj => by
    rw [cellH hg2, List.getElem?_toArray]; unfold splice
    simp only [List.take_zero, List.nil_append, hcl, Nat.zero_add, List.drop_replicate]
    rw [List.getElem?_append_right (by omega), List.getElem?_replicate, if_pos (by omega)]
  have hold : Hid (∀ j v, cs[j]? = some v → w'.cell? ⟨w.heap.size, j, none⟩ = some v) := fun j v hj => by
    rw [cellH hg2, List.getElem?_toArray]; unfold splice
    simp only [List.take_zero, List.nil_append]
    rw [List.getElem?_append_left (List.getElem?_eq_some_iff.1 hj).1]; exact hj
  have hc0 := hcell 0 (by omega)
  have hc1 := hcell 1 (by omega)
  have hc2 := hcell 2 (by omega)
  rw [Nat.add_zero] at hc0
  have e2 : IntKind.i64.wrap ((n : Int) + 1) = (n : Int) + 1 := by rw [IntKind.wrap_i64]; omega
  have e3 : IntKind.i64.wrap ((n : Int) + 1 + 1) = (n : Int) + 1 + 1 := by rw [IntKind.wrap_i64]; omega
  have e4 : IntKind.i64.wrap ((n : Int) + 1 + 1 + 1) = (n : Int) + 1 + 1 + 1 := by rw [IntKind.wrap_i64]; omega
  clear hg' hg2 hcell
  refine wp_loop_rounds 4 ?_
  rw [rounds_succ]
  go_wp2
  rw [rounds_succ]
  go_wp2
  rw [rounds_succ]
  go_wp2
  rw [rounds_succ]
  go_wp2
  go_ret
  have hn0 : ∀ k : Nat, ((n : Int) + (k : Nat)).toNat = n + k := fun k => by omega
  have f1 : ∀ W : World, ∀ j v, (W.cell? ⟨w.heap.size, j, none⟩).isSome = true → (W.setCell ⟨w.heap.size, j, none⟩ v).cell? ⟨w.heap.size, j, none⟩ = some v := fun W j v h => World.cell?_setCell_same' W _ v h
  have f2 : ∀ (W : World) (j k : Nat) v, j ≠ k → (W.setCell ⟨w.heap.size, j, none⟩ v).cell? ⟨w.heap.size, k, none⟩ = W.cell? ⟨w.heap.size, k, none⟩ := fun W j k v h => World.cell?_setCell_other _ _ _ _ (by intro e; exact h (by injection e))
  have hold2 := hold.out
  have x1 : ((n : Int) + 1).toNat = n + 1 := by omega
  have x2 : ((n : Int) + 1 + 1).toNat = n + 2 := by omega
  refine ⟨rfl, ((hb'.setCell (Nat.le_refl _) _).setCell (Nat.le_refl _) _).setCell (Nat.le_refl _) _, ?_, fun j v hj => ?_, fun j hj => ?_⟩
  · simpa [World.setCell] using hsz
  · have hjl : j < n := by have := (List.getElem?_eq_some_iff.1 hj).1; omega
    rw [f2 _ _ _ _ (by omega), f2 _ _ _ _ (by omega), f2 _ _ _ _ (by omega)]
    exact hold2 j v hj
  · match j, hj with
    | 0, _ =>
      rw [Nat.add_zero, f2 _ _ _ _ (by omega), f2 _ _ _ _ (by omega)]
      exact f1 _ _ _ (by rw [hc0]; rfl)
    | 1, _ =>
      rw [f2 _ _ _ _ (by omega)]
      exact f1 _ _ _ (by rw [f2 _ _ _ _ (by omega), hc1]; rfl)
    | 2, _ =>
      exact f1 _ _ _ (by rw [f2 _ _ _ _ (by omega), f2 _ _ _ _ (by omega), hc2]; rfl)
namespace Vf

theorem bytesOf_nums (s : List UInt8) : Lib.bytesOf (s.map fun b => (b.toNat : Int)) = s := by
  unfold Lib.bytesOf
  rw [List.map_map]
  have : ((fun n : Int => UInt8.ofNat n.toNat) ∘ fun b : UInt8 => (b.toNat : Int)) = id := by funext b; simp
  rw [this, List.map_id]

theorem Agree.of_below {w w' : World} (h : Below w.heap.size w w') : Agree (fun _ => False) w w' := by
  obtain ⟨h1, h2, h3, h4, h5⟩ := h
  exact ⟨h4, fun b hb _ => h5 b hb, ⟨h1, h2, h3⟩⟩

theorem Agree.below {w w' : World} (h : Agree (fun _ => False) w w') : Below w.heap.size w w' :=
  ⟨h.3.1, h.3.2.1, h.3.2.2, h.1, fun k hk => h.2 k hk fun h => h⟩

theorem callsX_of {P : Program} {f : Nat} {args : Array Value} {w : World} {S : Ending → World → Prop} (hf : callFits P f = true) (h : Calls P f args w S) : CallsX P f args w S := by
  unfold CallsX
  rw [run_callFunc hf]
  exact h

theorem tabs_of_gok {B : Nat → Prop} {w : World} (h : GOk gl B w) : Lib.Utf8Tabs g_first g_accept w := by
  obtain ⟨_, _, _, vs, hr, hc⟩ := h g_first ((List.range 256).map fun c => AV.int .u8 (Lib.firstT c)) rfl
  obtain ⟨_, _, _, us, hr2, hc2⟩ := h g_accept ((List.range 32).map fun i => AV.int .u8 (bif Nat.beq (i % 2) 0 then Lib.accLo (i / 2) else Lib.accHi (i / 2))) rfl
  refine ⟨fun c hlt => ?_, fun i hi => ⟨?_, ?_⟩⟩
  · obtain ⟨v, hv, hrel⟩ := hr.get (i := c) (x := AV.int .u8 (Lib.firstT c)) (by simp [hlt])
    cases hrel
    exact hc c _ hv
  · obtain ⟨v, hv, hrel⟩ := hr2.get (i := 2 * i) (x := AV.int .u8 (Lib.accLo i)) (by
      have e1 : 2 * i % 2 = 0 := by omega
      have e2 : 2 * i / 2 = i := by omega
      have e3 : 2 * i < 32 := by omega
      rw [List.getElem?_map, List.getElem?_range e3]; simp only [Option.map_some, e1, e2]; rfl)
    cases hrel
    exact hc2 _ _ hv
  · obtain ⟨v, hv, hrel⟩ := hr2.get (i := 2 * i + 1) (x := AV.int .u8 (Lib.accHi i)) (by
      have e1 : (2 * i + 1) % 2 = 1 := by omega
      have e2 : (2 * i + 1) / 2 = i := by omega
      have e3 : 2 * i + 1 < 32 := by omega
      rw [List.getElem?_map, List.getElem?_range e3]; simp only [Option.map_some, e1, e2]; rfl)
    cases hrel
    exact hc2 _ _ hv

/-- A row of texts, as it lies. -/
theorem rel_strings {w : World} {B : Nat → Prop} {l : List (List UInt8)} {v : Value} (h : Rel w B (.row 1 (l.map AV.str)) v) : ∃ (a : Option Addr) (ss : List ByteArray) (c : Nat), v = .slice a ss.length c ∧ l = (ss.map fun s => s.data.toList) ∧ ss.length ≤ c ∧
    (0 < ss.length → ∃ b o, a = some ⟨b, o, none⟩ ∧ b < w.heap.size) ∧ ∀ (j : Nat) x, ss[j]? = some x → ∃ b o, a = some ⟨b, o, none⟩ ∧ w.cell? ⟨b, o + j, none⟩ = some (.string x) := by
  generalize hx : AV.row 1 (l.map AV.str) = r at h
  cases h with
  | rnil sz a cap =>
    simp only [AV.row.injEq, List.map_eq_nil_iff] at hx
    obtain ⟨_, rfl⟩ := hx
    exact ⟨a, [], cap, rfl, rfl, Nat.zero_le _, fun h => by simp at h, fun j x h => by simp at h⟩
  | row sz xs vs b o cap hb hB hc hz h1 hr hs =>
    simp only [AV.row.injEq] at hx
    obtain ⟨rfl, rfl⟩ := hx
    have key : ∀ (l : List (List UInt8)) (vs : List Value), RelL w B (flats (l.map AV.str)) vs → ∃ ss : List ByteArray, vs = ss.map Value.string ∧ l = ss.map fun s => s.data.toList := by
      intro l
      induction l with
      | nil => intro vs h; cases h; exact ⟨[], rfl, rfl⟩
      | cons s l ih =>
        intro vs h
        have h' : RelL w B (AV.str s :: flats (l.map AV.str)) vs := h
        cases h' with
        | cons _ v _ vs' h1 h2 =>
        obtain ⟨ss, rfl, rfl⟩ := ih vs' h2
        cases h1 with
        | str s => exact ⟨s :: ss, rfl, rfl⟩
    obtain ⟨ss, rfl, rfl⟩ := key l vs hr
    refine ⟨some ⟨b, o, none⟩, ss, cap, by simp, rfl, by simpa using hc, fun _ => ⟨b, o, rfl, hb⟩, fun j x hx => ⟨b, o, rfl, ?_⟩⟩
    exact hs j _ (by simp [hx])
  | _ => cases hx
theorem get_list (l : List UInt8) (i : Nat) : (⟨l.toArray⟩ : ByteArray).get! i = l.getD i 0 := by
  show l.toArray[i]! = _
  rw [List.getElem!_toArray]
  simp [List.getD, getElem!_def]
  cases l[i]? <;> rfl

theorem decodeGo_dec (l : List UInt8) : Lib.decodeGo ⟨l.toArray⟩ = dec l := by
  unfold Lib.decodeGo dec
  cases l with
  | nil => rfl
  | cons c s =>
    rw [if_neg (show ¬ (⟨(c :: s).toArray⟩ : ByteArray).size = 0 by show ¬ (c :: s).toArray.size = 0; simp), if_neg (fun h => by cases h), Lib.decode_at, get_list, get_list, get_list, get_list]
    rfl

theorem extraJoin : Builder.Extra Tryd.prog Tryd.laysJoin_ren := { sizeBuilder := by kernel_rfl, liesBuilder := by kernel_rfl, t5 := Tryd.underlying5, a5 := Tryd.isAgg5, z5 := Tryd.sizeOf5, v5 := Tryd.zeroValue5, infoByte := by kernel_rfl, cellsByte := by kernel_rfl, sizeByte := by kernel_rfl, neB5 := by decide }
set_option maxHeartbeats 1000000 in
set_option maxRecDepth 100000 in
/-- The machine's own entries, and the library's contracts, are what we say. -/
theorem X0_sound : RSound0 Tryd.prog gl X0 := by
  intro f vs r h Bo w args hG hBo hrel
  unfold X0 at h
  cases hf : Nat.beq f id_internalBytealgIndexByte
  case true =>
    rw [hf] at h
    simp only [cond_true] at h
    have e := Nat.eq_of_beq_eq_true hf
    subst e
    split at h
    case h_2 => cases h
    rename_i s n
    simp only [Option.some.injEq] at h
    subst h
    cases hrel with
    | cons _ v1 _ _ h1 ht =>
    cases ht with
    | cons _ v2 _ _ h2 ht =>
    cases ht
    cases h2
    have hcall : ∀ args : Array Value, (callFunc id_internalBytealgIndexByte args).run Tryd.prog w = ((Extern.BytealgIndexByte.indexByte args).run Tryd.prog w).andThen fun v w' => .ok (.value v) w' :=
      fun args => run_callFunc_extern Tryd.func69 (by kernel_rfl) (by kernel_rfl) (by kernel_rfl) (e := Extern.BytealgIndexByte.indexByte) (by kernel_rfl) args w
    have fin : (Extern.BytealgIndexByte.indexByte #[v1, .int .u8 n]).run Tryd.prog w = .ok (.int .i64 (Lib.indexByte s n.toNat.toUInt8)) w := by
      cases h1 with
      | bnil a cap =>
        cases a with
        | none => exact Lib.run_indexByteNil w 0 cap n
        | some x => exact Lib.run_indexByteString (P := Tryd.prog) .empty n w
      | bytes s b o cap hb hB hc hs =>
        have := Lib.run_indexByteSlice (P := Tryd.prog) w b o s.length cap (s.map fun b => (b.toNat : Int)) (by simp) (fun i hi => by
          rw [hs i s[i] (by simp [hi])]; simp [hi]) n
        rw [bytesOf_nums] at this
        exact this
    unfold CallsX
    rw [hcall, fin]
    exact ⟨_, rfl, Agree.refl _ _, .int _ _, fun h => by cases h⟩
  rw [hf] at h
  simp only [cond_false] at h
  clear hf
  cases hf : Nat.beq f id_unicodeUtf8DecodeRuneSlow
  case true =>
    rw [hf] at h
    simp only [cond_true] at h
    have e := Nat.eq_of_beq_eq_true hf
    subst e
    split at h
    case h_2 => cases h
    rename_i c s
    simp only [Option.some.injEq] at h
    subst h
    cases hrel with
    | cons _ v1 _ _ h1 ht =>
    cases ht
    generalize hl : c :: s = l at h1
    cases h1 with
    | bnil a cap => cases hl
    | bytes _ b o cap hb hB hc hs =>
    have hT : Lib.Utf8Tabs (Tryd.laysDec7_ren.g 2) (Tryd.laysDec7_ren.g 3) w := tabs_of_gok hG
    have hcon := Any7.utf8_decodeRuneSlow Tryd.laysDec7 ⟨l.toArray⟩ b o cap w hT (fun j hj => by
      have hj' : j < l.length := hj
      rw [get_list, hs j (l.getD j 0) (by simp [List.getD, hj'])])
    rw [decodeGo_dec] at hcon
    refine callsX_of (by kernel_rfl) (Calls.mono hcon fun e w' ⟨he, hb⟩ => ?_)
    have hag := Agree.of_below hb
    refine ⟨_, he, hag, ?_, fun h => by cases h⟩
    exact .tup _ [_, _] (.cons _ _ _ _ (.int _ _) (.cons _ _ _ _ (.int _ _) .nil))
  rw [hf] at h
  simp only [cond_false] at h
  clear hf
  cases hf : Nat.beq f id_keepLend
  case true =>
    rw [hf] at h
    simp only [cond_true] at h
    have e := Nat.eq_of_beq_eq_true hf
    subst e
    split at h
    case h_2 => cases h
    rename_i s
    by_cases hle : s.length ≤ 1000000
    · rw [cond_d hle] at h
      simp only [Option.some.injEq] at h
      subst h
      cases hrel with
      | cons _ v1 _ _ h1 ht =>
      cases ht
      have key : Calls Tryd.prog id_keepLend #[v1] w (LentAt w (s.map fun b => Value.int .u8 b.toNat) s.length) := by
        cases h1 with
        | bnil a cap => exact lend0 a 0 cap w [] rfl (fun v hv => by cases hv) (fun h => by simp at h) (by omega)
        | bytes s b o cap hb hB hc hs =>
          refine lend0 (some ⟨b, o, none⟩) s.length cap w _ (by simp) (fun v hv => ?_) (fun _ => ⟨_, rfl, hb, fun j v hj => ?_⟩) (by omega)
          · simp only [List.mem_map] at hv; obtain ⟨_, _, rfl⟩ := hv; rfl
          · simp only [List.getElem?_map, Option.map_eq_some_iff] at hj
            obtain ⟨y, hy, rfl⟩ := hj
            rw [Addr.add_mk]; exact hs j y hy
      refine callsX_of (by kernel_rfl) (key.mono fun e w' ⟨he, hb, hlt, hc, h85⟩ => ?_)
      refine ⟨_, he, Agree.of_below hb, ?_, fun h => by cases h⟩
      refine .lent s w.heap.size 0 hlt (fun h => Nat.lt_irrefl _ (hBo _ h)) fun j x hj => ?_
      rw [Nat.zero_add]
      by_cases hjl : j < s.length
      · rw [List.getElem?_append_left hjl] at hj
        exact hc j _ (by simp [hj])
      · have hlt3 := (List.getElem?_eq_some_iff.1 hj).1
        simp only [List.length_append, List.length_cons, List.length_nil] at hlt3
        rw [List.getElem?_append_right (by omega)] at hj
        have h85j := h85 (j - s.length) (by omega)
        rw [show s.length + (j - s.length) = j by omega] at h85j
        rw [h85j]
        have hx : x = 85 := by
          match hk : j - s.length, (show j - s.length < 3 by omega) with
          | 0, _ => rw [hk] at hj; simpa using hj.symm
          | 1, _ => rw [hk] at hj; simpa using hj.symm
          | 2, _ => rw [hk] at hj; simpa using hj.symm
        rw [hx]; rfl
    · rw [cond_nd hle] at h; cases h
  rw [hf] at h
  simp only [cond_false] at h
  clear hf
  cases hf : Nat.beq f id_stringsJoin
  case true =>
    rw [hf] at h
    simp only [cond_true] at h
    have e := Nat.eq_of_beq_eq_true hf
    subst e
    split at h
    case h_2 => cases h
    rename_i xs sep
    rw [Option.bind_eq_some_iff] at h
    obtain ⟨l, hl, h⟩ := h
    have hxs := strsOf_some hl
    subst hxs
    by_cases hle : (decide (l.length ≤ 1000000) && decide ((Lib.join l sep).length ≤ 1000000000)) = true
    · rw [hle] at h
      simp only [cond_true, Option.some.injEq] at h
      subst h
      simp only [Bool.and_eq_true, decide_eq_true_eq] at hle
      cases hrel with
      | cons _ v1 _ _ h1 ht =>
      cases ht with
      | cons _ v2 _ _ h2 ht =>
      cases ht
      cases h2 with
      | str sep =>
      obtain ⟨a, ss, c, rfl, rfl, hc, hcells⟩ := rel_strings h1
      have hj : (ss.map fun s => s.data.toList) = ss.map (·.data.toList) := rfl
      have key : Calls Tryd.prog id_stringsJoin #[.slice a ss.length c, .string sep] w fun e w' => e = .returned (.string ⟨(Lib.join (ss.map (·.data.toList)) sep.data.toList).toArray⟩) ∧ Below w.heap.size w w' := by
        cases ss with
        | nil => exact (Any.strings_Join_none Tryd.laysJoin extraJoin a c sep w).mono fun e w' ⟨he, hw⟩ => ⟨he, hw ▸ Below.refl _ _⟩
        | cons x ss =>
          obtain ⟨b, o, rfl, hb⟩ := hcells.1 (by simp)
          refine Any.strings_Join Tryd.laysJoin extraJoin b o c (x :: ss) sep w (fun j x hx => ?_) hb (by simp only [List.length_map] at hle; omega) hc (by have := hle.2; omega)
          obtain ⟨b', o', e', h'⟩ := hcells.2 j x hx
          cases e'
          exact h'
      refine callsX_of (by kernel_rfl) (Calls.mono key fun e w' ⟨he, hb⟩ => ?_)
      exact ⟨_, he, Agree.of_below hb, Rel.str ⟨(Lib.join (ss.map (·.data.toList)) sep.data.toList).toArray⟩, fun h => by cases h⟩
    · rw [Bool.eq_false_iff.2 hle] at h; cases h
  rw [hf] at h
  simp only [cond_false] at h
  clear hf
  cases hf : Nat.beq f id_unicodeUtf8ValidString
  case true =>
    rw [hf] at h
    simp only [cond_true] at h
    have e := Nat.eq_of_beq_eq_true hf
    subst e
    split at h
    case h_2 => cases h
    rename_i s
    by_cases hle : s.length ≤ 1000000000
    · rw [cond_d hle] at h
      simp only [Option.some.injEq] at h
      subst h
      cases hrel with
      | cons _ v1 _ _ h1 ht =>
      cases ht
      cases h1 with
      | str s =>
      have e1 : s.size ≤ 1000000000 := hle
      have hT : Lib.Utf8Tabs (Tryd.laysValid_ren.g 3) (Tryd.laysValid_ren.g 4) w := tabs_of_gok hG
      have hcon := Any.utf8_ValidString Tryd.laysValid s w (by omega) hT
      refine callsX_of (by kernel_rfl) (Calls.mono hcon fun e w' ⟨he, hb⟩ => ?_)
      exact ⟨_, he, Agree.of_below hb, .bool _, fun h => by cases h⟩
    · rw [cond_nd hle] at h; cases h
  rw [hf] at h
  simp only [cond_false] at h
  clear hf
  cases h

set_option maxRecDepth 100000 in
theorem D0_sound : RSound0 Tryd.prog gl D0 := (den_sound (by kernel_rfl) X0_sound.up table_fit).plain
end Vf
end Go.Proofs.YtmpjohnbddnehaaDoor
