
/- What the folding of rows comes to: a walk over its builder. No condition but sizes. -/
import Derived.Test.YtpjpmfchcijikaaDoorVfSound
import Derived.Shelf.Strings.BuilderK
import Derived.BigCall
namespace Go.Proofs.YtpjpmfchcijikaaDoor
open Go.RowKit
set_option linter.unusedVariables false
set_option linter.unusedSimpArgs false

theorem Vf.D0_inner (s : List UInt8) : Vf.D0 Vf.id_foldInner [.str s] = some ⟨.bool (Vf.innerL s), false, []⟩ := by
  refine Vf.den_fn (N := 0) (F := Vf.foldInner) rfl rfl ?_
  rw [Vf.foldInner_eq]
  show Vf.foldInnerr Vf.D0 0 s = _
  unfold Vf.foldInnerr Vf.innerL
  cases s with
  | nil => rfl
  | cons c s =>
    have e : ((c :: s) == ([] : List UInt8)) = false := rfl
    rw [e]
    simp only [Bool.not_false, cond_true, Bool.true_and, Vf.need_d (show (0 : Int) ≤ 0 by omega), show Int.toNat 0 = 0 from rfl, List.getElem?_cons_zero, Option.bind_some, List.getD_cons_zero]
    by_cases h : c.toNat = 32
    · rw [Vf.cond_eq (by omega), decide_eq_true h]; rfl
    · rw [Vf.cond_ne (by omega), decide_eq_false h]
      by_cases h9 : c.toNat = 9
      · rw [decide_eq_true h9, beq_iff_eq.2 (show (c.toNat : Int) = 9 by omega)]; rfl
      · rw [decide_eq_false h9, beq_false_of_ne (show (c.toNat : Int) ≠ 9 by omega)]; rfl

theorem Vf.D0_repeat (n : Nat) (h : n ≤ 1000000) : Vf.D0 Vf.id_stringsRepeat [.str [10], .int .i64 n] = some ⟨.str (List.replicate n 10), false, []⟩ := by
  refine Vf.den_ext ?_
  have e : Lib.repeatL [10] n = List.replicate n 10 := by
    induction n with
    | zero => rfl
    | succ n ih => rw [List.replicate_succ, ← ih (by omega)]; rfl
  have e2 : (decide ((0 : Int) ≤ n) && decide ((n : Int) ≤ 1000000) && decide (([10] : List UInt8).length ≤ 1000000)) = true := by simp; omega
  show (bif decide ((0 : Int) ≤ n) && decide ((n : Int) ≤ 1000000) && decide (([10] : List UInt8).length ≤ 1000000) then some (⟨.str (Lib.repeatL [10] (n : Int).toNat), false, []⟩ : Vf.Res) else none) = _
  rw [e2, Int.toNat_natCast, e]; rfl

theorem Vf.D0_between (a b : List UInt8) (e : Nat) (he : e ≤ 999999) : Vf.D0 Vf.id_foldBetween [.str a, .str b, .int .i64 e] = some ⟨.str (Vf.betweenL a b e), false, []⟩ := by
  refine Vf.den_fn (N := 0) (F := Vf.foldBetween) rfl rfl ?_
  rw [Vf.foldBetween_eq]
  show Vf.foldBetweenr Vf.D0 0 a b e = _
  unfold Vf.foldBetweenr Vf.betweenL
  rw [Vf.D0_inner, Vf.D0_inner, Vf.wrap_i64 (by omega) (by omega), show (e : Int) + 1 = ((e + 1 : Nat) : Int) by omega, Vf.D0_repeat (e + 1) (by omega), Vf.D0_repeat e (by omega)]
  simp only [Option.bind_some, Vf.asB_b, Vf.asS_s]
  cases Vf.innerL a
  · cases Vf.innerL b
    · by_cases h0 : e = 0
      · subst h0; rfl
      · simp only [cond_false, Bool.false_eq_true, or_self, if_false, if_neg h0]
        rw [Vf.cond_ne (by omega)]
    · simp
  · simp

theorem Vf.foldGo_len : ∀ (r : List (List UInt8)) (last : List UInt8) (e : Nat), (Vf.foldGo last e r).length ≤ e + 2 * r.length + (r.map List.length).sum
  | [], last, e => by simp [Vf.foldGo]
  | s :: r, last, e => by
    simp only [Vf.foldGo]
    split
    · have := Vf.foldGo_len r last (e + 1)
      rename_i h; subst h
      simp only [List.length_cons, List.map_cons, List.length_nil, List.sum_cons]; omega
    · have := Vf.foldGo_len r s 0
      simp only [List.length_append, List.length_cons, List.map_cons, List.sum_cons]
      split
      · simp only [List.length_replicate]; omega
      · have : (Vf.betweenL last s e).length ≤ e + 1 := by
          unfold Vf.betweenL; split
          · simp
          · split
            · simp
            · simp
        omega

/-- A builder stands, where its own blocks stand. -/
theorem builder_kept {T e : TypeId} {B b : Nat} {bs : List Value} {w w' : World} (h : Lib.IsBuilderF T e B b bs w) (hk : Below w.heap.size w w') : Lib.IsBuilderF T e B b bs w' := by
  have at_ : ∀ p, Lib.BuilderAtF T e B b p bs w → Lib.BuilderAtF T e B b p bs w' := by
    intro p ⟨hB, v, hb, hown, hne⟩
    have lt : ∀ {k o}, w.heap[k]? = some o → w'.heap[k]? = some o := fun {k o} hk' => by rw [hk.block k (Vf.lt_of_get hk')]; exact hk'
    refine ⟨hB, v, lt hb, ⟨hown.1, ?_⟩, hne⟩
    rcases hown.2 with h | ⟨g, cap, cur, fz, h1, h2, h3, h4⟩
    · exact .inl h
    · exact .inr ⟨g, cap, cur, fz, h1, h2, lt h3, h4⟩
  exact h.imp (at_ _) (at_ _)

theorem ws_calls (B b : Nat) (bs : List Value) (s : ByteArray) (w : World) (h : Lib.IsBuilderF 70 5 B b bs w) (hlen : bs.length + s.size ≤ 140737488355328) (hBw : B ≤ w.heap.size) :
    Calls Tryd.prog 37 #[.pointer (some ⟨b, 0, none⟩), .string s] w fun e w' => e = .returned (.tuple #[.int .i64 s.size, .nilIface]) ∧ (Lib.BuilderAtF 70 5 B b (.pointer (some ⟨b, 0, none⟩)) (bs ++ Lib.strCells s) w' ∧ Below B w w' ∧ Lib.OthersKept 5 (some b) w w') :=
  Any.Builder_WriteString_k { Tryd.laysJoin with } Vf.extraJoin B b bs s w h hlen hBw

theorem between_calls {Bo : Nat → Prop} (a b : ByteArray) (e : Nat) (he : e ≤ 999999) (w : World) (hG : Vf.GOk Vf.gl Bo w) (hBo : ∀ b, Bo b → b < w.heap.size) :
    Calls Tryd.prog 40 #[.string a, .string b, .int .i64 e] w fun r w' => ∃ s : ByteArray, r = .returned (.string s) ∧ s.data.toList = Vf.betweenL a.data.toList b.data.toList e ∧ Below w.heap.size w w' := by
  have := Vf.D0_sound Vf.id_foldBetween _ _ (Vf.D0_between a.data.toList b.data.toList e he) Bo w [.string a, .string b, .int .i64 e] hG hBo (.cons _ _ _ _ (.str a) (.cons _ _ _ _ (.str b) (.cons _ _ _ _ (.int _ _) .nil)))
  unfold Vf.CallsX at this
  rw [Vf.run_callFunc (by kernel_rfl)] at this
  refine this.mono fun r w' ⟨v, h1, h2, h3, _⟩ => ?_
  generalize hx : Vf.AV.str (Vf.betweenL a.data.toList b.data.toList e) = q at h3
  cases h3 with
  | str s =>
    simp only [Vf.AV.str.injEq] at hx
    exact ⟨s, h1, hx.symm, Vf.Agree.below h2⟩
  | _ => cases hx

theorem repeat_calls (n : Nat) (h : n ≤ 1000000) (w : World) : Calls Tryd.prog 27 #[.string ⟨#[10]⟩, .int .i64 n] w fun r w' => ∃ s : ByteArray, r = .returned (.string s) ∧ s.data.toList = List.replicate n (10 : UInt8) ∧ Below w.heap.size w w' := by
  have e : Lib.repeatL (⟨#[10]⟩ : ByteArray).data.toList n = List.replicate n 10 := by
    show Lib.repeatL [10] n = _
    clear h
    induction n with
    | zero => rfl
    | succ n ih => rw [List.replicate_succ, ← ih]; rfl
  have := Any.strings_Repeat Tryd.laysRepeat Vf.extraRepeat ⟨#[10]⟩ n w (by omega) (by show 1 * n ≤ _; omega)
  rw [e] at this
  exact this.mono fun r w' ⟨h1, h2⟩ => ⟨_, h1, rfl, h2⟩

set_option maxRecDepth 1000000 in
theorem folded_nil (a : Option Addr) (c : Nat) (w : World) : Calls Tryd.prog 28 #[.slice a 0 c] w fun e w' => e = .returned (.string ⟨#[]⟩) ∧ Below w.heap.size w w' := by
  go_enter Tryd.func28, Tryd.ntmps28
  go_wp2
  refine wp_loop_rounds 1 ?_
  rw [rounds_succ]
  go_wp2_with (go_at_call 39; refine (Any.Builder_String_any_k { Tryd.laysJoin with } Vf.extraJoin w.heap.size w.heap.size [] _ (Lib.IsBuilderF.of (Lib.fresh_isBuilder 70 5 w)) (by simp)).mono ?_; rintro r1 W1 ⟨rfl, _, b1, _⟩)
  go_wp2
  go_ret
  exact ⟨rfl, ((Below.refl _ w).alloc (Nat.le_refl _) _).trans b1⟩

theorem sum_mem : ∀ (l : List (List UInt8)) (y : List UInt8), y ∈ l → y.length ≤ (l.map List.length).sum
  | [], y, h => by cases h
  | a :: l, y, h => by
    simp only [List.map_cons, List.sum_cons]
    rcases List.mem_cons.1 h with rfl | h
    · omega
    · have := sum_mem l y h; omega

theorem hidF {p : Prop} (h : p) : Hid p := h

/-- What is known at the beginning of a round. -/
structure AtRound (w : World) (ss : List ByteArray) (k e : Nat) (last : ByteArray) (acc : List UInt8) (wr : World) : Prop where
  ek : e ≤ k
  b : Lib.IsBuilderF 70 5 w.heap.size w.heap.size (Lib.byteCells acc) wr
  bw : Below w.heap.size w wr
  ac : acc ++ Vf.foldGo last.data.toList e ((ss.drop k).map fun s => s.data.toList) = Vf.foldGo [] 0 (ss.map fun s => s.data.toList)
  len : acc.length ≤ 2000000
  sz : w.heap.size ≤ wr.heap.size

set_option maxHeartbeats 4000000 in
set_option maxRecDepth 1000000 in
theorem folded_walk0 (b o c : Nat) (ss : List ByteArray) (w : World) (hb : b < w.heap.size) (hcells : ∀ (j : Nat) x, ss[j]? = some x → w.cell? ⟨b, o + j, none⟩ = some (.string x)) (hsz : ((ss.map fun s => s.data.toList).map List.length).sum + ss.length ≤ 1000000) {Bo : Nat → Prop} (hG : Vf.GOk Vf.gl Bo w) (hBo : ∀ b, Bo b → b < w.heap.size) :
    Calls Tryd.prog 28 #[.slice (some ⟨b, o, none⟩) ss.length c] w fun e w' => e = .returned (.string ⟨(Vf.foldGo [] 0 (ss.map fun s => s.data.toList)).toArray⟩) ∧ Below w.heap.size w w' := by
  have hlen : ss.length ≤ 1000000 := by omega
  have hper : ∀ (j : Nat) (x : ByteArray), ss[j]? = some x → x.data.toList.length ≤ 1000000 := fun j x hx => by
    have := sum_mem (ss.map fun s => s.data.toList) x.data.toList (List.mem_map.2 ⟨x, List.mem_of_getElem? hx, rfl⟩)
    omega
  have htot : ∀ acc : List UInt8, ∀ r, acc ++ r = Vf.foldGo [] 0 (ss.map fun s => s.data.toList) → acc.length ≤ 2000000 := fun acc r h => by
    have := Vf.foldGo_len (ss.map fun s => s.data.toList) [] 0
    rw [← h] at this
    simp only [List.length_append, List.length_map] at this
    omega
  have Hc := hidF hcells; have Hs := hidF hsz; have HG := hidF hG; have HB := hidF hBo; have Hp := hidF hper; have Ht := hidF htot
  clear hcells hsz hG hBo hper htot
  go_enter Tryd.func28, Tryd.ntmps28
  go_wp2
  go_loopw [4, 5, 10] (fun v4 v5 v10 wr => ∃ (k e : Nat) (last : ByteArray) (acc : List UInt8), k ≤ ss.length ∧ v10 = .int .i64 k ∧ v4 = .string last ∧ v5 = .int .i64 e ∧ Hid (AtRound w ss k e last acc wr)) (fun _ _ v10 _ => ss.length - (intOf v10).toNat)
  case atStart => exact ⟨0, 0, ⟨#[]⟩, [], Nat.zero_le _, rfl, rfl, rfl, ⟨Nat.le_refl _, Lib.IsBuilderF.of (Lib.fresh_isBuilder 70 5 w), (Below.refl _ _).alloc (Nat.le_refl _) _, rfl, by simp, by simp⟩⟩
  case round =>
    obtain ⟨k, e, last, acc, hk, rfl, rfl, rfl, HI⟩ := hrel
    by_cases hk2 : k < ss.length
    · obtain ⟨x, hx⟩ : ∃ x, ss[k]? = some x := ⟨ss[k], List.getElem?_eq_getElem hk2⟩
      have hcx : wr.cell? ⟨b, o + k, none⟩ = some (.string x) := (HI.out.bw.cell hb).trans (Hc.out k x hx)
      have hd : ss.drop k = x :: ss.drop (k + 1) := by
        rw [List.drop_eq_getElem_cons hk2, (List.getElem?_eq_some_iff.1 hx).2]
      have Hd := hidF hd; have Hx := hidF hx
      have he : e ≤ 999999 := by have := HI.out.ek; omega
      clear hd hx
      by_cases hx0 : x = ⟨#[]⟩
      · subst hx0
        go_wp2
        go_roundw
        case rel =>
          refine ⟨k + 1, e + 1, last, acc, by omega, by go_num, rfl, by go_num, ⟨by have := HI.out.ek; omega, HI.out.b, HI.out.bw, ?_, HI.out.len, HI.out.sz⟩⟩
          rw [← HI.out.ac, Hd.out]
          rfl
        case measure => simp [intOf]; omega
      · have hxn : ¬ x.data.toList = [] := fun h => hx0 (by cases x; simp at h; subst h; rfl)
        have hxe : x.toList.isEmpty = false := by
          rw [ByteArray.toList_eq]; cases hl : x.data.toList with | nil => exact absurd hl hxn | cons _ _ => rfl
        have Hxn := hidF hxn
        have Hxl : Hid (x.size ≤ 1000000) := by
          have := Hp.out k x Hx.out
          have e : x.size = x.data.toList.length := Array.length_toList.symm
          show x.size ≤ 1000000
          omega
        clear hxn hx0
        -- what is written ahead of it, and itself
        have fin : ∀ (y : ByteArray) (W1 : World), Hid (Below wr.heap.size wr W1) → Hid (y.data.toList.length ≤ 1000001) → Hid (acc ++ y.data.toList ++ x.data.toList ++ Vf.foldGo x.data.toList 0 ((ss.drop (k + 1)).map fun s => s.data.toList) = Vf.foldGo [] 0 (ss.map fun s => s.data.toList)) →
            ∀ S : Ending → World → Prop, (∀ e2 W2, (e2 = .returned (.tuple #[.int .i64 y.size, .nilIface]) ∧ Hid (Lib.BuilderAtF 70 5 w.heap.size w.heap.size (.pointer (some ⟨w.heap.size, 0, none⟩)) (Lib.byteCells acc ++ Lib.strCells y) W2 ∧ Below w.heap.size w W2 ∧ w.heap.size ≤ W2.heap.size)) → S e2 W2) →
              Calls Tryd.prog 37 #[.pointer (some ⟨w.heap.size, 0, none⟩), .string y] W1 S := by
          intro y W1 hw1 hyl hacc S hS
          have hs := HI.out.sz
          have hs1 := hw1.out.size
          have hlen := HI.out.len
          have hys : y.size = y.data.toList.length := Array.length_toList.symm
          have hyl' := hyl.out
          refine (ws_calls w.heap.size w.heap.size _ y W1 (builder_kept HI.out.b hw1.out) (by rw [Lib.byteCells_length, hys]; omega) (by omega)).mono ?_
          rintro e2 W2 ⟨h1, h2, b2, k2⟩
          have := b2.size
          exact hS e2 W2 ⟨h1, h2, (HI.out.bw.trans (hw1.out.mono hs)).trans b2, by omega⟩
        have fin2 : ∀ (y : ByteArray) (W2 : World), Hid (y.data.toList.length ≤ 1000001) → Hid (acc ++ y.data.toList ++ x.data.toList ++ Vf.foldGo x.data.toList 0 ((ss.drop (k + 1)).map fun s => s.data.toList) = Vf.foldGo [] 0 (ss.map fun s => s.data.toList)) →
            Hid (Lib.BuilderAtF 70 5 w.heap.size w.heap.size (.pointer (some ⟨w.heap.size, 0, none⟩)) (Lib.byteCells acc ++ Lib.strCells y) W2 ∧ Below w.heap.size w W2 ∧ w.heap.size ≤ W2.heap.size) →
            ∀ S : Ending → World → Prop, (∀ e3 W3, (e3 = .returned (.tuple #[.int .i64 x.size, .nilIface]) ∧ Hid (AtRound w ss (k + 1) 0 x (acc ++ y.data.toList ++ x.data.toList) W3)) → S e3 W3) →
              Calls Tryd.prog 37 #[.pointer (some ⟨w.heap.size, 0, none⟩), .string x] W2 S := by
          intro y W2 hyl hacc h2 S hS
          obtain ⟨h2, b2, s2⟩ := h2.out
          have hlen := HI.out.len
          have hyl' := hyl.out
          have hxl := Hxl.out
          refine (ws_calls w.heap.size w.heap.size _ x W2 (.inr h2) (by rw [List.length_append, Lib.byteCells_length, Lib.strCells_length, show y.size = y.data.toList.length from Array.length_toList.symm]; omega) s2).mono ?_
          rintro e3 W3 ⟨h1, h3, b3, k3⟩
          have := b3.size
          rw [Lib.strCells_eq, Lib.strCells_eq, ← Lib.byteCells_append, ← Lib.byteCells_append] at h3
          exact hS e3 W3 ⟨h1, ⟨Nat.zero_le _, .inr h3, b2.trans b3, hacc.out, Ht.out _ _ hacc.out, by omega⟩⟩
        have Fin := hidF fin; have Fin2 := hidF fin2
        clear fin fin2
        by_cases hl0 : last = ⟨#[]⟩
        · subst hl0
          have He : Hid (∀ y : ByteArray, y.data.toList = List.replicate e 10 → acc ++ y.data.toList ++ x.data.toList ++ Vf.foldGo x.data.toList 0 ((ss.drop (k + 1)).map fun s => s.data.toList) = Vf.foldGo [] 0 (ss.map fun s => s.data.toList)) := by
            intro y hy
            rw [← HI.out.ac, Hd.out, List.map_cons]
            simp only [Vf.foldGo]
            rw [if_neg Hxn.out, hy]
            simp only [List.append_assoc, if_true]
          go_wp2_with fail
          refine (repeat_calls e (by omega) wr).mono ?_
          rintro r1 W1 ⟨y, rfl, hy, hw1⟩
          have Hw1 := hidF hw1
          have Hacc := hidF (He.out y hy)
          have Hyl : Hid (y.data.toList.length ≤ 1000001) := by show _ ≤ _; rw [hy, List.length_replicate]; omega
          clear hw1 hy
          go_wp2_with fail
          refine Fin.out y W1 Hw1 Hyl Hacc _ ?_
          rintro r2 W2 ⟨rfl, H2⟩
          go_wp2_with fail
          refine Fin2.out y W2 Hyl Hacc H2 _ ?_
          rintro r3 W3 ⟨rfl, H3⟩
          go_wp2
          go_roundw
          case rel => exact ⟨k + 1, 0, x, _, by omega, by go_num, rfl, rfl, H3⟩
          case measure => simp [intOf]; omega
        · have hln : ¬ last.data.toList = [] := fun h => hl0 (by cases last; simp at h; subst h; rfl)
          have hle : last.toList.isEmpty = false := by
            rw [ByteArray.toList_eq]; cases hl : last.data.toList with | nil => exact absurd hl hln | cons _ _ => rfl
          have He : Hid (∀ y : ByteArray, y.data.toList = Vf.betweenL last.data.toList x.data.toList e → y.data.toList.length ≤ 1000001 ∧ acc ++ y.data.toList ++ x.data.toList ++ Vf.foldGo x.data.toList 0 ((ss.drop (k + 1)).map fun s => s.data.toList) = Vf.foldGo [] 0 (ss.map fun s => s.data.toList)) := by
            intro y hy
            refine ⟨?_, ?_⟩
            · rw [hy]
              unfold Vf.betweenL; split
              · rw [List.length_replicate]; omega
              · split
                · simp
                · rw [List.length_replicate]; omega
            · rw [← HI.out.ac, Hd.out, List.map_cons]
              simp only [Vf.foldGo]
              rw [if_neg Hxn.out, if_neg hln, hy]
              simp only [List.append_assoc]
          have Hbt : Hid (Calls Tryd.prog 40 #[.string last, .string x, .int .i64 e] wr fun r w' => ∃ s : ByteArray, r = .returned (.string s) ∧ s.data.toList = Vf.betweenL last.data.toList x.data.toList e ∧ Below wr.heap.size wr w') :=
            between_calls last x e he wr (HG.out.mono (Vf.Agree.of_below HI.out.bw).none fun _ _ h => h) (fun b h => by have := HB.out b h; have := HI.out.sz; omega)
          clear hln hl0
          go_wp2_with fail
          refine Hbt.out.mono ?_
          rintro r1 W1 ⟨y, rfl, hy, hw1⟩
          have Hw1 := hidF hw1
          have Hacc := hidF (He.out y hy).2
          have Hyl : Hid (y.data.toList.length ≤ 1000001) := (He.out y hy).1
          clear hw1 hy
          go_wp2_with fail
          refine Fin.out y W1 Hw1 Hyl Hacc _ ?_
          rintro r2 W2 ⟨rfl, H2⟩
          go_wp2_with fail
          refine Fin2.out y W2 Hyl Hacc H2 _ ?_
          rintro r3 W3 ⟨rfl, H3⟩
          go_wp2
          go_roundw
          case rel => exact ⟨k + 1, 0, x, _, by omega, by go_num, rfl, rfl, H3⟩
          case measure => simp [intOf]; omega
    · go_wp2_with fail
      refine (Any.Builder_String_any_k { Tryd.laysJoin with } Vf.extraJoin w.heap.size w.heap.size acc wr HI.out.b HI.out.sz).mono ?_
      rintro r1 W1 ⟨rfl, _, b1, _⟩
      have hacc := HI.out.ac
      rw [List.drop_eq_nil_of_le (by omega), List.map_nil] at hacc
      simp only [Vf.foldGo, List.append_nil] at hacc
      have Hb := hidF (HI.out.bw.trans b1)
      have Ha := hidF hacc
      clear hacc b1
      go_wp2
      go_ret
      exact ⟨by rw [Ha.out]; rfl, Hb.out⟩

theorem folded_walk (a : Option Addr) (c : Nat) (ss : List ByteArray) (w : World) (hb : 0 < ss.length → ∃ b o, a = some ⟨b, o, none⟩ ∧ b < w.heap.size) (hcells : ∀ (j : Nat) x, ss[j]? = some x → ∃ b o, a = some ⟨b, o, none⟩ ∧ w.cell? ⟨b, o + j, none⟩ = some (.string x))
    (hsz : ((ss.map fun s => s.data.toList).map List.length).sum + (ss.map fun s => s.data.toList).length ≤ 1000000) {Bo : Nat → Prop} (hG : Vf.GOk Vf.gl Bo w) (hBo : ∀ b, Bo b → b < w.heap.size) :
    Calls Tryd.prog 28 #[.slice a ss.length c] w fun e w' => e = .returned (.string ⟨(Vf.foldGo [] 0 (ss.map fun s => s.data.toList)).toArray⟩) ∧ Below w.heap.size w w' := by
  rw [List.length_map] at hsz
  cases ss with
  | nil => exact folded_nil a c w
  | cons x r =>
    obtain ⟨b, o, rfl, hlt⟩ := hb (by simp)
    refine folded_walk0 b o c (x :: r) w hlt (fun j y hy => ?_) hsz hG hBo
    obtain ⟨b', o', e, h⟩ := hcells j y hy
    cases e
    exact h
end Go.Proofs.YtpjpmfchcijikaaDoor
