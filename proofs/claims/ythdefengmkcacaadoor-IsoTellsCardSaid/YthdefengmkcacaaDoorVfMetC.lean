
/- The walk of ref18.Canon. No condition but sizes. -/
import Derived.Test.YthdefengmkcacaaDoorVfMet
namespace Go.Proofs.YthdefengmkcacaaDoor
open Go.RowKit Go.Lib
set_option linter.unusedVariables false
set_option linter.unusedSimpArgs false
namespace Vf
section can
variable {w w1 : World} {base c : Nat} {gv : Value} {num : List Int} {out : List (GT × Value)} {vN vO : Value}
theorem CanAt.numApp (h : CanAt w base c gv num out vN vO) {x : Int} {gg cap m : Nat} (hm : m = num.length)
    (hown : w1.ownsRow base 3 1 (.slice (some ⟨gg, 0, none⟩) (m + 1) cap) (m + 1) (intC num ++ [.int .i64 x])) (hg : w.grownBy w1 vN.ownBlock) (hat : vN.ownBlock = some gg ∨ gg = w.heap.size) :
    CanAt (w1.setCell ⟨c, 1, none⟩ (.slice (some ⟨gg, 0, none⟩) (m + 1) cap)) base c gv (num ++ [x]) out (.slice (some ⟨gg, 0, none⟩) (m + 1) cap) vO := by
  have hne : ∀ k b, k ≠ 1 → ownB c vN vO out k = some b → some b ≠ vN.ownBlock := fun k b hk hb e => hk (h.apart k 1 b hb e.symm)
  have far1 : ∀ k b, k ≠ 1 → ownB c vN vO out k = some b → w1.heap[b]? = w.heap[b]? := fun k b hk hb => hg.block b (h.lt hb).2 (hne k b hk hb)
  have far : ∀ k b, k ≠ 1 → k ≠ 0 → ownB c vN vO out k = some b → (w1.setCell ⟨c, 1, none⟩ (.slice (some ⟨gg, 0, none⟩) (m + 1) cap)).heap[b]? = w.heap[b]? := fun k b hk h0 hb =>
    (heap_setCell_other w1 _ b _ fun e => h0 (h.apart k 0 b hb (by show some c = some b; rw [e]))).trans (far1 k b hk hb)
  have hggc : gg ≠ c := by
    rintro rfl
    rcases hat with e | e
    · have := h.apart 0 1 gg rfl e; omega
    · have := (h.lt (i := 0) (b := gg) rfl).2; omega
  refine ⟨h.hb, ?_, ?_, owns_heap h.rO fun b hb => far 2 b (by omega) (by omega) hb, fun p hp => ?_, ?_⟩
  · exact heap_setCell_same w1 c 1 #[gv, vN, vO] 56 _ ((far1 0 c (by omega) rfl).trans h.cblk)
  · rw [List.length_append, List.length_singleton, ← hm, show intC (num ++ [x]) = intC num ++ [.int .i64 x] by unfold intC; rw [List.map_append]; rfl]
    refine owns_heap (w := w1) hown fun b hb => ?_
    simp only [Value.ownBlock, Option.some.injEq] at hb
    subst hb
    exact heap_setCell_other w1 _ gg _ hggc
  · refine owns_heap (h.rK p hp) fun b hb => ?_
    obtain ⟨j, hj⟩ := List.getElem?_of_mem hp
    exact far (j + 3) b (by omega) (by omega) (by simp only [ownB, hj, Option.bind_some]; exact hb)
  · refine h.apart.upd (k0 := 1) (fun i hi => ?_) fun b hb => ?_
    · match i, hi with
      | 0, _ => rfl
      | 2, _ => rfl
      | j + 3, _ => rfl
    · simp only [ownB, Value.ownBlock, Option.some.injEq] at hb
      subst hb
      rcases hat with e | e
      · exact .inl e
      · exact .inr fun i hi => by have := (h.lt hi).2; omega
end can
theorem canAt_new (w : World) (gv : Value) : CanAt (w.alloc (.cells #[gv, .slice none 0 0, .slice none 0 0] 56)) w.heap.size w.heap.size gv [] [] (.slice none 0 0) (.slice none 0 0) where
  hb := Nat.le_refl _
  cblk := heap_alloc_new w _
  rN := World.ownsRow_nil _ _ _ _
  rO := World.ownsRow_nil _ _ _ _
  rK := fun p hp => by cases hp
  apart := fun i j b h1 h2 => by
    match i, j with
    | 0, 0 => rfl
    | 0, 1 => simp [ownB, Value.ownBlock] at h2
    | 0, 2 => simp [ownB, Value.ownBlock] at h2
    | 0, j + 3 => simp [ownB] at h2
    | 1, _ => simp [ownB, Value.ownBlock] at h1
    | 2, _ => simp [ownB, Value.ownBlock] at h1
    | i + 3, _ => simp [ownB] at h1
theorem negs_rep (n : Nat) : negs (List.replicate n (-1)) = n := by
  unfold negs; rw [List.countP_replicate]; simp
def CanonPost (g : List GT) (w : World) (e : Ending) (w' : World) : Prop :=
  ∃ out vO, e = .returned vO ∧ Below w.heap.size w w' ∧ out.map Prod.fst = (canonS g).2 ∧ w'.ownsRow w.heap.size 39 4 vO out.length (outC out) ∧ ∀ p ∈ out, w'.ownsRow w.heap.size 3 1 p.2 p.1.kids.length (intC p.1.kids)
structure NumLoop (gv : Value) (w : World) (j : Nat) (wr : World) : Prop where
  ex : ∃ vN, CanAt wr w.heap.size w.heap.size gv (List.replicate j (-1)) [] vN (.slice none 0 0)
  below : Below w.heap.size w wr
set_option maxRecDepth 1000000 in
set_option maxHeartbeats 4000000 in
theorem canon_walk (g : List GT) (gb go cpG : Nat) (w : World) (hgl : g.length ≤ 1000000000) (h0 : 0 < g.length) (hkl : ∀ t ∈ g, t.kids.length ≤ 1000000000) (hin : ∀ t ∈ g, ∀ k ∈ t.kids, 0 ≤ k ∧ k < (g.length : Int)) (hG : GrAt w w.heap.size gb go g) :
    Calls Tryd.prog 12 #[.slice (some ⟨gb, go, none⟩) g.length cpG] w (CanonPost g w) := by
  have L0 : Hid (NumLoop (.slice (some ⟨gb, go, none⟩) g.length cpG) w 0 (w.alloc (.cells #[.slice (some ⟨gb, go, none⟩) g.length cpG, .slice none 0 0, .slice none 0 0] 56))) := ⟨⟨_, canAt_new w _⟩, (Below.refl _ w).alloc (Nat.le_refl _) _⟩
  have HG := hidM hG; have Hin := hidM hin; have Hkl := hidM hkl
  clear hG hin hkl
  go_enter Tryd.func12, Tryd.ntmps12
  go_wp2_with fail
  go_loopw [9] (fun v9 wr => ∃ j : Nat, j ≤ g.length ∧ v9 = .int .i64 j ∧ Hid (NumLoop (.slice (some ⟨gb, go, none⟩) g.length cpG) w j wr)) (fun v9 _ => g.length - (Lib.intOf v9).toNat)
  case atStart => exact ⟨0, Nat.zero_le _, rfl, L0⟩
  case round =>
    clear L0
    obtain ⟨j, hj, rfl, HI⟩ := hrel
    obtain ⟨vN, hC⟩ := HI.out.ex
    by_cases hlt : j < g.length
    · have rN := hC.rN
      rw [List.length_replicate] at rN
      obtain ⟨aN, cpN, rfl⟩ := owns_form rN
      have hd1 : wr.cell? ⟨w.heap.size, 1, none⟩ = some (.slice aN j cpN) := cell_of_row _ _ 1 _ _ _ hC.cblk
      have hf1 : wr.frozen? ⟨w.heap.size, 1, none⟩ = false := frozen_of_row _ _ 1 _ _ hC.cblk
      have hNc : (Value.slice aN j cpN).ownBlock ≠ some w.heap.size := fun e => by have := hC.apart 1 0 _ e rfl; omega
      have hcW : w.heap.size < wr.heap.size := (hC.lt (i := 0) (b := w.heap.size) rfl).2
      have hj1 : (j : Int) < (g.length : Int) := by omega
      have hw1 : IntKind.i64.wrap ((j : Int) + 1) = (j : Int) + 1 := by rw [IntKind.wrap_i64]; omega
      have k4 : ∀ o, (wr.alloc o).frozen? ⟨w.heap.size, 1, none⟩ = false := fun o => (World.frozen?_of_block (a := ⟨w.heap.size, 1, none⟩) (heap_alloc_old wr _ _ hcW)).trans hf1
      have k5 : ∀ o, (wr.alloc o).cell? ⟨w.heap.size, 1, none⟩ = some (.slice aN j cpN) := fun o => (World.cell?_of_block (a := ⟨w.heap.size, 1, none⟩) (heap_alloc_old wr _ _ hcW)).trans hd1
      obtain ⟨j0, hj0', jz0, jz1, jz2⟩ := info_parts info_int
      have HC := hidM hC
      clear hC
      go_wp2_with (at_builtin; refine wpList_append_lies _ rfl _ _ _ rfl w.heap.size 3 j0 _ 1 8 Tryd.underlying32 hj0' jz0 jz1 jz2 rfl (by omega) (.slice aN j cpN) j (intC (List.replicate j (-1))) rfl (rN.alloc _) ⟨wr.heap.size, 0, none⟩ 1 1 [.int .i64 (-1)] rfl rfl (World.news_of_block (cs := #[.int .i64 (-1)]) (t := 3) (fr := (0, 0)) (heap_alloc_new wr _)) (by simp [Value.oneCell']) (by omega) (by simp only [maxLen]; omega) (by omega) (by simp; omega) (wr.heap.size + 1) (by simp) ?_; intro gg cap w1 hown1 hgrow hat hlt2; have q3 : w1.frozen? ⟨w.heap.size, 1, none⟩ = false := (hgrow.frozen_far ⟨w.heap.size, 1, none⟩ (by simp; omega) (Ne.symm hNc)).trans (k4 _); have q2 : w1.cell? ⟨w.heap.size, 1, none⟩ = some (.slice aN j cpN) := (hgrow.cell_far ⟨w.heap.size, 1, none⟩ (by simp; omega) (Ne.symm hNc)).trans (k5 _))
      have L1 : Hid (NumLoop (.slice (some ⟨gb, go, none⟩) g.length cpG) w (j + 1) (w1.setCell ⟨w.heap.size, 1, none⟩ (.slice (some ⟨gg, 0, none⟩) (j + 1) cap))) := by
        refine ⟨⟨.slice (some ⟨gg, 0, none⟩) (j + 1) cap, ?_⟩, ?_⟩
        · rw [List.replicate_succ']
          exact (HC.out.alloc (.cells #[.int .i64 (-1)] 3)).numApp (by rw [List.length_replicate]) hown1 hgrow (hat.imp id fun e => by rw [e]; simp)
        · have b1 : Below w.heap.size w (wr.alloc (.cells #[.int .i64 (-1)] 3)) := HI.out.below.alloc (by omega) _
          exact (b1.grown hgrow (by simp; omega) fun k hk => (HC.out.lt (i := 1) hk).1).setCell (p := ⟨w.heap.size, 1, none⟩) (Nat.le_refl _) _
      clear rN k4 k5 hown1 hgrow hat hlt2 hd1 hf1 HC
      go_wp2
      go_roundw
      case rel => exact ⟨j + 1, by omega, by go_num, L1⟩
      case measure => simp [Lib.intOf]; omega
    · have hge : ¬ (j : Int) < (g.length : Int) := by omega
      have hjg : j = g.length := by omega
      subst hjg
      have Hcall := hidM (meet_walk g w.heap.size gb go cpG hgl Hkl.out Hin.out (g.length + 1) 0 (List.replicate g.length (-1), []) w.heap.size vN _ [] wr (by simp only; rw [negs_rep]; omega) ⟨by simp, by simp only [List.length_nil]; rw [negs_rep]; omega⟩ h0 rfl hC (HG.out.below HI.out.below) HI.out.below.size)
      have HB := hidM HI.out.below
      clear hC HI
      go_wp2_with fail
      refine Hcall.out.mono ?_
      rintro r1 W ⟨rfl, hbW, out2, vO2, ho2, hC2⟩
      have hd2 : W.cell? ⟨w.heap.size, 2, none⟩ = some vO2 := cell_of_row _ _ 2 _ _ _ hC2.cblk
      have E := hidM (show CanonPost g w (.returned vO2) W from ⟨out2, vO2, rfl, HB.out.trans hbW, ho2, hC2.rO, hC2.rK⟩)
      clear hC2 hbW ho2 Hcall
      go_wp2
      go_ret
      exact E.out
end Vf
end Go.Proofs.YthdefengmkcacaaDoor
