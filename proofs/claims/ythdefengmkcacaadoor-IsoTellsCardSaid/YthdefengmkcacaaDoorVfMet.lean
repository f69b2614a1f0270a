
/- The walk of canon.meet. No condition but sizes. -/
import Derived.Test.YthdefengmkcacaaDoorVfMetB
import Derived.Test.YthdefengmkcacaaDoorVfPref
namespace Go.Proofs.YthdefengmkcacaaDoor
open Go.RowKit Go.Lib
set_option linter.unusedVariables false
set_option linter.unusedSimpArgs false
namespace Vf
attribute [local go_sem ↓] Go.wp_at_zero Go.wp_at_succ
structure GrAt (w : World) (base gb go : Nat) (g : List GT) : Prop where
  lt : gb < base
  cell : ∀ i t, g[i]? = some t → w.cell? ⟨gb, go + i * 4, none⟩ = some (.int .i64 t.kind) ∧ w.cell? ⟨gb, go + i * 4 + 1, none⟩ = some (.string t.tag) ∧ w.cell? ⟨gb, go + i * 4 + 2, none⟩ = some (.string t.value) ∧
    ∃ kO kc, w.cell? ⟨gb, go + i * 4 + 3, none⟩ = some (.slice kO t.kids.length kc) ∧ ∀ j k, t.kids[j]? = some k → ∃ kb ko, kO = some ⟨kb, ko, none⟩ ∧ kb < base ∧ w.cell? ⟨kb, ko + j, none⟩ = some (.int .i64 k)
theorem GrAt.below {w w' : World} {base gb go : Nat} {g : List GT} (h : GrAt w base gb go g) (hb : Below base w w') : GrAt w' base gb go g where
  lt := h.lt
  cell := fun i t hi => by
    obtain ⟨h1, h2, h3, kO, kc, h4, h5⟩ := h.cell i t hi
    refine ⟨(hb.cell (p := ⟨gb, go + i * 4, none⟩) h.lt).trans h1, (hb.cell (p := ⟨gb, go + i * 4 + 1, none⟩) h.lt).trans h2, (hb.cell (p := ⟨gb, go + i * 4 + 2, none⟩) h.lt).trans h3, kO, kc, (hb.cell (p := ⟨gb, go + i * 4 + 3, none⟩) h.lt).trans h4, fun j k hj => ?_⟩
    obtain ⟨kb, ko, e1, e2, e3⟩ := h5 j k hj
    exact ⟨kb, ko, e1, e2, (hb.cell (p := ⟨kb, ko + j, none⟩) e2).trans e3⟩
theorem owns_form {w : World} {base e size n : Nat} {v : Value} {xs : List Value} (h : w.ownsRow base e size v n xs) : ∃ a cap, v = .slice a n cap := by
  rcases h.2 with ⟨rfl, rfl⟩ | ⟨g, cap, cur, rfl, _⟩
  · exact ⟨_, _, rfl⟩
  · exact ⟨_, _, rfl⟩
theorem hidM {p : Prop} (h : p) : Go.RowKit.Hid p := h
/-- What a call of meet brings. -/
def MetPost (g : List GT) (base gb go cpG c : Nat) (vN : Value) (w : World) (r : Int × CS) (e : Ending) (w' : World) : Prop :=
  e = .returned (.int .i64 r.1) ∧ Below base w w' ∧ ∃ out' vO', out'.map Prod.fst = r.2.2 ∧ CanAt w' base c (.slice (some ⟨gb, go, none⟩) g.length cpG) r.2.1 out' vN vO'
structure LoopAt (g : List GT) (base gb go cpG c n f : Nat) (ks : List Int) (vN : Value) (w : World) (fin : CS) (j : Nat) (wr : World) : Prop where
  ex : ∃ (s : CS) (out : List (GT × Value)) (vO : Value), kidsP (meetP g f) n (ks.drop j) s = fin ∧ OkC g s ∧ negs s.1 < f ∧ n < s.2.length ∧ (s.2.getD n default).kids.length = j ∧
    out.map Prod.fst = s.2 ∧ CanAt wr base c (.slice (some ⟨gb, go, none⟩) g.length cpG) s.1 out vN vO
  below : Below base w wr
  size : base ≤ wr.heap.size
set_option maxRecDepth 1000000 in
set_option maxHeartbeats 4000000 in
theorem meet_walk (g : List GT) (base gb go cpG : Nat) (hgl : g.length ≤ 1000000000) (hkl : ∀ t ∈ g, t.kids.length ≤ 1000000000) (hin : ∀ t ∈ g, ∀ k ∈ t.kids, 0 ≤ k ∧ k < (g.length : Int)) :
    ∀ (f i : Nat) (s : CS) (c : Nat) (vN vO : Value) (out : List (GT × Value)) (w : World), negs s.1 < f → OkC g s → i < g.length → out.map Prod.fst = s.2 → CanAt w base c (.slice (some ⟨gb, go, none⟩) g.length cpG) s.1 out vN vO → GrAt w base gb go g → base ≤ w.heap.size →
      Calls Tryd.prog 31 #[.pointer (some ⟨c, 0, none⟩), .int .i64 i] w (MetPost g base gb go cpG c vN w (meetP g f i s)) := by
  intro f
  induction f with
  | zero => intro i s c vN vO out w h; omega
  | succ f ih =>
    intro i s c vN vO out w hf hs hi hout hC hG hbase
    have hsl := hs.len
    have hrN := hC.rN
    rw [hsl] at hrN
    obtain ⟨bN, capN, rfl, hbN, hbNlt⟩ := hrN.form (by omega)
    obtain ⟨aOo, capO, rfl⟩ := owns_form hC.rO
    have hc0 : w.cell? ⟨c, 0, none⟩ = some (.slice (some ⟨gb, go, none⟩) g.length cpG) := cell_of_row w c 0 _ _ _ hC.cblk
    have hc1 : w.cell? ⟨c, 1, none⟩ = some (.slice (some ⟨bN, 0, none⟩) g.length capN) := cell_of_row w c 1 _ _ _ hC.cblk
    have hc2 : w.cell? ⟨c, 2, none⟩ = some (.slice aOo out.length capO) := cell_of_row w c 2 _ _ _ hC.cblk
    have hfc : w.frozen? ⟨c, 2, none⟩ = false := frozen_of_row w c 2 _ _ hC.cblk
    have hni : w.cell? ⟨bN, i, none⟩ = some (.int .i64 (s.1.getD i 0)) := by
      rw [hrN.cellAt i (by omega)]
      unfold intC
      rw [List.getElem?_map, List.getD_eq_getElem?_getD]
      have : i < s.1.length := by omega
      simp [this]
    have hnf : w.frozen? ⟨bN, i, none⟩ = false := hrN.frozenAt i
    have hi0 : (0 : Int) ≤ (i : Int) := Int.natCast_nonneg _
    have hi1 : (i : Int) < (g.length : Int) := by omega
    have hbc : bN ≠ c := fun e => by have := hC.apart 1 0 c (by show some bN = some c; rw [e]) rfl; omega
    have hbc' : c ≠ bN := fun e => hbc e.symm
    have hcb := hC.hb
    have hclt := (hC.lt (i := 0) (b := c) rfl).2
    have hgb := hG.lt
    by_cases hv : 0 ≤ s.1.getD i 0
    · have hres : meetP g (f + 1) i s = (s.1.getD i 0, s) := by simp only [meetP]; rw [if_pos hv]
      rw [hres]
      have HC := hidM hC; have Hout := hidM hout
      clear hC hout ih hG hrN hs hf hin hkl hres hsl
      generalize s.1.getD i 0 = v at *
      go_enter Tryd.func31, Tryd.ntmps31
      go_wp2
      go_ret
      exact ⟨rfl, Below.refl _ _, out, _, Hout.out, HC.out⟩
    · obtain ⟨hg0, hg1, hg2, kO, kc, hg3, hgk⟩ := hG.cell i (g.getD i default) (by simp [List.getD, hi])
      have hmem : g.getD i default ∈ g := by simp [List.getD, hi]
      have hkl' := hkl _ hmem
      have hin' := hin _ hmem
      have hneg := negs_set (l := s.1) (i := i) (v := (s.2.length : Int)) (by omega) (by omega) (by omega)
      have hroom := hs.room
      have hm : out.length = s.2.length := by rw [← hout, List.length_map]
      have hres : meetP g (f + 1) i s = ((s.2.length : Int), kidsP (meetP g f) s.2.length (g.getD i default).kids (s.1.set i (s.2.length : Int), s.2 ++ [{ g.getD i default with kids := [] }])) := by simp only [meetP]; rw [if_neg hv]
      rw [hres]
      generalize g.getD i default = t at *
      have hOk0 : OkC g (s.1.set i (s.2.length : Int), s.2 ++ [{ t with kids := [] }]) := ⟨by simpa using hsl, by show (s.2 ++ [{ t with kids := [] }]).length + negs (s.1.set i (s.2.length : Int)) ≤ g.length; rw [List.length_append, List.length_singleton]; omega⟩
      have hneg0 : negs (s.1.set i (s.2.length : Int)) < f := by omega
      have hmet := meetP_ok hin f
      rw [← hm] at hOk0 hneg0 ⊢
      generalize hml : out.length = m at *
      have hmg : m + 1 ≤ 1000000000 := by omega
      generalize hv' : s.1.getD i 0 = v at *
      have hv0 : ¬ (0 ≤ v) := hv
      have C1 := hC.numSet hsl.symm i (m : Int)
      have C2 := C1.alloc (.cells #[.int .i64 t.kind, .string t.tag, .string t.value, .slice kO t.kids.length kc] 39)
      have B1 : Below base w ((w.setCell ⟨bN, i, none⟩ (.int .i64 (m : Int))).alloc (.cells #[.int .i64 t.kind, .string t.tag, .string t.value, .slice kO t.kids.length kc] 39)) := ((Below.refl base w).setCell (p := ⟨bN, i, none⟩) hbN _).alloc (by simpa using hbase) _
      have hO2 := C2.rO
      have f0 : ((w.setCell ⟨bN, i, none⟩ (.int .i64 (m : Int))).alloc (.cells #[.int .i64 t.kind, .string t.tag, .string t.value, .slice kO t.kids.length kc] 39)).heap[w.heap.size]? = some (.cells #[.int .i64 t.kind, .string t.tag, .string t.value, .slice kO t.kids.length kc] 39) := by
        have := heap_alloc_new (w.setCell ⟨bN, i, none⟩ (.int .i64 (m : Int))) (.cells #[.int .i64 t.kind, .string t.tag, .string t.value, .slice kO t.kids.length kc] 39)
        rwa [show (w.setCell ⟨bN, i, none⟩ (.int .i64 (m : Int))).heap.size = w.heap.size by simp] at this
      have hs1 : ((w.setCell ⟨bN, i, none⟩ (.int .i64 (m : Int))).alloc (.cells #[.int .i64 t.kind, .string t.tag, .string t.value, .slice kO t.kids.length kc] 39)).heap.size = w.heap.size + 1 := by simp
      have hHO : (Value.slice aOo m capO).ownBlock ≠ some w.heap.size := fun e => by have := (hC.rO.lt _ e).2; omega
      have hNc : (Value.slice aOo m capO).ownBlock ≠ some c := fun e => by have := hC.apart 2 0 c e rfl; omega
      obtain ⟨i0, hi0', hz0, hz1, hz2⟩ := info_parts info_thing
      have HG := hidM hG; have HC2 := hidM C2; have HB1 := hidM B1; have Hgk := hidM hgk; have Hin := hidM hin; have Hin' := hidM hin'; have Hih := hidM ih; have Hmet := hidM hmet; have Hok := hidM hOk0; have Hneg := hidM hneg0; have Hout := hidM hout; have Hs := hidM hs; have Hsl := hidM hsl; have Hml := hidM hml; have Hm := hidM hm; have Hkl := hidM hkl'; have Hbase := hidM hbase; have Hf0 := hidM f0; have Hs1 := hidM hs1; have HO2 := hidM hO2; have Hv := hidM hv'
      clear hG C1 C2 B1 hgk hin hin' ih hmet hOk0 hneg0 hout hs hsl hml hm hkl' hbase f0 hs1 hO2 hC hrN hneg hroom hkl hmem hres hv' hf
      go_enter Tryd.func31, Tryd.ntmps31
      go_wp2_with fail
      have hs1 := Hs1.out; have f0 := Hf0.out; have hO2 := HO2.out; have C2 := HC2.out
      clear hc0 hc1 hc2 hfc hni hnf hg0 hg1 hg2 hg3 Hs1 Hf0 HO2
      generalize hW1 : (w.setCell ⟨bN, i, none⟩ (.int .i64 (m : Int))).alloc (.cells #[.int .i64 t.kind, .string t.tag, .string t.value, .slice kO t.kids.length kc] 39) = W1 at *
      generalize hH : w.heap.size = H at *
      have c0 : W1.cell? ⟨H, 0, none⟩ = some (.int .i64 t.kind) := cell_of_row _ _ _ _ _ _ f0
      have c1 : W1.cell? ⟨H, 1, none⟩ = some (.string t.tag) := cell_of_row _ _ _ _ _ _ f0
      have c2 : W1.cell? ⟨H, 2, none⟩ = some (.string t.value) := cell_of_row _ _ _ _ _ _ f0
      have k2 : W1.cell? ⟨c, 2, none⟩ = some (.slice aOo m capO) := cell_of_row _ _ _ _ _ _ C2.cblk
      have k3 : W1.frozen? ⟨c, 2, none⟩ = false := frozen_of_row _ _ _ _ _ C2.cblk
      have hcW : c < W1.heap.size := (C2.lt (i := 0) (b := c) rfl).2
      have k4 : ∀ o, (W1.alloc o).frozen? ⟨c, 2, none⟩ = false := fun o => (World.frozen?_of_block (a := ⟨c, 2, none⟩) (heap_alloc_old W1 _ c hcW)).trans k3
      have k5 : ∀ o, (W1.alloc o).cell? ⟨c, 2, none⟩ = some (.slice aOo m capO) := fun o => (World.cell?_of_block (a := ⟨c, 2, none⟩) (heap_alloc_old W1 _ c hcW)).trans k2
      have hne1 : W1.heap.size ≠ c := by omega
      have hcH : c ≠ H := by omega
      have hne2 : H + 1 ≠ c := by omega
      have hbH : base ≤ H + 1 := by have := Hbase.out; omega
      have HO2' : Hid (W1.ownsRow base 39 4 (.slice aOo m capO) m (outC out)) := hidM (by have := hO2; rwa [Hml.out] at this)
      clear hW1 C2 hO2
      let S6 : World → Prop := fun w' => w'.cell? ⟨c, 2, none⟩ = some (.slice aOo m capO) ∧ w'.cell? ⟨H, 0, none⟩ = some (.int .i64 t.kind) ∧ w'.cell? ⟨H, 1, none⟩ = some (.string t.tag) ∧ w'.cell? ⟨H, 2, none⟩ = some (.string t.value)
      have hS : S6 W1.drew := ⟨k2, c0, c1, c2⟩
      refine wp_region_prefix (S := S6) 14 (by kernel_rfl) (by kernel_rfl) ?_
      refine wpAnyH_take (i := 0) (v := ?_) rfl (by kernel_rfl) (by kernel_rfl) (by kernel_rfl) (fun _ _ _ h => h) (Or.inl ⟨by rfl, ?_⟩) hS ?_
      rotate_left
      · (intro w hSw; (try dsimp only [S6] at hSw); go_simp; (try with_reducible rfl))
      (try simp only [Act.put, List.setIfInBounds_toArray, List.set_cons_zero, List.set_cons_succ])
      refine wpAnyH_take (i := 1) (v := ?_) rfl (by kernel_rfl) (by kernel_rfl) (by kernel_rfl) (fun _ _ _ h => h) (Or.inl ⟨by rfl, ?_⟩) hS ?_
      rotate_left
      · (intro w hSw; (try dsimp only [S6] at hSw); go_simp; (try with_reducible rfl))
      (try simp only [Act.put, List.setIfInBounds_toArray, List.set_cons_zero, List.set_cons_succ])
      refine wpAnyH_take (i := 2) (v := ?_) rfl (by kernel_rfl) (by kernel_rfl) (by kernel_rfl) (fun _ _ _ h => h) (Or.inl ⟨by rfl, ?_⟩) hS ?_
      rotate_left
      · (intro w hSw; (try dsimp only [S6] at hSw); go_simp; (try with_reducible rfl))
      (try simp only [Act.put, List.setIfInBounds_toArray, List.set_cons_zero, List.set_cons_succ])
      refine wpAnyH_take (i := 3) (v := ?_) rfl (by kernel_rfl) (by kernel_rfl) (by kernel_rfl) (fun _ _ _ h => h) (Or.inl ⟨by rfl, ?_⟩) hS ?_
      rotate_left
      · (intro w hSw; (try dsimp only [S6] at hSw); go_simp; (try with_reducible rfl))
      (try simp only [Act.put, List.setIfInBounds_toArray, List.set_cons_zero, List.set_cons_succ])
      refine wpAnyH_take (i := 4) (v := ?_) rfl (by kernel_rfl) (by kernel_rfl) (by kernel_rfl) (fun _ _ _ h => h) (Or.inl ⟨by rfl, ?_⟩) hS ?_
      rotate_left
      · (intro w hSw; (try dsimp only [S6] at hSw); go_simp; (try with_reducible rfl))
      (try simp only [Act.put, List.setIfInBounds_toArray, List.set_cons_zero, List.set_cons_succ])
      refine wpAnyH_take (i := 5) (v := ?_) rfl (by kernel_rfl) (by kernel_rfl) (by kernel_rfl) (fun _ _ _ h => h) (Or.inl ⟨by rfl, ?_⟩) hS ?_
      rotate_left
      · (intro w hSw; (try dsimp only [S6] at hSw); go_simp; (try with_reducible rfl))
      (try simp only [Act.put, List.setIfInBounds_toArray, List.set_cons_zero, List.set_cons_succ])
      refine wpAnyH_take (i := 6) (v := ?_) rfl (by kernel_rfl) (by kernel_rfl) (by kernel_rfl) (fun _ _ _ h => h) (Or.inl ⟨by rfl, ?_⟩) hS ?_
      rotate_left
      · (intro w hSw; (try dsimp only [S6] at hSw); go_simp; (try with_reducible rfl))
      (try simp only [Act.put, List.setIfInBounds_toArray, List.set_cons_zero, List.set_cons_succ])
      refine wpAnyH_take (i := 7) (v := ?_) rfl (by kernel_rfl) (by kernel_rfl) (by kernel_rfl) (fun _ _ _ h => h) (Or.inl ⟨by rfl, ?_⟩) hS ?_
      rotate_left
      · (intro w hSw; (try dsimp only [S6] at hSw); go_simp; (try with_reducible rfl))
      (try simp only [Act.put, List.setIfInBounds_toArray, List.set_cons_zero, List.set_cons_succ])
      refine wpAnyH_take (i := 8) (v := ?_) rfl (by kernel_rfl) (by kernel_rfl) (by kernel_rfl) (fun _ _ _ h => h) (Or.inl ⟨by rfl, ?_⟩) hS ?_
      rotate_left
      · (intro w hSw; (try dsimp only [S6] at hSw); go_simp; (try with_reducible rfl))
      (try simp only [Act.put, List.setIfInBounds_toArray, List.set_cons_zero, List.set_cons_succ])
      refine wpAnyH_take (i := 9) (v := ?_) rfl (by kernel_rfl) (by kernel_rfl) (by kernel_rfl) (fun _ _ _ h => h) (Or.inl ⟨by rfl, ?_⟩) hS ?_
      rotate_left
      · (intro w hSw; (try dsimp only [S6] at hSw); go_simp; (try with_reducible rfl))
      (try simp only [Act.put, List.setIfInBounds_toArray, List.set_cons_zero, List.set_cons_succ])
      refine wpAnyH_take (i := 10) (v := ?_) rfl (by kernel_rfl) (by kernel_rfl) (by kernel_rfl) (fun _ _ _ h => h) (Or.inl ⟨by rfl, ?_⟩) hS ?_
      rotate_left
      · (intro w hSw; (try dsimp only [S6] at hSw); go_simp; (try with_reducible rfl))
      (try simp only [Act.put, List.setIfInBounds_toArray, List.set_cons_zero, List.set_cons_succ])
      refine wpAnyH_take (i := 11) (v := ?_) rfl (by kernel_rfl) (by kernel_rfl) (by kernel_rfl) (fun _ _ _ h => h) (Or.inl ⟨by rfl, ?_⟩) hS ?_
      rotate_left
      · (intro w hSw; (try dsimp only [S6] at hSw); go_simp; (try with_reducible rfl))
      (try simp only [Act.put, List.setIfInBounds_toArray, List.set_cons_zero, List.set_cons_succ])
      refine wpAnyH_all (rs := [12]) (by kernel_rfl) (by simp) fun i hi => ?_
      simp only [List.mem_singleton] at hi
      subst hi
      refine wpOp_plain rfl rfl ?_
      go_simp
      refine ⟨⟨k5 _, (World.cell?_of_block (a := ⟨H, 0, none⟩) (heap_alloc_old W1 _ H (by omega))).trans c0, (World.cell?_of_block (a := ⟨H, 1, none⟩) (heap_alloc_old W1 _ H (by omega))).trans c1, (World.cell?_of_block (a := ⟨H, 2, none⟩) (heap_alloc_old W1 _ H (by omega))).trans c2⟩, ?_⟩
      refine wpAnyH_all (rs := [13]) (by kernel_rfl) (by simp) fun i hi => ?_
      simp only [List.mem_singleton] at hi
      subst hi
      refine wpOp_plain rfl rfl ?_
      refine wp_append_lies _ _ _ _ (by rfl) base 39 i0 _ 4 64 Tryd.underlying23 hi0' hz0 hz1 hz2 rfl (by omega) (.slice aOo m capO) m (outC out) (by rfl) ((World.ownsRow.alloc (by have h := HO2'.out; exact h) _).drew)
            ⟨H + 1, 0, none⟩ 1 1 (gtC { t with kids := [] } (.slice none 0 0)) (by rfl) (by rfl) (World.news_of_block (cs := #[.int .i64 t.kind, .string t.tag, .string t.value, .slice none 0 0]) (t := 39) (fr := (0, 0)) (by rw [← hs1]; exact heap_alloc_new W1 _)) (by simp [Value.oneCell', gtC])
            (by omega) (by simp only [maxLen]; omega) (by omega) (by simp; omega) (H + 2) (by simp [hs1]) ?_
      intro gg cap w1 hown1 hgrow hat hlt
      have q3 : w1.frozen? ⟨c, 2, none⟩ = false := (hgrow.frozen_far ⟨c, 2, none⟩ (by simp; omega) (Ne.symm hNc)).trans (k4 _)
      have q2 : w1.cell? ⟨c, 2, none⟩ = some (.slice aOo m capO) := (hgrow.cell_far ⟨c, 2, none⟩ (by simp; omega) (Ne.symm hNc)).trans (k5 _)
      refine ⟨⟨q2, (hgrow.cell_far ⟨H, 0, none⟩ (by simp; omega) (Ne.symm hHO)).trans ((World.cell?_of_block (a := ⟨H, 0, none⟩) (heap_alloc_old W1 _ H (by omega))).trans c0), (hgrow.cell_far ⟨H, 1, none⟩ (by simp; omega) (Ne.symm hHO)).trans ((World.cell?_of_block (a := ⟨H, 1, none⟩) (heap_alloc_old W1 _ H (by omega))).trans c1), (hgrow.cell_far ⟨H, 2, none⟩ (by simp; omega) (Ne.symm hHO)).trans ((World.cell?_of_block (a := ⟨H, 2, none⟩) (heap_alloc_old W1 _ H (by omega))).trans c2)⟩, ?_⟩
      refine wpAnyH_done (by kernel_rfl) ?_ _
      simp only [preQ, List.drop_succ_cons, List.drop_zero, Act.put, List.setIfInBounds_toArray, List.set_cons_zero, List.set_cons_succ]
      have C3 := ((HC2.out.alloc (.cells #[.int .i64 t.kind, .string t.tag, .string t.value, .slice none 0 0] 39)).heap (w1 := (W1.alloc (.cells #[.int .i64 t.kind, .string t.tag, .string t.value, .slice none 0 0] 39)).drew) fun _ _ _ => rfl).outApp (t := { t with kids := [] }) rfl Hml.out.symm hown1 hgrow (hat.imp id fun e => by rw [e]; simp [hs1])
      have B3 : Below base w (w1.setCell ⟨c, 2, none⟩ (.slice (some ⟨gg, 0, none⟩) (m + 1) cap)) := ((((HB1.out).alloc (by rw [hs1]; exact hbH) (.cells #[.int .i64 t.kind, .string t.tag, .string t.value, .slice none 0 0] 39)).drew).grown hgrow (by simp [hs1]; omega) fun k hk => (HC2.out.lt (i := 2) hk).1).setCell (p := ⟨c, 2, none⟩) hcb _
      have x3 : (w1.setCell ⟨c, 2, none⟩ (.slice (some ⟨gg, 0, none⟩) (m + 1) cap)).cell? ⟨H, 3, none⟩ = some (.slice kO t.kids.length kc) :=
        cell_of_row _ H 3 _ _ _ ((heap_setCell_other w1 ⟨c, 2, none⟩ H _ (Ne.symm hcH)).trans ((hgrow.block H (by simp [hs1]; omega) (Ne.symm hHO)).trans ((heap_alloc_old W1 _ H (by omega)).trans f0)))
      have z3 : base ≤ (w1.setCell ⟨c, 2, none⟩ (.slice (some ⟨gg, 0, none⟩) (m + 1) cap)).heap.size := by have := B3.size; have := Hbase.out; omega
      have L0 : Hid (LoopAt g base gb go cpG c m f t.kids (.slice (some ⟨bN, 0, none⟩) g.length capN) w (kidsP (meetP g f) m t.kids (s.1.set i (m : Int), s.2 ++ [{ t with kids := [] }])) 0 (w1.setCell ⟨c, 2, none⟩ (.slice (some ⟨gg, 0, none⟩) (m + 1) cap))) :=
        ⟨⟨(s.1.set i (m : Int), s.2 ++ [{ t with kids := [] }]), out ++ [({ t with kids := [] }, .slice none 0 0)], _, by rw [List.drop_zero], Hok.out, Hneg.out, by have := Hm.out; simp; omega,
          by have h1 := Hm.out; rw [h1]; simp [List.getD], by rw [List.map_append, Hout.out]; rfl, C3⟩, B3, z3⟩
      clear hS S6 C3 B3 z3 hown1 hgrow hat hlt k2 k3 k4 k5 c0 c1 c2 f0 hs1 hne1 hne2 hcW HC2 HO2' HB1 hHO hNc hcH hbH hclt
      generalize kidsP (meetP g f) m t.kids (s.1.set i (m : Int), s.2 ++ [{ t with kids := [] }]) = fin at *
      go_wp2_with fail
      clear x3 q3 q2
      generalize w1.setCell ⟨c, 2, none⟩ (.slice (some ⟨gg, 0, none⟩) (m + 1) cap) = W2 at *
      go_loopw [63] (fun v63 wr => ∃ j : Nat, j ≤ t.kids.length ∧ v63 = .int .i64 j ∧ Hid (LoopAt g base gb go cpG c m f t.kids (.slice (some ⟨bN, 0, none⟩) g.length capN) w fin j wr)) (fun v63 _ => t.kids.length - (Lib.intOf v63).toNat)
      case atStart => exact ⟨0, Nat.zero_le _, rfl, L0⟩
      case round =>
        clear L0
        obtain ⟨j, hj, rfl, HI⟩ := hrel
        by_cases hlt : j < t.kids.length
        · obtain ⟨s', out', vO', e1, e2, e3, e4, e5, e6, e7⟩ := HI.out.ex
          have hkj := Hin'.out (t.kids.getD j 0) (by simp [List.getD, hlt])
          obtain ⟨kN, hkN⟩ : ∃ kN : Nat, t.kids.getD j 0 = kN := ⟨(t.kids.getD j 0).toNat, by omega⟩
          have hkat : t.kids[j]? = some ((kN : Nat) : Int) := by rw [← hkN]; simp [List.getD, hlt]
          obtain ⟨kb, ko, hkO, hkb, hkc⟩ := Hgk.out j _ hkat
          subst hkO
          have hkw : wr.cell? ⟨kb, ko + j, none⟩ = some (.int .i64 (kN : Int)) := (HI.out.below.cell (p := ⟨kb, ko + j, none⟩) hkb).trans hkc
          rw [hkN] at hkj
          have hkg : kN < g.length := by omega
          have Hcall := hidM (Hih.out kN s' c _ _ out' wr e3 e2 hkg e6 e7 (HG.out.below HI.out.below) HI.out.size)
          obtain ⟨o1, o2⟩ := Hmet.out kN s' e2 hkg e3
          have E1 : Hid (kidsP (meetP g f) m (t.kids.drop (j + 1)) ((meetP g f kN s').2.1, addKid m (meetP g f kN s').1 (meetP g f kN s').2.2) = fin) := by
            refine hidM ?_
            rw [← e1, List.drop_eq_getElem_cons hlt]
            simp only [kidsP]
            have : t.kids[j] = ((kN : Nat) : Int) := by have := List.getElem?_eq_getElem hlt; rw [hkat] at this; exact (Option.some.inj this).symm
            rw [this, Int.toNat_natCast]
          have E4 : Hid (m < s'.2.length) := hidM e4
          have E5 : Hid ((s'.2.getD m default).kids.length = j) := hidM e5
          have O1 := hidM o1; have O2 := hidM o2; have E3 := hidM e3
          have hj0 : (0 : Int) ≤ (j : Int) := Int.natCast_nonneg _
          have hj1 : (j : Int) < (t.kids.length : Int) := by omega
          have hw1 : IntKind.i64.wrap ((j : Int) + 1) = (j : Int) + 1 := by have := Hkl.out; rw [IntKind.wrap_i64]; omega
          clear e1 e2 e3 e4 e5 e6 e7 hkat hkc hkj hkN o1 o2
          generalize meetP g f kN s' = q at *
          go_wp2_with fail
          refine Hcall.out.mono ?_
          rintro r1 W ⟨rfl, hbW, out2, vO2, ho2, hC2⟩
          have hlo : out2.length = q.2.2.length := by rw [← ho2, List.length_map]
          have hmlt : m < out2.length := by have := E4.out; have := O2.out.len; omega
          obtain ⟨bO, cpO, rfl, hbO, _⟩ := hC2.rO.form (by omega)
          obtain ⟨⟨tn, kv⟩, hp⟩ : ∃ p, out2[m]? = some p := ⟨out2[m], List.getElem?_eq_getElem hmlt⟩
          have hq2 : q.2.2[m]? = some tn := by rw [← ho2, List.getElem?_map, hp]; rfl
          have htj : tn.kids.length = j := by
            have h1 := O2.out.same m E4.out
            rw [hq2] at h1
            rw [← E5.out, List.getD_eq_getElem?_getD, ← h1]; rfl
          have rk := hC2.rK (tn, kv) (List.mem_of_getElem? hp)
          simp only at rk
          obtain ⟨aK, cpK, rfl⟩ := owns_form rk
          have hd2 : W.cell? ⟨c, 2, none⟩ = some (.slice (some ⟨bO, 0, none⟩) out2.length cpO) := cell_of_row W c 2 _ _ _ hC2.cblk
          have hk3 : W.cell? ⟨bO, m * 4 + 3, none⟩ = some (.slice aK tn.kids.length cpK) := by
            rw [hC2.rO.cellAt (m * 4 + 3) (by omega), outC_get hp 3 (by omega)]; rfl
          have hf3 : W.frozen? ⟨bO, m * 4 + 3, none⟩ = false := hC2.rO.frozenAt _
          have hbOlt : bO < W.heap.size := (hC2.lt (i := 2) (b := bO) rfl).2
          have hcW : c < W.heap.size := (hC2.lt (i := 0) (b := c) rfl).2
          have hKown : ownB c (.slice (some ⟨bN, 0, none⟩) g.length capN) (.slice (some ⟨bO, 0, none⟩) out2.length cpO) out2 (m + 3) = (Value.slice aK tn.kids.length cpK).ownBlock := by simp only [ownB, hp, Option.bind_some]
          have hKO : (Value.slice aK tn.kids.length cpK).ownBlock ≠ some bO := fun e => by have := hC2.apart (m + 3) 2 bO (by rw [hKown]; exact e) rfl; omega
          have hKc : (Value.slice aK tn.kids.length cpK).ownBlock ≠ some c := fun e => by have := hC2.apart (m + 3) 0 c (by rw [hKown]; exact e) rfl; omega
          have hOc : bO ≠ c := fun e => by have := hC2.apart 2 0 c (by show some bO = some c; rw [e]) rfl; omega
          have k4 : ∀ o, (W.alloc o).frozen? ⟨bO, m * 4 + 3, none⟩ = false := fun o => (World.frozen?_of_block (a := ⟨bO, m * 4 + 3, none⟩) (heap_alloc_old W _ bO hbOlt)).trans hf3
          have k5 : ∀ o, (W.alloc o).cell? ⟨bO, m * 4 + 3, none⟩ = some (.slice aK tn.kids.length cpK) := fun o => (World.cell?_of_block (a := ⟨bO, m * 4 + 3, none⟩) (heap_alloc_old W _ bO hbOlt)).trans hk3
          have hne1 : W.heap.size ≠ c := by omega
          have hne2 : W.heap.size ≠ bO := by omega
          have hcO : c ≠ bO := Ne.symm hOc
          have hm0 : (0 : Int) ≤ (m : Int) := Int.natCast_nonneg _
          have hm1 : (m : Int) < (out2.length : Int) := by omega
          have hjl := Hkl.out
          have hWb : base ≤ W.heap.size := by omega
          obtain ⟨j0, hj0', jz0, jz1, jz2⟩ := info_parts info_int
          have HC2 := hidM hC2; have Ho2 := hidM ho2; have Hp := hidM hp; have Hq2 := hidM hq2; have Htj := hidM htj; have Hrk := hidM rk; have HbW := hidM hbW; have Hlo := hidM hlo; have Hjl := hidM hjl
          clear hC2 ho2 hp hq2 htj rk hbW hlo hKown hf3
          have hlen1 : tn.kids.length + 1 ≤ 1000000001 := by have := Htj.out; have := Hjl.out; omega
          clear hjl
          generalize hx : q.1 = x at *
          have Hx := hidM hx
          clear hx
          go_wp2_with fail
          let S11 : World → Prop := fun w' => w'.cell? ⟨c, 2, none⟩ = some (.slice (some ⟨bO, 0, none⟩) out2.length cpO) ∧ w'.cell? ⟨bO, m * 4 + 3, none⟩ = some (.slice aK tn.kids.length cpK)
          have hS : S11 W.drew := ⟨hd2, hk3⟩
          refine wp_region_prefix (S := S11) 16 (by kernel_rfl) (by kernel_rfl) ?_
          refine wpAnyH_take (i := 0) (v := ?_) rfl (by kernel_rfl) (by kernel_rfl) (by kernel_rfl) (fun _ _ _ h => h) (Or.inl ⟨by rfl, ?_⟩) hS ?_
          rotate_left
          · (intro w hSw; (try dsimp only [S11] at hSw); go_simp; (try with_reducible rfl))
          (try simp only [Act.put, List.setIfInBounds_toArray, List.set_cons_zero, List.set_cons_succ])
          refine wpAnyH_take (i := 1) (v := ?_) rfl (by kernel_rfl) (by kernel_rfl) (by kernel_rfl) (fun _ _ _ h => h) (Or.inl ⟨by rfl, ?_⟩) hS ?_
          rotate_left
          · (intro w hSw; (try dsimp only [S11] at hSw); go_simp; (try with_reducible rfl))
          (try simp only [Act.put, List.setIfInBounds_toArray, List.set_cons_zero, List.set_cons_succ])
          refine wpAnyH_take (i := 2) (v := ?_) rfl (by kernel_rfl) (by kernel_rfl) (by kernel_rfl) (fun _ _ _ h => h) (Or.inl ⟨by rfl, ?_⟩) hS ?_
          rotate_left
          · (intro w hSw; (try dsimp only [S11] at hSw); go_simp; (try with_reducible rfl))
          (try simp only [Act.put, List.setIfInBounds_toArray, List.set_cons_zero, List.set_cons_succ])
          refine wpAnyH_take (i := 3) (v := ?_) rfl (by kernel_rfl) (by kernel_rfl) (by kernel_rfl) (fun _ _ _ h => h) (Or.inl ⟨by rfl, ?_⟩) hS ?_
          rotate_left
          · (intro w hSw; (try dsimp only [S11] at hSw); go_simp; (try with_reducible rfl))
          (try simp only [Act.put, List.setIfInBounds_toArray, List.set_cons_zero, List.set_cons_succ])
          refine wpAnyH_take (i := 4) (v := ?_) rfl (by kernel_rfl) (by kernel_rfl) (by kernel_rfl) (fun _ _ _ h => h) (Or.inl ⟨by rfl, ?_⟩) hS ?_
          rotate_left
          · (intro w hSw; (try dsimp only [S11] at hSw); go_simp; (try with_reducible rfl))
          (try simp only [Act.put, List.setIfInBounds_toArray, List.set_cons_zero, List.set_cons_succ])
          refine wpAnyH_take (i := 5) (v := ?_) rfl (by kernel_rfl) (by kernel_rfl) (by kernel_rfl) (fun _ _ _ h => h) (Or.inl ⟨by rfl, ?_⟩) hS ?_
          rotate_left
          · (intro w hSw; (try dsimp only [S11] at hSw); go_simp; (try with_reducible rfl))
          (try simp only [Act.put, List.setIfInBounds_toArray, List.set_cons_zero, List.set_cons_succ])
          refine wpAnyH_take (i := 6) (v := ?_) rfl (by kernel_rfl) (by kernel_rfl) (by kernel_rfl) (fun _ _ _ h => h) (Or.inl ⟨by rfl, ?_⟩) hS ?_
          rotate_left
          · (intro w hSw; (try dsimp only [S11] at hSw); go_simp; (try with_reducible rfl))
          (try simp only [Act.put, List.setIfInBounds_toArray, List.set_cons_zero, List.set_cons_succ])
          refine wpAnyH_take (i := 7) (v := ?_) rfl (by kernel_rfl) (by kernel_rfl) (by kernel_rfl) (fun _ _ _ h => h) (Or.inl ⟨by rfl, ?_⟩) hS ?_
          rotate_left
          · (intro w hSw; (try dsimp only [S11] at hSw); go_simp; (try with_reducible rfl))
          (try simp only [Act.put, List.setIfInBounds_toArray, List.set_cons_zero, List.set_cons_succ])
          refine wpAnyH_take (i := 8) (v := ?_) rfl (by kernel_rfl) (by kernel_rfl) (by kernel_rfl) (fun _ _ _ h => h) (Or.inl ⟨by rfl, ?_⟩) hS ?_
          rotate_left
          · (intro w hSw; (try dsimp only [S11] at hSw); go_simp; (try with_reducible rfl))
          (try simp only [Act.put, List.setIfInBounds_toArray, List.set_cons_zero, List.set_cons_succ])
          refine wpAnyH_take (i := 9) (v := ?_) rfl (by kernel_rfl) (by kernel_rfl) (by kernel_rfl) (fun _ _ _ h => h) (Or.inl ⟨by rfl, ?_⟩) hS ?_
          rotate_left
          · (intro w hSw; (try dsimp only [S11] at hSw); go_simp; (try with_reducible rfl))
          (try simp only [Act.put, List.setIfInBounds_toArray, List.set_cons_zero, List.set_cons_succ])
          refine wpAnyH_take (i := 10) (v := ?_) rfl (by kernel_rfl) (by kernel_rfl) (by kernel_rfl) (fun _ _ _ h => h) (Or.inl ⟨by rfl, ?_⟩) hS ?_
          rotate_left
          · (intro w hSw; (try dsimp only [S11] at hSw); go_simp; (try with_reducible rfl))
          (try simp only [Act.put, List.setIfInBounds_toArray, List.set_cons_zero, List.set_cons_succ])
          refine wpAnyH_take (i := 11) (v := ?_) rfl (by kernel_rfl) (by kernel_rfl) (by kernel_rfl) (fun _ _ _ h => h) (Or.inl ⟨by rfl, ?_⟩) hS ?_
          rotate_left
          · (intro w hSw; (try dsimp only [S11] at hSw); go_simp; (try with_reducible rfl))
          (try simp only [Act.put, List.setIfInBounds_toArray, List.set_cons_zero, List.set_cons_succ])
          refine wpAnyH_take (i := 12) (v := ?_) rfl (by kernel_rfl) (by kernel_rfl) (by kernel_rfl) (fun _ _ _ h => h) (Or.inl ⟨by rfl, ?_⟩) hS ?_
          rotate_left
          · (intro w hSw; (try dsimp only [S11] at hSw); go_simp; (try with_reducible rfl))
          (try simp only [Act.put, List.setIfInBounds_toArray, List.set_cons_zero, List.set_cons_succ])
          refine wpAnyH_take (i := 13) (v := ?_) rfl (by kernel_rfl) (by kernel_rfl) (by kernel_rfl) (fun _ _ _ h => h) (Or.inl ⟨by rfl, ?_⟩) hS ?_
          rotate_left
          · (intro w hSw; (try dsimp only [S11] at hSw); go_simp; (try with_reducible rfl))
          (try simp only [Act.put, List.setIfInBounds_toArray, List.set_cons_zero, List.set_cons_succ])
          refine wpAnyH_all (rs := [14]) (by kernel_rfl) (by simp) fun i hi => ?_
          simp only [List.mem_singleton] at hi
          subst hi
          refine wpOp_plain rfl rfl ?_
          go_simp
          refine ⟨⟨(World.cell?_of_block (a := ⟨c, 2, none⟩) (heap_alloc_old W _ c hcW)).trans hd2, k5 _⟩, ?_⟩
          refine wpAnyH_all (rs := [15]) (by kernel_rfl) (by simp) fun i hi => ?_
          simp only [List.mem_singleton] at hi
          subst hi
          refine wpOp_plain rfl rfl ?_
          refine wp_append_lies _ _ _ _ (by rfl) base 3 j0 _ 1 8 Tryd.underlying32 hj0' jz0 jz1 jz2 rfl (by omega) (.slice aK tn.kids.length cpK) tn.kids.length (intC tn.kids) (by rfl) ((Hrk.out.alloc _).drew) ⟨W.heap.size, 0, none⟩ 1 1 [.int .i64 x] (by rfl) (by rfl) (World.news_of_block (cs := #[.int .i64 x]) (t := 3) (fr := (0, 0)) (heap_alloc_new W _)) (by simp [Value.oneCell']) (by omega) (by simp only [maxLen]; omega) (by omega) (by simp; omega) (W.heap.size + 1) (by simp) ?_
          intro gg cap w1 hown1 hgrow hat hlt2
          have q3 : w1.frozen? ⟨bO, m * 4 + 3, none⟩ = false := (hgrow.frozen_far ⟨bO, m * 4 + 3, none⟩ (by simp; omega) (Ne.symm hKO)).trans (k4 _)
          have q2 : w1.cell? ⟨bO, m * 4 + 3, none⟩ = some (.slice aK tn.kids.length cpK) := (hgrow.cell_far ⟨bO, m * 4 + 3, none⟩ (by simp; omega) (Ne.symm hKO)).trans (k5 _)
          have q1 : w1.cell? ⟨c, 2, none⟩ = some (.slice (some ⟨bO, 0, none⟩) out2.length cpO) := (hgrow.cell_far ⟨c, 2, none⟩ (by simp; omega) (Ne.symm hKc)).trans ((World.cell?_of_block (a := ⟨c, 2, none⟩) (heap_alloc_old W _ c hcW)).trans hd2)
          refine ⟨⟨q1, q2⟩, ?_⟩
          refine wpAnyH_done (by kernel_rfl) ?_ _
          simp only [preQ, List.drop_succ_cons, List.drop_zero, Act.put, List.setIfInBounds_toArray, List.set_cons_zero, List.set_cons_succ]
          have C5 := ((HC2.out.alloc (.cells #[.int .i64 x] 3)).heap (w1 := (W.alloc (.cells #[.int .i64 x] 3)).drew) fun _ _ _ => rfl).kidApp rfl Hp.out hown1 hgrow (hat.imp id fun e => by rw [e]; simp)
          have B5 : Below base w (w1.setCell ⟨bO, m * 4 + 3, none⟩ (.slice (some ⟨gg, 0, none⟩) (tn.kids.length + 1) cap)) :=
            ((((HI.out.below.trans HbW.out).alloc hWb (.cells #[.int .i64 x] 3)).drew).grown hgrow (by simp; omega) fun k hk => (HC2.out.lt (i := m + 3) (by simp only [ownB, Hp.out, Option.bind_some]; exact hk)).1).setCell (p := ⟨bO, m * 4 + 3, none⟩) hbO _
          have z5 : base ≤ (w1.setCell ⟨bO, m * 4 + 3, none⟩ (.slice (some ⟨gg, 0, none⟩) (tn.kids.length + 1) cap)).heap.size := by have := hgrow.size; simp at this ⊢; omega
          have L1 : Hid (LoopAt g base gb go cpG c m f t.kids (.slice (some ⟨bN, 0, none⟩) g.length capN) w fin (j + 1) (w1.setCell ⟨bO, m * 4 + 3, none⟩ (.slice (some ⟨gg, 0, none⟩) (tn.kids.length + 1) cap))) := by
            have htn : q.2.2.getD m default = tn := by rw [List.getD_eq_getElem?_getD, Hq2.out]; rfl
            have hml : m < q.2.2.length := (List.getElem?_eq_some_iff.1 Hq2.out).1
            have E1' := E1.out
            refine ⟨⟨(q.2.1, addKid m x q.2.2), _, _, E1', ⟨O1.out.len, by simp only [addKid_len]; exact O1.out.room⟩, by have := O2.out.neg; have := E3.out; simp only; omega, by simp only [addKid_len]; exact hml, ?_, ?_, C5⟩, B5, z5⟩
            · simp only
              rw [addKid_at hml, htn, List.length_append, Htj.out]; rfl
            · simp only
              rw [List.map_set, Ho2.out]
              unfold addKid
              rw [htn]
          clear hS S11 C5 B5 z5 hown1 hgrow hat hlt2 k4 k5 hd2 hk3 HC2
          go_wp2
          go_roundw
          case rel => exact ⟨j + 1, by omega, by go_num, L1⟩
          case measure => simp [Lib.intOf]; omega
        · have hge : ¬ (j : Int) < (t.kids.length : Int) := by omega
          obtain ⟨s', out', vO', e1, e2, e3, e4, e5, e6, e7⟩ := HI.out.ex
          have E := hidM (show MetPost g base gb go cpG c (.slice (some ⟨bN, 0, none⟩) g.length capN) w (m, fin) (.returned (.int .i64 (m : Int))) wr from ⟨rfl, HI.out.below, out', vO', by rw [e6, ← e1, List.drop_eq_nil_of_le (by omega)]; rfl, by rw [← e1, List.drop_eq_nil_of_le (by omega)]; exact e7⟩)
          clear e1 e2 e3 e4 e5 e6 e7
          go_wp2
          go_ret
          exact E.out
end Vf
end Go.Proofs.YthdefengmkcacaaDoor
