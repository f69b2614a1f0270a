
/- What a canon holds: its own rows, apart from one another. No condition. -/
import Derived.Test.YthdefengmkcacaaDoorVfSound
import Derived.Deep.RegionHeld3
import Derived.Deep.AppendLies
import Derived.Deep.DrawnRows
namespace Go.Proofs.YthdefengmkcacaaDoor
open Go.RowKit Go.Lib
set_option linter.unusedVariables false
set_option linter.unusedSimpArgs false
namespace Vf
theorem info_int : (Tryd.prog.info? 3).map (fun i => (i.zero, i.size, i.bytes)) = some (some (.int .i64 0), 1, 8) := by kernel_rfl
theorem info_thing : (Tryd.prog.info? 39).map (fun i => (i.zero, i.size, i.bytes)) = some (some (.agg #[.int .i64 0, .string ⟨#[]⟩, .string ⟨#[]⟩, .slice none 0 0]), 4, 64) := by kernel_rfl

abbrev GT := GTx ByteArray
def gtC (t : GT) (kv : Value) : List Value := [.int .i64 t.kind, .string t.tag, .string t.value, kv]
def outC (l : List (GT × Value)) : List Value := l.flatMap fun p => gtC p.1 p.2
def intC (l : List Int) : List Value := l.map (Value.int .i64)
theorem outC_len (l : List (GT × Value)) : (outC l).length = l.length * 4 := by
  induction l with
  | nil => rfl
  | cons a r ih => simp only [outC, List.flatMap_cons, List.length_append, List.length_cons] at ih ⊢; rw [ih]; simp [gtC]; omega
theorem outC_app (a b : List (GT × Value)) : outC (a ++ b) = outC a ++ outC b := List.flatMap_append
theorem outC_get {l : List (GT × Value)} {j : Nat} {p : GT × Value} (h : l[j]? = some p) (i : Nat) (hi : i < 4) : (outC l)[j * 4 + i]? = (gtC p.1 p.2)[i]? := by
  induction l generalizing j with
  | nil => simp at h
  | cons a r ih =>
    simp only [outC, List.flatMap_cons]
    cases j with
    | zero =>
      simp only [List.getElem?_cons_zero, Option.some.injEq] at h
      subst h
      rw [List.getElem?_append_left (by simp [gtC]; omega)]; simp
    | succ j =>
      simp only [List.getElem?_cons_succ] at h
      rw [List.getElem?_append_right (by simp [gtC]; omega)]
      have := ih h
      simp only [outC] at this
      rw [← this]
      congr 1
      simp [gtC]; omega
theorem outC_set {l : List (GT × Value)} {j : Nat} {p : GT × Value} (h : l[j]? = some p) (ks : List Int) (u : Value) : (outC l).set (j * 4 + 3) u = outC (l.set j ({ p.1 with kids := ks }, u)) := by
  induction l generalizing j with
  | nil => simp at h
  | cons a r ih =>
    simp only [outC, List.flatMap_cons]
    cases j with
    | zero =>
      simp only [List.getElem?_cons_zero, Option.some.injEq] at h
      subst h
      rw [List.set_append_left _ _ (by simp [gtC])]
      simp [gtC]
    | succ j =>
      simp only [List.getElem?_cons_succ] at h
      rw [List.set_append_right _ _ (by simp [gtC]; omega)]
      have := ih h
      simp only [outC] at this
      simp only [List.set_cons_succ, List.flatMap_cons]
      rw [← this]
      congr 2
      simp [gtC]; omega

def InjB (f : Nat → Option Nat) : Prop := ∀ i j b, f i = some b → f j = some b → i = j
theorem InjB.upd {f f' : Nat → Option Nat} {k0 : Nat} (h : InjB f) (hk : ∀ i, i ≠ k0 → f' i = f i) (hg : ∀ b, f' k0 = some b → f k0 = some b ∨ ∀ i, f i ≠ some b) : InjB f' := by
  intro i j b h1 h2
  by_cases hi : i = k0 <;> by_cases hj : j = k0
  · rw [hi, hj]
  · subst hi
    rw [hk j hj] at h2
    rcases hg b h1 with e | e
    · exact h i j b e h2
    · exact absurd h2 (e j)
  · subst hj
    rw [hk i hi] at h1
    rcases hg b h2 with e | e
    · exact h i j b h1 e
    · exact absurd h1 (e i)
  · rw [hk i hi] at h1; rw [hk j hj] at h2
    exact h i j b h1 h2
def ownB (c : Nat) (vN vO : Value) (out : List (GT × Value)) : Nat → Option Nat
  | 0 => some c
  | 1 => vN.ownBlock
  | 2 => vO.ownBlock
  | j + 3 => (out[j]?).bind fun p => p.2.ownBlock
structure CanAt (w : World) (base c : Nat) (gv : Value) (num : List Int) (out : List (GT × Value)) (vN vO : Value) : Prop where
  hb : base ≤ c
  cblk : w.heap[c]? = some (.cells #[gv, vN, vO] 56)
  rN : w.ownsRow base 3 1 vN num.length (intC num)
  rO : w.ownsRow base 39 4 vO out.length (outC out)
  rK : ∀ p ∈ out, w.ownsRow base 3 1 p.2 p.1.kids.length (intC p.1.kids)
  apart : InjB (ownB c vN vO out)
theorem owns_heap {w w' : World} {base e size n : Nat} {v : Value} {xs : List Value} (h : w.ownsRow base e size v n xs) (he : ∀ b, v.ownBlock = some b → w'.heap[b]? = w.heap[b]?) : w'.ownsRow base e size v n xs := by
  refine ⟨h.1, ?_⟩
  rcases h.2 with hn | ⟨g, cap, cur, rfl, hb, hg, rest⟩
  · exact .inl hn
  · exact .inr ⟨g, cap, cur, rfl, hb, by rw [he g rfl]; exact hg, rest⟩
section can
variable {w w1 : World} {base c : Nat} {gv : Value} {num : List Int} {out : List (GT × Value)} {vN vO : Value}
theorem CanAt.lt (h : CanAt w base c gv num out vN vO) {i b : Nat} (hi : ownB c vN vO out i = some b) : base ≤ b ∧ b < w.heap.size := by
  match i with
  | 0 => simp only [ownB, Option.some.injEq] at hi; subst hi; exact ⟨h.hb, (Array.getElem?_eq_some_iff.1 h.cblk).1⟩
  | 1 => exact h.rN.lt b hi
  | 2 => exact h.rO.lt b hi
  | j + 3 =>
    simp only [ownB, Option.bind_eq_some_iff] at hi
    obtain ⟨p, hp, hb⟩ := hi
    exact (h.rK p (List.mem_of_getElem? hp)).lt b hb
theorem CanAt.heap (h : CanAt w base c gv num out vN vO) (he : ∀ i b, ownB c vN vO out i = some b → w1.heap[b]? = w.heap[b]?) : CanAt w1 base c gv num out vN vO where
  hb := h.hb
  cblk := by rw [he 0 c rfl]; exact h.cblk
  rN := owns_heap h.rN fun b hb => he 1 b hb
  rO := owns_heap h.rO fun b hb => he 2 b hb
  rK := fun p hp => owns_heap (h.rK p hp) fun b hb => by
    obtain ⟨j, hj⟩ := List.getElem?_of_mem hp
    exact he (j + 3) b (by simp only [ownB, hj, Option.bind_some]; exact hb)
  apart := h.apart
theorem CanAt.alloc (h : CanAt w base c gv num out vN vO) (o : Obj) : CanAt (w.alloc o) base c gv num out vN vO :=
  h.heap fun i b hi => heap_alloc_old w o b (h.lt hi).2
theorem CanAt.numSet {bN n cp : Nat} (h : CanAt w base c gv num out (.slice (some ⟨bN, 0, none⟩) n cp) vO) (hn : n = num.length) (i : Nat) (v : Int) :
    CanAt (w.setCell ⟨bN, i, none⟩ (.int .i64 v)) base c gv (num.set i v) out (.slice (some ⟨bN, 0, none⟩) n cp) vO := by
  have far : ∀ k b, k ≠ 1 → ownB c (.slice (some ⟨bN, 0, none⟩) n cp) vO out k = some b → (w.setCell ⟨bN, i, none⟩ (.int .i64 v)).heap[b]? = w.heap[b]? := fun k b hk hb =>
    heap_setCell_other w _ b _ fun e => hk (h.apart k 1 b hb (by show some bN = some b; rw [e]))
  refine ⟨h.hb, (far 0 c (by omega) rfl).trans h.cblk, ?_, owns_heap h.rO fun b hb => far 2 b (by omega) hb, fun p hp => owns_heap (h.rK p hp) fun b hb => ?_, h.apart⟩
  · have h1 := h.rN
    rw [← hn] at h1
    have := (h1.stored i (.int .i64 v)).1
    rw [List.length_set, ← hn]
    rw [show intC (num.set i v) = (intC num).set i (.int .i64 v) by unfold intC; rw [List.map_set]]
    exact this
  · obtain ⟨j, hj⟩ := List.getElem?_of_mem hp
    exact far (j + 3) b (by omega) (by simp only [ownB, hj, Option.bind_some]; exact hb)
theorem CanAt.outApp (h : CanAt w base c gv num out vN vO) {t : GT} (ht : t.kids = []) {gg cap m : Nat} (hm : m = out.length)
    (hown : w1.ownsRow base 39 4 (.slice (some ⟨gg, 0, none⟩) (m + 1) cap) (m + 1) (outC out ++ gtC t (.slice none 0 0))) (hg : w.grownBy w1 vO.ownBlock) (hat : vO.ownBlock = some gg ∨ gg = w.heap.size) :
    CanAt (w1.setCell ⟨c, 2, none⟩ (.slice (some ⟨gg, 0, none⟩) (m + 1) cap)) base c gv num (out ++ [(t, .slice none 0 0)]) vN (.slice (some ⟨gg, 0, none⟩) (m + 1) cap) := by
  have hne : ∀ k b, k ≠ 2 → ownB c vN vO out k = some b → some b ≠ vO.ownBlock := fun k b hk hb e => hk (h.apart k 2 b hb e.symm)
  have far1 : ∀ k b, k ≠ 2 → ownB c vN vO out k = some b → w1.heap[b]? = w.heap[b]? := fun k b hk hb => hg.block b (h.lt hb).2 (hne k b hk hb)
  have far : ∀ k b, k ≠ 2 → k ≠ 0 → ownB c vN vO out k = some b → (w1.setCell ⟨c, 2, none⟩ (.slice (some ⟨gg, 0, none⟩) (m + 1) cap)).heap[b]? = w.heap[b]? := fun k b hk h0 hb =>
    (heap_setCell_other w1 _ b _ fun e => h0 (h.apart k 0 b hb (by show some c = some b; rw [e]))).trans (far1 k b hk hb)
  have hggc : gg ≠ c := by
    rintro rfl
    rcases hat with e | e
    · have := h.apart 0 2 gg rfl e; omega
    · have := (h.lt (i := 0) (b := gg) rfl).2; omega
  refine ⟨h.hb, ?_, owns_heap h.rN fun b hb => far 1 b (by omega) (by omega) hb, ?_, fun p hp => ?_, ?_⟩
  · exact heap_setCell_same w1 c 2 #[gv, vN, vO] 56 _ ((far1 0 c (by omega) rfl).trans h.cblk)
  · rw [List.length_append, List.length_singleton, ← hm, outC_app]
    refine owns_heap (w := w1) (by simpa [outC] using hown) fun b hb => ?_
    simp only [Value.ownBlock, Option.some.injEq] at hb
    subst hb
    exact heap_setCell_other w1 _ gg _ hggc
  · rcases List.mem_append.1 hp with hp | hp
    · refine owns_heap (h.rK p hp) fun b hb => ?_
      obtain ⟨j, hj⟩ := List.getElem?_of_mem hp
      exact far (j + 3) b (by omega) (by omega) (by simp only [ownB, hj, Option.bind_some]; exact hb)
    · simp only [List.mem_singleton] at hp
      subst hp
      simp only [ht]
      exact World.ownsRow_nil _ _ _ _
  · refine h.apart.upd (k0 := 2) (fun i hi => ?_) fun b hb => ?_
    · match i, hi with
      | 0, _ => rfl
      | 1, _ => rfl
      | j + 3, _ =>
        simp only [ownB]
        by_cases hj : j < out.length
        · rw [List.getElem?_append_left hj]
        · rw [List.getElem?_eq_none (by omega : out.length ≤ j)]
          by_cases hj2 : j = out.length
          · subst hj2; simp [Value.ownBlock]
          · rw [List.getElem?_eq_none (by simp; omega)]
    · simp only [ownB, Value.ownBlock, Option.some.injEq] at hb
      subst hb
      rcases hat with e | e
      · exact .inl e
      · exact .inr fun i hi => by have := (h.lt hi).2; omega
theorem CanAt.kidApp {bO n m cpO : Nat} (h : CanAt w base c gv num out vN (.slice (some ⟨bO, 0, none⟩) m cpO)) (hm : m = out.length) {t : GT} {kv : Value} (hp : out[n]? = some (t, kv)) {x : Int} {gg cap : Nat}
    (hown : w1.ownsRow base 3 1 (.slice (some ⟨gg, 0, none⟩) (t.kids.length + 1) cap) (t.kids.length + 1) (intC t.kids ++ [.int .i64 x])) (hg : w.grownBy w1 kv.ownBlock) (hat : kv.ownBlock = some gg ∨ gg = w.heap.size) :
    CanAt (w1.setCell ⟨bO, n * 4 + 3, none⟩ (.slice (some ⟨gg, 0, none⟩) (t.kids.length + 1) cap)) base c gv num (out.set n ({ t with kids := t.kids ++ [x] }, .slice (some ⟨gg, 0, none⟩) (t.kids.length + 1) cap)) vN (.slice (some ⟨bO, 0, none⟩) m cpO) := by
  have hn : n < out.length := (List.getElem?_eq_some_iff.1 hp).1
  have hkv : ownB c vN (.slice (some ⟨bO, 0, none⟩) m cpO) out (n + 3) = kv.ownBlock := by simp only [ownB, hp, Option.bind_some]
  have far1 : ∀ k b, k ≠ n + 3 → ownB c vN (.slice (some ⟨bO, 0, none⟩) m cpO) out k = some b → w1.heap[b]? = w.heap[b]? := fun k b hk hb => hg.block b (h.lt hb).2 fun e => hk (h.apart k (n + 3) b hb (by rw [hkv]; exact e.symm))
  have far : ∀ k b, k ≠ n + 3 → k ≠ 2 → ownB c vN (.slice (some ⟨bO, 0, none⟩) m cpO) out k = some b → (w1.setCell ⟨bO, n * 4 + 3, none⟩ (.slice (some ⟨gg, 0, none⟩) (t.kids.length + 1) cap)).heap[b]? = w.heap[b]? := fun k b hk h0 hb =>
    (heap_setCell_other w1 _ b _ fun e => h0 (h.apart k 2 b hb (by show some bO = some b; rw [e]))).trans (far1 k b hk hb)
  have hggO : gg ≠ bO := by
    rintro rfl
    rcases hat with e | e
    · have := h.apart 2 (n + 3) gg rfl (by rw [hkv]; exact e); omega
    · have := (h.lt (i := 2) (b := gg) rfl).2; omega
  refine ⟨h.hb, (far 0 c (by omega) (by omega) rfl).trans h.cblk, owns_heap h.rN fun b hb => far 1 b (by omega) (by omega) hb, ?_, fun p hp' => ?_, ?_⟩
  · have hO1 : w1.ownsRow base 39 4 (.slice (some ⟨bO, 0, none⟩) m cpO) m (outC out) := by
      have := owns_heap (w' := w1) h.rO fun b hb => far1 2 b (by omega) hb
      rwa [← hm] at this
    have := (hO1.stored (n * 4 + 3) (.slice (some ⟨gg, 0, none⟩) (t.kids.length + 1) cap)).1
    rw [outC_set hp (t.kids ++ [x])] at this
    rw [List.length_set, ← hm]
    exact this
  · obtain ⟨j, hj⟩ := List.getElem?_of_mem hp'
    rw [List.getElem?_set] at hj
    by_cases hnj : n = j
    · subst hnj
      rw [if_pos rfl, if_pos hn] at hj
      simp only [Option.some.injEq] at hj
      subst hj
      simp only [List.length_append, List.length_singleton, intC, List.map_append, List.map_cons, List.map_nil]
      refine owns_heap (w := w1) hown fun b hb => ?_
      simp only [Value.ownBlock, Option.some.injEq] at hb
      subst hb
      exact heap_setCell_other w1 _ gg _ hggO
    · rw [if_neg hnj] at hj
      refine owns_heap (h.rK p (List.mem_of_getElem? hj)) fun b hb => ?_
      exact far (j + 3) b (by omega) (by omega) (by simp only [ownB, hj, Option.bind_some]; exact hb)
  · refine h.apart.upd (k0 := n + 3) (fun i hi => ?_) fun b hb => ?_
    · match i, hi with
      | 0, _ => rfl
      | 1, _ => rfl
      | 2, _ => rfl
      | j + 3, hj =>
        simp only [ownB]
        rw [List.getElem?_set_ne (by omega)]
    · simp only [ownB, List.getElem?_set, if_true, hn, Option.bind_some, Value.ownBlock, Option.some.injEq] at hb
      subst hb
      rcases hat with e | e
      · exact .inl (by rw [hkv]; exact e)
      · exact .inr fun i hi => by have := (h.lt hi).2; omega
end can
end Vf
end Go.Proofs.YthdefengmkcacaaDoor
