
/- slices.Reverse of numbers: the row that is lent to it holds the numbers backwards. By the shelf's contract. No condition. -/
import Derived.Test.YthdefengmkcacaaDoorVfSound
import Derived.Test.YthdefengmkcacaaDoorVfLay
import Derived.Shelf.Slices.Cells
namespace Go.Proofs.YthdefengmkcacaaDoor
open Go.RowKit Go.Lib
set_option linter.unusedVariables false
set_option linter.unusedSimpArgs false
namespace Vf
theorem setCell_blk {w : World} {b o : Nat} {v : Value} {cells : Array Value} {e : TypeId} {fr : Nat × Nat} (h : w.heap[b]? = some (.cells cells e fr)) : w.setCell ⟨b, o, none⟩ v = setBlk w b (.cells (cells.setIfInBounds o v) e fr) := by
  have hb := lt_of_get h
  unfold World.setCell setBlk
  congr 1
  apply Array.ext_getElem?
  intro k
  rw [Array.getElem?_modify, Array.getElem?_setIfInBounds]
  by_cases hk : b = k
  · subst hk
    rw [if_pos rfl, if_pos rfl, if_pos hb, h]; rfl
  · simp [hk]
theorem setCells_blk {b : Nat} {e : TypeId} {fr : Nat × Nat} : ∀ (vs : List Value) (o : Nat) (w : World) (cells : Array Value), w.heap[b]? = some (.cells cells e fr) → o + vs.length ≤ cells.size →
    ∃ cells', (w.setCells b o vs).heap[b]? = some (.cells cells' e fr) ∧ cells'.size = cells.size ∧ (∀ j v, vs[j]? = some v → cells'[o + j]? = some v) ∧ (∀ k, k < o → cells'[k]? = cells[k]?) ∧ Agree (fun y => y = b) w (w.setCells b o vs)
  | [], o, w, cells, h, _ => ⟨cells, h, rfl, fun j v hj => by simp at hj, fun _ _ => rfl, Agree.refl _ _⟩
  | v :: r, o, w, cells, h, hl => by
    simp only [List.length_cons] at hl
    have h1 := setCell_blk (o := o) (v := v) h
    have h2 : (w.setCell ⟨b, o, none⟩ v).heap[b]? = some (.cells (cells.setIfInBounds o v) e fr) := by rw [h1]; exact heap_setBlk (lt_of_get h)
    obtain ⟨c2, g1, g2, g3, g4, g5⟩ := setCells_blk r (o + 1) _ _ h2 (by simp; omega)
    refine ⟨c2, g1, by rw [g2]; simp, fun j u hj => ?_, fun k hk => ?_, ?_⟩
    · cases j with
      | zero =>
        simp only [List.getElem?_cons_zero, Option.some.injEq] at hj
        subst hj
        rw [Nat.add_zero, g4 o (by omega), Array.getElem?_setIfInBounds, if_pos rfl, if_pos (by omega)]
      | succ j =>
        simp only [List.getElem?_cons_succ] at hj
        rw [show o + (j + 1) = (o + 1) + j by omega]
        exact g3 j u hj
    · rw [g4 k (by omega), Array.getElem?_setIfInBounds, if_neg (by omega)]
    · have hA : Agree (fun y => y = b) w (w.setCell ⟨b, o, none⟩ v) := by rw [h1]; exact agree_setBlk
      exact hA.trans g5

theorem intsOf_some : ∀ {xs : List AV} {l : List Int}, intsOf xs = some l → xs = l.map (AV.int .i64)
  | [], l, h => by simp only [intsOf, Option.some.injEq] at h; subst h; rfl
  | x :: r, l, h => by
    have key : ∀ n, x = .int .i64 n → x :: r = l.map (AV.int .i64) := by
      intro n hx
      subst hx
      have h' : ((intsOf r).bind fun l => some (n :: l)) = some l := h
      rw [Option.bind_eq_some_iff] at h'
      obtain ⟨l', h1, h2⟩ := h'
      simp only [Option.some.injEq] at h2
      subst h2
      rw [List.map_cons, intsOf_some h1]
    cases x with
    | int k n =>
      cases k with
      | i64 => exact key n rfl
      | _ => cases h
    | _ => cases h
theorem flats_ints (l : List Int) : flats (l.map (AV.int .i64)) = l.map (AV.int .i64) := by
  induction l with
  | nil => rfl
  | cons a r ih => rw [List.map_cons]; show AV.int .i64 a :: flats (r.map (AV.int .i64)) = _; rw [ih]
theorem rel_ints {w : World} {B : Nat → Prop} : ∀ {l : List Int} {vs : List Value}, RelL w B (l.map (AV.int .i64)) vs → vs = l.map (Value.int .i64)
  | [], vs, h => by cases h; rfl
  | a :: r, vs, h => by
    cases h with
    | cons _ _ _ _ h1 h2 =>
    cases h1
    rw [rel_ints h2]; rfl
theorem ints_rel {w : World} {B : Nat → Prop} : ∀ (l : List Int), RelL w B (l.map (AV.int .i64)) (l.map (Value.int .i64))
  | [] => .nil
  | a :: r => .cons _ _ _ _ (.int _ _) (ints_rel r)
theorem Inv.rev0 {C : Cx} {ρ : Rho} {w : World} {l : List Int} {args : List Value} (hl : args.length = 1) (hI : Inv C ρ ⟨envV 0 [.ref (.row 1 (l.map (AV.int .i64)))], memV 0 [.ref (.row 1 (l.map (AV.int .i64)))]⟩ args.toArray w) :
    ∃ v, args = [v] ∧ ((∃ b o c cp cells e fr, v = .slice (some ⟨b, o, none⟩) l.length c ∧ ρ rT = some (b, o, cp) ∧ l.length ≤ cp ∧ w.heap[b]? = some (.cells cells e fr) ∧ Free cells.size fr ∧ o + cp * 1 ≤ cells.size ∧ (∀ (j : Nat) (n : Int), l[j]? = some n → cells[o + j]? = some (.int .i64 n)) ∧ (C.w0.heap.size ≤ b ∨ C.W b)) ∨ (v = .slice none 0 0 ∧ l = [] ∧ ρ rT = none)) := by
  obtain ⟨v, rfl⟩ : ∃ v, args = [v] := by
    cases args with
    | nil => cases hl
    | cons v r => cases r with
      | nil => exact ⟨v, rfl⟩
      | cons _ _ => simp at hl
  refine ⟨v, rfl, ?_⟩
  have h1 := (hI.env 0 (.own rT 0 (l.map (AV.int .i64)).length none) rfl).2
  have h1' : RelS w (bad C.Bo ρ [(rT, .row 1 (l.map (AV.int .i64)) false)]) ρ [(rT, .row 1 (l.map (AV.int .i64)) false)] (.own rT 0 (l.map (AV.int .i64)).length none) v := h1
  rw [List.length_map] at h1'
  generalize hsl : l.length = m at h1' ⊢
  cases h1' with
  | own _ _ _ _ b o cp c blk hm hr hc hlc hn =>
    obtain rfl : Blk.row 1 (l.map (AV.int .i64)) false = blk := by simpa [get] using hm
    obtain ⟨b', o', cp', k1, k2, k3, k4⟩ := (hI.mem rT (.row 1 (l.map (AV.int .i64)) false) rfl).resolve_right fun hh => by rw [hr] at hh; cases hh.1
    rw [hr] at k1
    simp only [Option.some.injEq, Prod.mk.injEq] at k1
    obtain ⟨rfl, rfl, rfl⟩ := k1
    obtain ⟨cells, e, fr, vs, m1, m2, m3, m4, m5, m6, m7, m8⟩ := k2
    rw [flats_ints] at m7
    have := rel_ints m7
    subst this
    refine .inl ⟨b, o, c, cp, cells, e, fr, by simp [Blk.sz], hr, by simpa [hsl] using m3, m1, m2, m4, fun j n hj => m8 j _ (by rw [List.getElem?_map, hj]; rfl), k4 rfl⟩
  | ownNil _ _ blk hm hr =>
    exact .inr ⟨rfl, List.length_eq_zero_iff.1 hsl, hr⟩
end Vf
end Go.Proofs.YthdefengmkcacaaDoor
