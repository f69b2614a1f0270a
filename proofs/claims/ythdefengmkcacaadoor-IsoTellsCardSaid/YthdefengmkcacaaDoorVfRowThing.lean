
/- A reading of things by small numbers is such things. No condition. -/
import Derived.Test.YthdefengmkcacaaDoorVfRowInt
import Derived.Test.YthdefengmkcacaaDoorVfGraph
import Derived.Deep.Slices
namespace Go.Proofs.YthdefengmkcacaaDoor.Vf
set_option linter.unusedVariables false
set_option linter.unusedSimpArgs false
open Go.ChangeShapes Go.WideShapes Go.ChangeAt Go.RowKit

theorem thing_fields : ∃ n0 n1 n2 n3 n4 e, Tryd.prog.underlying 37 = some (.struct #[n0, n1, n2, n3, n4]) ∧ n0.offset = 0 ∧ n1.offset = 1 ∧ n2.offset = 2 ∧ n3.offset = 3 ∧ n4.offset = 4 ∧
    Tryd.prog.underlying n0.type = some (.int .i64) ∧ Tryd.prog.underlying n1.type = some (.int .i64) ∧ Tryd.prog.underlying n2.type = some (.int .i64) ∧ Tryd.prog.underlying n3.type = some .string ∧ Tryd.prog.underlying n4.type = some (.slice e) ∧ Tryd.prog.underlying e = some (.int .i64) ∧ Tryd.prog.cellsOf e = 1 ∧
    Tryd.prog.cellsOf n0.type = 1 ∧ Tryd.prog.cellsOf n1.type = 1 ∧ Tryd.prog.cellsOf n2.type = 1 ∧ Tryd.prog.cellsOf n3.type = 1 ∧ Tryd.prog.cellsOf n4.type = 1 ∧ Tryd.prog.cellsOf 37 = 5 :=
  ⟨_, _, _, _, _, 3, Tryd.underlying37, by kernel_rfl, by kernel_rfl, by kernel_rfl, by kernel_rfl, by kernel_rfl, by kernel_rfl, by kernel_rfl, by kernel_rfl, by kernel_rfl, by kernel_rfl, by kernel_rfl, by kernel_rfl, by kernel_rfl, by kernel_rfl, by kernel_rfl, by kernel_rfl, by kernel_rfl, by kernel_rfl⟩
/-- Fiv5 cells. -/
structure Fiv5 (w : World) where
  k : Int
  t : Int
  v : Int
  s : ByteArray
  ks : List Int
  kv : Value
  rel : Rel w (fun _ => False) (.row 1 (ks.map (AV.int .i64))) kv
  one : kv.oneCell' = true
def Fiv5.vs {w : World} (y : Fiv5 w) : List Value := [.int .i64 y.k, .int .i64 y.t, .int .i64 y.v, .string y.s, y.kv]
def Fiv5.th {w : World} (y : Fiv5 w) : LT := ⟨y.k, y.t, y.v, y.s.data.toList, y.ks⟩
set_option maxRecDepth 100000 in
theorem five_of {H : Type} {enc : TypeId × Value → H} {w : World} {base : Nat} {sp : Nat → Bool} {held : Bool} {fuel : Nat} {cs : List Value} {x : DataW H × List MemPlace} (h : DataW.trod enc Tryd.prog w base sp held fuel 37 cs = some x) :
    ∃ y : Fiv5 w, cs = y.vs := by
  obtain ⟨n0, n1, n2, n3, n4, e, hu, o0, o1, o2, o3, o4, t0, t1, t2, t3, t4, te, ce, c0, c1, c2, c3, c4, c5⟩ := thing_fields
  obtain ⟨xs, n, rfl, _, hl, hxl, hf⟩ := DataW.trod_struct hu h
  have g0 := hf 0 n0 rfl
  have g1 := hf 1 n1 rfl
  have g2 := hf 2 n2 rfl
  have g3 := hf 3 n3 rfl
  have g4 := hf 4 n4 rfl
  rw [c5] at hl
  rw [o0, c0] at g0
  rw [o1, c1] at g1
  rw [o2, c2] at g2
  rw [o3, c3] at g3
  rw [o4, c4] at g4
  match cs, hl with
  | [a, b, c, d, f], _ =>
    match xs, hxl with
    | [x0, x1, x2, x3, x4], _ =>
      simp only [List.drop_zero, List.drop_succ_cons, List.take_succ_cons, List.take_zero, List.getElem?_cons_zero, List.getElem?_cons_succ] at g0 g1 g2 g3 g4
      obtain ⟨k, e0, _, _⟩ := DataW.trod_int t0 g0
      obtain ⟨t, e1, _, _⟩ := DataW.trod_int t1 g1
      obtain ⟨v, e2, _, _⟩ := DataW.trod_int t2 g2
      obtain ⟨s, e3, _⟩ := DataW.trod_string t3 g3
      simp only [List.cons.injEq, and_true] at e0 e1 e2 e3
      subst e0; subst e1; subst e2; subst e3
      rcases open_ints t4 te ce g4 with ⟨hcs, _⟩ | ⟨x, l, c, zs, hcs, _, hl, hm, hz, _, hcell, hwz⟩
      · simp only [List.cons.injEq, and_true] at hcs
        subst hcs
        exact ⟨⟨k, t, v, s, [], _, .rnil 1 none 0, rfl⟩, rfl⟩
      · simp only [List.cons.injEq, and_true] at hcs
        subst hcs
        obtain ⟨ws, _, hr⟩ := rel_of_i64s (w := w) (a := some x) (len := l) (cap := c) (zs := zs) (.inr ⟨_, rfl, hl, by split at hz <;> omega, hcell⟩)
        exact ⟨⟨k, t, v, s, ws, _, hr, rfl⟩, rfl⟩
def LiesF (w : World) (b o : Nat) (y : Fiv5 w) : Prop := ∀ j v, y.vs[j]? = some v → w.cell? ⟨b, o + j, none⟩ = some v
theorem five_cells {w : World} {b : Nat} : ∀ (l : List (Fiv5 w)) (o : Nat), (∀ i y, l[i]? = some y → LiesF w b (o + i * 5) y) → ∀ j v, (l.flatMap Fiv5.vs)[j]? = some v → w.cell? ⟨b, o + j, none⟩ = some v
  | [], _, _, j, v, h => by simp at h
  | y :: l, o, hl, j, v, h => by
    have h0 := hl 0 y rfl
    simp only [Nat.zero_mul, Nat.add_zero] at h0
    rw [List.flatMap_cons] at h
    have hlen : y.vs.length = 5 := rfl
    by_cases hj : j < 5
    · rw [List.getElem?_append_left (by omega)] at h
      exact h0 j v h
    · rw [List.getElem?_append_right (by omega), hlen] at h
      rw [show o + j = (o + 5) + (j - 5) by omega]
      refine five_cells l (o + 5) (fun i z hz => ?_) (j - 5) v h
      have := hl (i + 1) z (by simpa using hz)
      rw [show o + (i + 1) * 5 = o + 5 + i * 5 by omega] at this
      exact this
theorem five_rel (w : World) : ∀ l : List (Fiv5 w), RelL w (fun _ => False) (flats ((l.map Fiv5.th).map LT.av)) (l.flatMap Fiv5.vs)
  | [] => .nil
  | y :: l => .cons _ _ _ _ (.int _ _) (.cons _ _ _ _ (.int _ _) (.cons _ _ _ _ (.int _ _) (.cons _ _ _ _ (.str _) (.cons _ _ _ _ y.rel (five_rel w l)))))
theorem rel_of_things {H : Type} {enc : TypeId × Value → H} {w : World} {base : Nat} {sp : Nat → Bool} {held : Bool} {fuel : Nat} {T : TypeId} (ht : Tryd.prog.underlying T = some (.slice 37)) {x : DataW H × List MemPlace} {a : Option Addr} {len cap : Nat}
    (h : DataW.trod enc Tryd.prog w base sp held fuel T [.slice a len cap] = some x) : ∃ l : List LT, l.length = len ∧ Rel w (fun _ => False) (.row 5 (l.map LT.av)) (.slice a len cap) := by
  obtain ⟨_, _, _, _, _, _, _, _, _, _, _, _, _, _, _, _, _, _, _, _, _, _, _, _, c5⟩ := thing_fields
  rcases Go.Deep.open_slice ht h with ⟨hcs, _⟩ | ⟨a', len', cap', m, n, Dd, Pl, hcs, _, hlc, _, hm, _, hel⟩
  · simp only [List.cons.injEq, Value.slice.injEq, and_true] at hcs
    obtain ⟨rfl, rfl, rfl⟩ := hcs
    exact ⟨[], rfl, .rnil 5 none 0⟩
  · simp only [List.cons.injEq, Value.slice.injEq, and_true] at hcs
    obtain ⟨rfl, rfl, rfl⟩ := hcs
    have hml : len ≤ m := by rw [hm]; split <;> omega
    by_cases h0 : len = 0
    · subst h0; exact ⟨[], rfl, .rnil 5 (some a') cap⟩
    rw [c5] at hel
    have each : ∀ i, i < len → ∃ y : Fiv5 w, ∀ j v, y.vs[j]? = some v → w.cell? ((a'.add (i * 5)).add j) = some v := by
      intro i hi
      obtain ⟨cs', h1, h2⟩ := hel i (by omega)
      obtain ⟨y, rfl⟩ := five_of h2
      obtain ⟨_, _, hc⟩ := World.cells?_some h1
      refine ⟨y, fun j v hj => ?_⟩
      have hlt : j < 5 := (List.getElem?_eq_some_iff.1 hj).1
      rw [hc j hlt, hj]
    obtain ⟨b, o, spt⟩ := a'
    have hsp : spt = none ∧ b < w.heap.size := by
      obtain ⟨y, hc0⟩ := each 0 (by omega)
      have hc0 := hc0 0 _ rfl
      rw [Nat.zero_mul, show ((⟨b, o, spt⟩ : Addr).add 0).add 0 = ⟨b, o, spt⟩ by simp [Addr.add]] at hc0
      unfold World.cell? at hc0
      split at hc0
      · rename_i hh
        split at hc0
        · cases hc0
        · rename_i hs; exact ⟨by cases spt <;> simp_all, lt_of_get hh⟩
      · cases hc0
    obtain ⟨rfl, hb⟩ := hsp
    have build : ∀ k, k ≤ len → ∃ l : List (Fiv5 w), l.length = k ∧ ∀ i y, l[i]? = some y → LiesF w b (o + i * 5) y := by
      intro k
      induction k with
      | zero => intro _; exact ⟨[], rfl, by simp⟩
      | succ k ih =>
        intro hk
        obtain ⟨l, hl1, hl3⟩ := ih (by omega)
        obtain ⟨y, hy⟩ := each k (by omega)
        refine ⟨l ++ [y], by simp [hl1], fun i z hz => ?_⟩
        by_cases hi : i < l.length
        · rw [List.getElem?_append_left hi] at hz; exact hl3 i z hz
        · rw [List.getElem?_append_right (by omega)] at hz
          have hi0 : i - l.length = 0 := by have := (List.getElem?_eq_some_iff.1 hz).1; simp at this; omega
          rw [hi0] at hz
          simp at hz
          subst hz
          have : i = k := by omega
          subst this
          intro j v hj
          have := hy j v hj
          rw [Addr.add_mk, Addr.add_mk] at this
          exact this
    obtain ⟨l, hl1, hl3⟩ := build len (Nat.le_refl _)
    refine ⟨l.map Fiv5.th, by rw [List.length_map]; exact hl1, ?_⟩
    have hlen : ((l.map Fiv5.th).map LT.av).length = len := by simp [hl1]
    have := Rel.row (w := w) (B := fun _ => False) 5 ((l.map Fiv5.th).map LT.av) (l.flatMap Fiv5.vs) b o cap hb (fun h => h) (by omega)
      (fun y hy => by
        obtain ⟨z, _, rfl⟩ := List.mem_map.1 hy
        rfl)
      (fun v hv => by
        obtain ⟨z, _, hv⟩ := List.mem_flatMap.1 hv
        simp only [Fiv5.vs, List.mem_cons, List.not_mem_nil, or_false] at hv
        rcases hv with rfl | rfl | rfl | rfl | rfl
        · rfl
        · rfl
        · rfl
        · rfl
        · exact z.one)
      (five_rel w l)
      (five_cells l o hl3)
    rw [hlen] at this
    exact this
end Go.Proofs.YthdefengmkcacaaDoor.Vf
