
/- A reading of steps of a path is steps. No condition. -/
import Derived.Test.YtlionohbndehgaaDoorVfRowBase
import Derived.Test.YtlionohbndehgaaDoorVfPathI
import Derived.Deep.Slices
namespace Go.Proofs.YtlionohbndehgaaDoor.Vf
set_option linter.unusedVariables false
set_option linter.unusedSimpArgs false
open Go.ChangeShapes Go.WideShapes Go.ChangeAt Go.RowKit

theorem step_fields : ∃ n0 n1 n2, Tryd.prog.underlying 27 = some (.struct #[n0, n1, n2]) ∧ n0.offset = 0 ∧ n1.offset = 1 ∧ n2.offset = 2 ∧ Tryd.prog.underlying n0.type = some (.int .i64) ∧ Tryd.prog.underlying n1.type = some .string ∧ Tryd.prog.underlying n2.type = some (.int .i64) ∧
    Tryd.prog.cellsOf n0.type = 1 ∧ Tryd.prog.cellsOf n1.type = 1 ∧ Tryd.prog.cellsOf n2.type = 1 ∧ Tryd.prog.cellsOf 27 = 3 :=
  ⟨_, _, _, Tryd.underlying27, by kernel_rfl, by kernel_rfl, by kernel_rfl, by kernel_rfl, by kernel_rfl, by kernel_rfl, by kernel_rfl, by kernel_rfl, by kernel_rfl, by kernel_rfl⟩
theorem i64R_of_wf {n : Int} (h : (Lit.int .i64 n).wf = true) : i64R n := by
  simp [Lit.wf, IntKind.min, IntKind.max, IntKind.signed, IntKind.bits] at h
  unfold i64R; omega
set_option maxRecDepth 100000 in
theorem step_of {H : Type} {enc : TypeId × Value → H} {w : World} {base : Nat} {sp : Nat → Bool} {held : Bool} {fuel : Nat} {cs : List Value} {x : DataW H × List MemPlace} (h : DataW.trod enc Tryd.prog w base sp held fuel 27 cs = some x) :
    ∃ (k : Int) (s : ByteArray) (v : Int), cs = [.int .i64 k, .string s, .int .i64 v] ∧ i64R k ∧ i64R v := by
  obtain ⟨n0, n1, n2, hu, o0, o1, o2, t0, t1, t2, c0, c1, c2, c4⟩ := step_fields
  obtain ⟨xs, n, rfl, _, hl, hxl, hf⟩ := DataW.trod_struct hu h
  have g0 := hf 0 n0 rfl
  have g1 := hf 1 n1 rfl
  have g2 := hf 2 n2 rfl
  rw [c4] at hl
  rw [o0, c0] at g0
  rw [o1, c1] at g1
  rw [o2, c2] at g2
  match cs, hl with
  | [a, b, c], _ =>
    match xs, hxl with
    | [x0, x1, x2], _ =>
      simp only [List.drop_zero, List.drop_succ_cons, List.take_succ_cons, List.take_zero, List.getElem?_cons_zero, List.getElem?_cons_succ] at g0 g1 g2
      obtain ⟨k, e0, _, w0⟩ := DataW.trod_int t0 g0
      obtain ⟨s, e1, _⟩ := DataW.trod_string t1 g1
      obtain ⟨v, e2, _, w2⟩ := DataW.trod_int t2 g2
      simp only [List.cons.injEq, and_true] at e0 e1 e2
      subst e0; subst e1; subst e2
      exact ⟨k, s, v, rfl, i64R_of_wf w0, i64R_of_wf w2⟩
/-- Three cells. -/
abbrev Tri := Int × ByteArray × Int
def triV (y : Tri) : List Value := [.int .i64 y.1, .string y.2.1, .int .i64 y.2.2]
def triZ (y : Tri) : StZ := (y.1, y.2.1.data.toList, y.2.2)
def LiesT (w : World) (b o : Nat) (y : Tri) : Prop := w.cell? ⟨b, o, none⟩ = some (.int .i64 y.1) ∧ w.cell? ⟨b, o + 1, none⟩ = some (.string y.2.1) ∧ w.cell? ⟨b, o + 2, none⟩ = some (.int .i64 y.2.2)
theorem tri_cells {w : World} {b : Nat} : ∀ (l : List Tri) (o : Nat), (∀ i y, l[i]? = some y → LiesT w b (o + i * 3) y) → ∀ j v, (l.flatMap triV)[j]? = some v → w.cell? ⟨b, o + j, none⟩ = some v
  | [], _, _, j, v, h => by simp at h
  | y :: l, o, hl, j, v, h => by
    obtain ⟨h0, h1, h2⟩ := hl 0 y rfl
    simp only [Nat.zero_mul, Nat.add_zero] at h0 h1 h2
    simp only [List.flatMap_cons, triV] at h
    match j, h with
    | 0, h => simp at h; subst h; exact h0
    | 1, h => simp at h; subst h; exact h1
    | 2, h => simp at h; subst h; exact h2
    | j + 3, h =>
      rw [show o + (j + 3) = (o + 3) + j by omega]
      refine tri_cells l (o + 3) (fun i z hz => ?_) j v (by simpa [triV] using h)
      have := hl (i + 1) z (by simpa using hz)
      rw [show o + (i + 1) * 3 = o + 3 + i * 3 by omega] at this
      exact this
theorem tri_rel (w : World) (B : Nat → Prop) : ∀ l : List Tri, RelL w B (flats ((l.map triZ).map stZ)) (l.flatMap triV)
  | [] => .nil
  | y :: l => .cons _ _ _ _ (.int _ _) (.cons _ _ _ _ (.str _) (.cons _ _ _ _ (.int _ _) (tri_rel w B l)))
theorem rel_of_steps {H : Type} {enc : TypeId × Value → H} {w : World} {base : Nat} {sp : Nat → Bool} {held : Bool} {fuel : Nat} {T : TypeId} (ht : Tryd.prog.underlying T = some (.slice 27)) {x : DataW H × List MemPlace} {a : Option Addr} {len cap : Nat}
    (h : DataW.trod enc Tryd.prog w base sp held fuel T [.slice a len cap] = some x) : ∃ l : List StZ, l.length = len ∧ (∀ y ∈ l, i64R y.1 ∧ i64R y.2.2) ∧ Rel w (fun _ => False) (.row 3 (l.map stZ)) (.slice a len cap) := by
  obtain ⟨_, _, _, _, _, _, _, _, _, _, _, _, _, c4⟩ := step_fields
  rcases Go.Deep.open_slice ht h with ⟨hcs, _⟩ | ⟨a', len', cap', m, n, Dd, Pl, hcs, _, hlc, _, hm, _, hel⟩
  · simp only [List.cons.injEq, Value.slice.injEq, and_true] at hcs
    obtain ⟨rfl, rfl, rfl⟩ := hcs
    exact ⟨[], rfl, by simp, .rnil 3 none 0⟩
  · simp only [List.cons.injEq, Value.slice.injEq, and_true] at hcs
    obtain ⟨rfl, rfl, rfl⟩ := hcs
    have hml : len ≤ m := by rw [hm]; split <;> omega
    by_cases h0 : len = 0
    · subst h0; exact ⟨[], rfl, by simp, .rnil 3 (some a') cap⟩
    rw [c4] at hel
    have each : ∀ i, i < len → ∃ y : Tri, (i64R y.1 ∧ i64R y.2.2) ∧ w.cell? ((a'.add (i * 3)).add 0) = some (.int .i64 y.1) ∧ w.cell? ((a'.add (i * 3)).add 1) = some (.string y.2.1) ∧ w.cell? ((a'.add (i * 3)).add 2) = some (.int .i64 y.2.2) := by
      intro i hi
      obtain ⟨cs', h1, h2⟩ := hel i (by omega)
      obtain ⟨k, s, v, rfl, r1, r2⟩ := step_of h2
      obtain ⟨_, _, hc⟩ := World.cells?_some h1
      exact ⟨(k, s, v), ⟨r1, r2⟩, hc 0 (by omega), hc 1 (by omega), hc 2 (by omega)⟩
    obtain ⟨b, o, spt⟩ := a'
    have hsp : spt = none ∧ b < w.heap.size := by
      obtain ⟨y, _, hc0, _⟩ := each 0 (by omega)
      rw [Nat.zero_mul, show ((⟨b, o, spt⟩ : Addr).add 0).add 0 = ⟨b, o, spt⟩ by simp [Addr.add]] at hc0
      unfold World.cell? at hc0
      split at hc0
      · rename_i hh
        split at hc0
        · cases hc0
        · rename_i hs; exact ⟨by cases spt <;> simp_all, lt_of_get hh⟩
      · cases hc0
    obtain ⟨rfl, hb⟩ := hsp
    have build : ∀ k, k ≤ len → ∃ l : List Tri, l.length = k ∧ (∀ y ∈ l, i64R y.1 ∧ i64R y.2.2) ∧ ∀ i y, l[i]? = some y → LiesT w b (o + i * 3) y := by
      intro k
      induction k with
      | zero => intro _; exact ⟨[], rfl, by simp, by simp⟩
      | succ k ih =>
        intro hk
        obtain ⟨l, hl1, hl2, hl3⟩ := ih (by omega)
        obtain ⟨y, hr, y0, y1, y2⟩ := each k (by omega)
        rw [Addr.add_mk, Addr.add_mk] at y0 y1 y2
        refine ⟨l ++ [y], by simp [hl1], fun z hz => ?_, fun i z hz => ?_⟩
        · rcases List.mem_append.1 hz with hz | hz
          · exact hl2 z hz
          · rw [List.mem_singleton.1 hz]; exact hr
        · by_cases hi : i < l.length
          · rw [List.getElem?_append_left hi] at hz; exact hl3 i z hz
          · rw [List.getElem?_append_right (by omega)] at hz
            have hi0 : i - l.length = 0 := by have := (List.getElem?_eq_some_iff.1 hz).1; simp at this; omega
            rw [hi0] at hz
            simp at hz
            subst hz
            have : i = k := by omega
            subst this
            exact ⟨y0, y1, y2⟩
    obtain ⟨l, hl1, hl2, hl3⟩ := build len (Nat.le_refl _)
    refine ⟨l.map triZ, by rw [List.length_map]; exact hl1, fun y hy => ?_, ?_⟩
    · obtain ⟨z, hz, rfl⟩ := List.mem_map.1 hy
      exact hl2 z hz
    · have hlen : ((l.map triZ).map stZ).length = len := by simp [hl1]
      have := Rel.row (w := w) (B := fun _ => False) 3 ((l.map triZ).map stZ) (l.flatMap triV) b o cap hb (fun h => h) (by omega)
        (fun y hy => by
          obtain ⟨z, _, rfl⟩ := List.mem_map.1 hy
          rfl)
        (fun v hv => by
          obtain ⟨z, _, hv⟩ := List.mem_flatMap.1 hv
          simp only [triV, List.mem_cons, List.not_mem_nil, or_false] at hv
          rcases hv with rfl | rfl | rfl <;> rfl)
        (tri_rel w _ l)
        (tri_cells l o hl3)
      rw [hlen] at this
      exact this
end Go.Proofs.YtlionohbndehgaaDoor.Vf
