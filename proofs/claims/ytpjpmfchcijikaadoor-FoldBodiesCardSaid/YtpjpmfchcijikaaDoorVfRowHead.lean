
/- A reading of a header is a header. No condition. -/
import Derived.Test.YtpjpmfchcijikaaDoorVfRowBase
namespace Go.Proofs.YtpjpmfchcijikaaDoor.Vf
set_option linter.unusedVariables false
set_option linter.unusedSimpArgs false
open Go.ChangeShapes Go.WideShapes Go.ChangeAt Go.RowKit

theorem header_fields : ∃ n0 n1 n2 n3, Tryd.prog.underlying 32 = some (.struct #[n0, n1, n2, n3]) ∧ n0.offset = 0 ∧ n1.offset = 1 ∧ n2.offset = 2 ∧ n3.offset = 3 ∧ Tryd.prog.underlying n0.type = some .bool ∧ Tryd.prog.underlying n1.type = some .bool ∧ Tryd.prog.underlying n2.type = some .bool ∧ Tryd.prog.underlying n3.type = some (.int .i64) ∧
    Tryd.prog.cellsOf n0.type = 1 ∧ Tryd.prog.cellsOf n1.type = 1 ∧ Tryd.prog.cellsOf n2.type = 1 ∧ Tryd.prog.cellsOf n3.type = 1 ∧ Tryd.prog.cellsOf 32 = 4 :=
  ⟨_, _, _, _, Tryd.underlying32, by kernel_rfl, by kernel_rfl, by kernel_rfl, by kernel_rfl, by kernel_rfl, by kernel_rfl, by kernel_rfl, by kernel_rfl, by kernel_rfl, by kernel_rfl, by kernel_rfl, by kernel_rfl, by kernel_rfl⟩

theorem header_of {H : Type} {enc : TypeId × Value → H} {w : World} {base : Nat} {sp : Nat → Bool} {held : Bool} {fuel : Nat} {cs : List Value} {x : DataW H × List MemPlace} (h : DataW.trod enc Tryd.prog w base sp held fuel 32 cs = some x) :
    ∃ (F S K : Bool) (d : Int), cs = [.bool F, .bool S, .bool K, .int .i64 d] := by
  obtain ⟨n0, n1, n2, n3, hu, o0, o1, o2, o3, t0, t1, t2, t3, c0, c1, c2, c3, c4⟩ := header_fields
  obtain ⟨xs, n, rfl, _, hl, hxl, hf⟩ := DataW.trod_struct hu h
  have g0 := hf 0 n0 rfl
  have g1 := hf 1 n1 rfl
  have g2 := hf 2 n2 rfl
  have g3 := hf 3 n3 rfl
  rw [c4] at hl
  rw [o0, c0] at g0
  rw [o1, c1] at g1
  rw [o2, c2] at g2
  rw [o3, c3] at g3
  match cs, hl with
  | [a, b, c, e], _ =>
    match xs, hxl with
    | [x0, x1, x2, x3], _ =>
      simp only [List.drop_zero, List.drop_succ_cons, List.take_succ_cons, List.take_zero, List.getElem?_cons_zero, List.getElem?_cons_succ] at g0 g1 g2 g3
      obtain ⟨F, e0, _⟩ := DataW.trod_bool t0 g0
      obtain ⟨S, e1, _⟩ := DataW.trod_bool t1 g1
      obtain ⟨K, e2, _⟩ := DataW.trod_bool t2 g2
      obtain ⟨d, e3, _⟩ := DataW.trod_int t3 g3
      simp only [List.cons.injEq, and_true] at e0 e1 e2 e3
      subst e0; subst e1; subst e2; subst e3
      exact ⟨F, S, K, d, rfl⟩
end Go.Proofs.YtpjpmfchcijikaaDoor.Vf
