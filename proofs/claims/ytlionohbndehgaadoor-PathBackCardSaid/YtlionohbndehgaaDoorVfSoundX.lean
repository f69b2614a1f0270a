
/- What our contracts say is what calls come to; so what D answers is what calls come to. No condition. -/
import Derived.Test.YtlionohbndehgaaDoorVfSound
import Derived.Test.YtlionohbndehgaaDoorVfDoubled
namespace Go.Proofs.YtlionohbndehgaaDoor
open Go.RowKit Go.Lib
set_option linter.unusedVariables false
set_option linter.unusedSimpArgs false
namespace Vf
set_option maxRecDepth 100000 in
theorem X_sound : RSound0 Tryd.prog gl X := by
  intro f vs r h Bo w args hG hBo hrel
  unfold X at h
  cases hf : Nat.beq f id_doublePut
  case true =>
    rw [hf] at h
    simp only [cond_true] at h
    have e := Nat.eq_of_beq_eq_true hf
    subst e
    split at h
    case h_2 => cases h
    rename_i s
    by_cases hle : s.length ≤ 1000000
    · rw [cond_d hle] at h
      simp only [Option.some.injEq] at h
      subst h
      cases hrel with
      | cons _ v1 _ _ h1 ht =>
      cases ht
      cases h1 with
      | str s =>
      refine callsX_of (by kernel_rfl) (Calls.mono (put_walk s w hle hG hBo) fun e w' ⟨he, hb⟩ => ?_)
      refine ⟨_, he, Agree.of_below hb, Rel.tup _ _ (.cons _ _ _ _ (Rel.str ⟨(if Lib.validD s.data.toList = true then putL s.data.toList else []).toArray⟩) (.cons _ _ _ _ (.bool _) .nil)), fun h => by cases h⟩
    · rw [cond_nd hle] at h; cases h
  rw [hf] at h
  simp only [cond_false] at h
  clear hf
  exact X0_sound f vs r h Bo w args hG hBo hrel

set_option maxRecDepth 100000 in
theorem XR_sound : RSound Tryd.prog gl XR := fun f vs r h => X_sound.up f vs r h

set_option maxRecDepth 100000 in
theorem D_sound : RSound0 Tryd.prog gl D := (den_sound (by kernel_rfl) XR_sound table_fit).plain

set_option maxRecDepth 100000 in
/-- A call of a function of the table, as the walk wants it. -/
theorem calls_of_D {f : Nat} {vs : List AV} {r : Res} (hb : callFits Tryd.prog f = true) (h : D f vs = some r) (w : World) (args : List Value) (hG : GOk gl (fun _ => False) w) (hrel : RelL w (fun _ => False) vs args) :
    Calls Tryd.prog f args.toArray w fun e w' => ∃ v, e = .returned v ∧ Agree (fun _ => False) w w' ∧ Rel w' (fun _ => False) r.v v := by
  have := D_sound f vs r h (fun _ => False) w args hG (fun _ h => h.elim) hrel
  unfold CallsX at this
  rw [run_callFunc hb] at this
  exact this.mono fun e w' ⟨v, h1, h2, h3, _⟩ => ⟨v, h1, h2, h3⟩
end Vf
end Go.Proofs.YtlionohbndehgaaDoor
