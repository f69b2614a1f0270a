
/- What our contracts say is what calls come to; so what D answers is what calls come to. No condition. -/
import Derived.Test.YtpjpmfchcijikaaDoorVfSound
import Derived.Test.YtpjpmfchcijikaaDoorVfFolded
namespace Go.Proofs.YtpjpmfchcijikaaDoor
set_option linter.unusedVariables false
set_option linter.unusedSimpArgs false
namespace Vf
theorem X_sound : RSound Tryd.prog gl X := by
  intro f vs r h Bo w args hG hBo hrel
  unfold X at h
  cases hf : Nat.beq f id_foldFolded
  case true =>
    rw [hf] at h
    simp only [cond_true] at h
    have e := Nat.eq_of_beq_eq_true hf
    subst e
    split at h
    case h_2 => cases h
    rename_i xs
    rw [Option.bind_eq_some_iff] at h
    obtain ⟨l, hl, h⟩ := h
    have hxs := strsOf_some hl
    subst hxs
    by_cases hle : (l.map List.length).sum + l.length ≤ 1000000
    · rw [cond_d hle] at h
      simp only [Option.some.injEq] at h
      subst h
      cases hrel with
      | cons _ v1 _ _ h1 ht =>
      cases ht
      obtain ⟨a, ss, c, rfl, rfl, hc, hcells⟩ := rel_strings h1
      refine callsX_of (by kernel_rfl) (Calls.mono (folded_walk a c ss w hcells.1 hcells.2 hle hG hBo) fun e w' ⟨he, hb⟩ => ?_)
      exact ⟨_, he, Agree.of_below hb, Rel.str ⟨(foldGo [] 0 (ss.map fun s => s.data.toList)).toArray⟩, fun h => by cases h⟩
    · rw [cond_nd hle] at h; cases h
  rw [hf] at h
  simp only [cond_false] at h
  clear hf
  exact X0_sound f vs r h Bo w args hG hBo hrel

theorem D_sound : RSound Tryd.prog gl D := den_sound (by kernel_rfl) X_sound table_fit

/-- A call of a function of the table, as the walk wants it. -/
theorem calls_of_D {f : Nat} {vs : List AV} {r : Res} (hb : callFits Tryd.prog f = true) (h : D f vs = some r) (w : World) (args : List Value) (hG : GOk gl (fun _ => False) w) (hrel : RelL w (fun _ => False) vs args) :
    Calls Tryd.prog f args.toArray w fun e w' => ∃ v, e = .returned v ∧ Agree (fun _ => False) w w' ∧ Rel w' (fun _ => False) r.v v := by
  have := D_sound f vs r h (fun _ => False) w args hG (fun _ h => h.elim) hrel
  unfold CallsX at this
  rw [run_callFunc hb] at this
  exact this.mono fun e w' ⟨v, h1, h2, h3, _⟩ => ⟨v, h1, h2, h3⟩
end Vf
end Go.Proofs.YtpjpmfchcijikaaDoor
