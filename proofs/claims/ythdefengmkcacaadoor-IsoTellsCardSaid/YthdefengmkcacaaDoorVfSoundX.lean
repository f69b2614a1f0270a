
/- What our contracts say is what calls come to; so what D answers is what calls come to. No condition. -/
import Derived.Test.YthdefengmkcacaaDoorVfSound
import Derived.Test.YthdefengmkcacaaDoorVfRevved
import Derived.Test.YthdefengmkcacaaDoorVfMetE
namespace Go.Proofs.YthdefengmkcacaaDoor
open Go.RowKit Go.Lib
set_option linter.unusedVariables false
set_option linter.unusedSimpArgs false
namespace Vf
set_option maxRecDepth 100000 in
theorem X_sound : RSound0 Tryd.prog gl X := by
  intro f vs r h Bo w args hG hBo hrel
  unfold X at h
  cases hf : Nat.beq f id_ref18Canon
  case true =>
    rw [hf] at h
    simp only [cond_true] at h
    have e := Nat.eq_of_beq_eq_true hf
    subst e
    split at h
    case h_2 => cases h
    rename_i xs
    rw [Option.bind_eq_some_iff] at h
    obtain ⟨l, hl, h⟩ := h
    have hxs := thsOf_some hl
    subst hxs
    cases hok : canonOk l
    · rw [hok] at h; cases h
    · rw [hok] at h
      simp only [cond_true, Option.some.injEq] at h
      subst h
      cases hrel with
      | cons _ v1 _ _ h1 ht =>
      cases ht
      refine callsX_of (by kernel_rfl) (Calls.mono (canon_calls hBo hok h1) fun e w' ⟨u, he, hb, hr⟩ => ?_)
      exact ⟨_, he, Agree.of_below hb, hr, fun h => by cases h⟩
  rw [hf] at h
  simp only [cond_false] at h
  clear hf
  exact X0_sound f vs r h Bo w args hG hBo hrel

set_option maxRecDepth 100000 in
theorem XR_sound : RSound Tryd.prog gl XR := by
  intro f vs r h C w args hG hw hl hI
  unfold XR at h
  cases hx : noRef X f vs with
  | some r' =>
    rw [hx] at h
    simp only [Option.some.injEq] at h
    subst h
    exact X_sound.up f vs r' hx C w args hG hw hl hI
  | none =>
    rw [hx] at h
    simp only at h
    cases hf : Nat.beq f id_slicesReverseIntInt
    · rw [hf] at h; cases h
    rw [hf] at h
    simp only [cond_true] at h
    have e := Nat.eq_of_beq_eq_true hf
    subst e
    split at h
    case h_2 => cases h
    rename_i xs
    rw [Option.bind_eq_some_iff] at h
    obtain ⟨l, hxs, h⟩ := h
    obtain rfl := intsOf_some hxs
    by_cases hle : l.length ≤ 1000000000000
    case neg => rw [cond_nd hle] at h; cases h
    rw [cond_d hle] at h
    simp only [Option.some.injEq] at h
    subst h
    obtain ⟨v, rfl, hv⟩ := Inv.rev0 (by rw [hl]; rfl) hI
    rcases hv with ⟨b, o, c, cp, cells, e, fr, rfl, h1, h2, h3, h4, h5, h6, h7⟩ | ⟨rfl, rfl, h1⟩
    · have hcell : ∀ j, j < l.length → w.cell? ⟨b, o + j, none⟩ = some (.int .i64 (l.getD j 0)) := fun j hj => by
        rw [cell_of h3]
        exact h6 j _ (by simp [List.getD, hj])
      have hfz : ∀ j, j < l.length → w.frozen? ⟨b, o + j, none⟩ = false := fun j hj => by
        simp only [World.frozen?, h3]
        exact h4.at (by omega)
      refine callsX_of (by kernel_rfl) (Calls.mono (Any.slices_Reverse_int_cells Tryd.laysReverse b o l.length c l w (Nat.le_refl _) (by omega) hcell hfz) fun e' w' ⟨he, q, hw'⟩ => ⟨_, he, ?_⟩)
      rw [List.take_length] at hw'
      obtain ⟨c2, g1, g2, g3, _, g5⟩ := setCells_blk (l.reverse.map (Value.int .i64)) o (w.drewN q) cells h3 (by simp; omega)
      rw [← hw'] at g1 g5
      have hA : Agree (fun y => y = b) w w' := by
        have h0 : Agree (fun y => y = b) w (w.drewN q) := ⟨Nat.le_refl _, fun _ _ _ => rfl, ⟨rfl, rfl, rfl⟩⟩
        exact h0.trans g5
      have hAW : Agree C.W w w' := hA.mono fun x hx ex => by
        subst ex
        rcases h7 with h7 | h7
        · rw [hw] at h7; omega
        · exact h7
      refine ⟨rfl, fun _ => False, hAW, fun _ h => h.elim, fun t blk ht => ?_, .tup [] [] .nil, fun h => by cases h⟩
      simp only [tagsV, refBlk, outM, consO, get_cons] at ht
      split at ht
      · rename_i hk
        subst hk
        simp only [Option.some.injEq] at ht
        subst ht
        refine .inl ⟨b, o, cp, h1, c2, e, fr, l.reverse.map (Value.int .i64), g1, by rw [g2]; exact h4, by simpa using h2, by rw [g2]; exact h5, ?_, ?_, ?_, g3⟩
        · intro x hx
          obtain ⟨n, _, rfl⟩ := List.mem_map.1 hx
          rfl
        · intro x hx
          obtain ⟨n, _, rfl⟩ := List.mem_map.1 hx
          rfl
        · rw [flats_ints]; exact ints_rel _
      · simp [get] at ht
    · refine callsX_of (by kernel_rfl) (Calls.mono (Any.slices_Reverse_int_empty Tryd.laysReverse none 0 w) fun e' w' ⟨he, hw'⟩ => ⟨_, he, ?_⟩)
      have hAW : Agree C.W w w' := by rw [hw']; exact Agree.refl _ _
      refine ⟨rfl, fun _ => False, hAW, fun _ h => h.elim, fun t blk ht => ?_, .tup [] [] .nil, fun h => by cases h⟩
      simp only [tagsV, refBlk, outM, consO, get_cons] at ht
      split at ht
      · rename_i hk
        subst hk
        simp only [Option.some.injEq] at ht
        subst ht
        exact .inr ⟨h1, rfl⟩
      · simp [get] at ht

set_option maxRecDepth 100000 in
theorem D_sound : RSound0 Tryd.prog gl D := (den_sound (by kernel_rfl) XR_sound table_fit).plain

set_option maxRecDepth 100000 in
/-- A call of a function of the table, as the walk wants it. -/
theorem calls_of_D {f : Nat} {vs : List AV} {r : Res} (hb : callFits Tryd.prog f = true) (h : D f vs = some r) (w : World) (args : List Value) (hG : GOk gl (fun _ => False) w) (hrel : RelL w (fun _ => False) vs args) :
    Calls Tryd.prog f args.toArray w fun e w' => ∃ v, e = .returned v ∧ Agree (fun _ => False) w w' ∧ Rel w' (fun _ => False) r.v v := by
  have := D_sound f vs r h (fun _ => False) w args hG (fun _ h => h.elim) hrel
  unfold CallsX at this
  rw [run_callFunc hb] at this
  exact this.mono fun e w' ⟨v, h1, h2, h3, _⟩ => ⟨v, h1, h2, h3⟩
end Vf
end Go.Proofs.YthdefengmkcacaaDoor
