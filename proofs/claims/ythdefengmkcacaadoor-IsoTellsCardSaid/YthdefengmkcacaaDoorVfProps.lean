
/- Props and aliases: the program's and the reference's functions, as plain functions on lists. No condition but sizes. -/
import Derived.Test.YthdefengmkcacaaDoorVfPropsA
namespace Go.Proofs.YthdefengmkcacaaDoor.Vf
set_option linter.unusedVariables false
set_option linter.unusedSimpArgs false

theorem D_refValidTag (s : List UInt8) (hs : s.length ≤ 1000000) : D id_ref08ValidTag [.str s] = some ⟨.bool (vtag s), false, []⟩ := by
  refine den_fn (N := 0) (F := ref08ValidTag) rfl rfl ?_
  rw [ref08ValidTag_eq]
  show ref08ValidTagr D 0 s = _
  unfold ref08ValidTagr
  match s, hs with
  | [], _ => rfl
  | [c], _ =>
    by_cases h : c.toNat = 33
    · rw [byteOfNat (k := 33) h]; rfl
    · have hne : (([c] : List UInt8) == [33]) = false := by rw [Bool.eq_false_iff]; intro e; simp at e; subst e; exact h rfl
      rw [hne, cond_false, cond_nd (by simp), cond_nd (by simp)]
      simp only [vtag, h, decide_false, Bool.false_and]
  | c :: d :: r, hs =>
    simp only [List.length_cons] at hs
    have hne : ((c :: d :: r : List UInt8) == [33]) = false := by rw [Bool.eq_false_iff]; intro e; simp at e
    have hr0 : ((d :: r : List UInt8) == []) = false := rfl
    have hc := byte_lt c
    have plain : (bif decide ((((c :: d :: r).length : Nat) : Int) > 1) then
          need (decide (0 ≤ (0 : Int))) <|
          ((c :: d :: r)[Int.toNat 0]?).bind fun c1 =>
          bif ((c1.toNat : Int) : Int) == 33 then
            (need (decide (0 ≤ (1 : Int)) && decide ((1 : Int) ≤ (((c :: d :: r).length : Nat) : Int))) <|
            (D id_ref01Name [AV.str (((c :: d :: r).take (c :: d :: r).length).drop (Int.toNat 1))]).bind fun r2 =>
            asB r2.v fun b2 =>
            some ⟨AV.bool b2, false, []⟩)
          else
            some ⟨AV.bool false, false, []⟩
        else
          some (⟨AV.bool false, false, []⟩ : Res)) = some ⟨.bool (decide (c.toNat = 33) && nameP (d :: r)), false, []⟩ := by
      rw [cond_d (by simp only [List.length_cons]; omega), need_d (by omega)]
      simp only [show Int.toNat 0 = 0 from rfl, List.getElem?_cons_zero, Option.bind_some]
      by_cases h : c.toNat = 33
      · rw [cond_eq (by omega), need_d2 (by omega) (by simp only [List.length_cons]; omega), List.take_length]
        simp only [show Int.toNat 1 = 1 from rfl, List.drop_succ_cons, List.drop_zero]
        rw [D_refName _ (by simp only [List.length_cons]; omega)]
        simp [asB, h]
      · rw [cond_ne (by omega)]; simp [h]
    rw [hne, cond_false, plain]
    simp only [vtag, hr0, Bool.false_or]
    by_cases h2 : 2 < (c :: d :: r).length
    · rw [cond_d (by omega), need_d2 (by omega) (by omega)]
      have e2 : ((c :: d :: r).take (Int.toNat 2)).drop 0 = [c, d] := by simp [show Int.toNat 2 = 2 from rfl]
      rw [e2]
      by_cases hb : c.toNat = 33 ∧ d.toNat = 33
      · rw [byteOfNat (k := 33) hb.1, byteOfNat (k := 33) hb.2]
        rw [show (([33, 33] : List UInt8) == [33, 33]) = true from rfl, cond_true, need_d2 (by omega) (by simp only [List.length_cons]; omega), List.take_length]
        simp only [show Int.toNat 2 = 2 from rfl, List.drop_succ_cons, List.drop_zero]
        rw [D_refName _ (by simp only [List.length_cons] at h2; omega)]
        simp [asB, trimB]
      · have : (([c, d] : List UInt8) == [33, 33]) = false := by
          rw [Bool.eq_false_iff]; intro e
          simp only [beq_iff_eq, List.cons.injEq, and_true] at e
          exact hb ⟨by rw [e.1]; rfl, by rw [e.2]; rfl⟩
        rw [this, cond_false]
        by_cases hc33 : c.toNat = 33
        · have hd : d.toNat ≠ 33 := fun e => hb ⟨hc33, e⟩
          simp only [trimB, hd, if_false]
        · simp only [hc33, decide_false, Bool.false_and]
    · rw [cond_nd (by omega)]
      obtain rfl : r = [] := List.eq_nil_of_length_eq_zero (by simp only [List.length_cons] at h2; omega)
      by_cases hd : d.toNat = 33
      · have : nameP [d] = false := by rw [byteOfNat (k := 33) hd]; decide
        simp only [trimB, hd, if_true, this]
        rfl
      · simp only [trimB, hd, if_false]

end Go.Proofs.YthdefengmkcacaaDoor.Vf
