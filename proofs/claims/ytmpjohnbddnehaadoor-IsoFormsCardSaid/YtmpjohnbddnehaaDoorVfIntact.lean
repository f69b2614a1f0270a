
/- Lend and Intact, as plain functions on lists. No condition but sizes. -/
import Derived.Test.YtmpjohnbddnehaaDoorVfRune
namespace Go.Proofs.YtmpjohnbddnehaaDoor.Vf
set_option linter.unusedVariables false
set_option linter.unusedSimpArgs false

theorem drop_nil (s : List UInt8) {i : Nat} (h : s.length ≤ i) : s.drop i = [] := List.drop_eq_nil_of_le h
theorem intact_loop (s t : List UInt8) (hs : s.length ≤ 1000000) (hl : s.length = t.length) (N : Nat) (k0 : Bool → Option Res) (k1 : Option Res) : ∀ (n i : Nat), s.length + 3 < i + n → i ≤ s.length + 3 →
    keepIntact_L1 D N k0 k1 n t (s ++ [85, 85, 85]) (((s ++ [85, 85, 85]).length : Nat) : Int) i = if s.drop i = t.drop i then k1 else k0 false := by
  intro n
  induction n with
  | zero => intro i h _; omega
  | succ n ih =>
    intro i h hi
    have hlen : (s ++ [85, 85, 85]).length = s.length + 3 := by simp
    simp only [keepIntact_L1, keepIntact_L1s]
    by_cases hlt : i < s.length + 3
    · rw [cond_d (by omega), wrap_i64 (by omega) (by omega), show (i : Int) + 1 = ((i + 1 : Nat) : Int) by omega]
      by_cases hlt2 : i < s.length
      · rw [cond_d (by omega), need_d (by omega)]
        simp only [Int.toNat_natCast]
        rw [get_bn (by omega), get_bn (by omega)]
        have e1 : (s ++ [85, 85, 85]).getD i 0 = s.getD i 0 := by simp [List.getD, List.getElem?_append_left hlt2]
        rw [e1, drop_step hlt2, drop_step (s := t) (by omega)]
        by_cases he : s.getD i 0 = t.getD i 0
        · rw [cond_beq (by rw [he]), cond_nd (by omega), ih (i + 1) (by omega) (by omega), he]
          simp [need_true]
        · rw [cond_bne (fun hh => he (UInt8.toNat_inj.1 (by omega))), if_neg (fun hh => he (List.cons.inj hh).1)] <;> rfl
      · rw [cond_nd (by omega), cond_d (by omega), need_d (by omega)]
        simp only [Int.toNat_natCast]
        rw [get_bn (by omega)]
        have e1 : (s ++ [85, 85, 85]).getD i 0 = 85 := by
          have : (s ++ [85, 85, 85])[i]? = some 85 := by
            rw [List.getElem?_append_right (by omega)]
            match hk : i - s.length, (show i - s.length < 3 by omega) with
            | 0, _ => rfl
            | 1, _ => rfl
            | 2, _ => rfl
          simp [List.getD, this]
        rw [e1, cond_beq (by rfl), ih (i + 1) (by omega) (by omega), drop_nil s (by omega), drop_nil t (by omega), drop_nil s (by omega), drop_nil t (by omega)]
    · rw [cond_nd (by omega), drop_nil s (by omega), drop_nil t (by omega), if_pos rfl]

theorem D_Intact (s t : List UInt8) (hs : s.length ≤ 1000000) : D id_keepIntact [.lent s, .bytes t] = some ⟨.bool (decide (s = t)), false, []⟩ := by
  refine den_fn (N := s.length + 4) (F := keepIntact) rfl rfl ?_
  rw [keepIntact_eq]
  show keepIntactr D _ s t = _
  unfold keepIntactr
  by_cases hl : s.length = t.length
  · rw [cond_beq (by omega), cond_beq (by rw [wrap_i64 (by omega) (by omega)]; omega), need_d (by rw [wrap_i64 (by omega) (by omega)]; omega)]
    have := intact_loop s t hs hl (s.length + 4) (fun b3 => some ⟨AV.bool b3, false, []⟩) (some ⟨AV.bool true, false, []⟩) (s.length + 4) 0 (by omega) (by omega)
    refine (show _ = _ from this).trans ?_
    simp only [List.drop_zero]
    by_cases he : s = t
    · rw [if_pos he]; simp [he]
    · rw [if_neg he]; simp [he]
  · rw [cond_bne (by omega)]
    refine retB_congr ?_
    rw [eq_comm, decide_eq_false_iff_not]; intro h; exact hl (by rw [h])

theorem D_Lend (s : List UInt8) (hs : s.length ≤ 1000000) : D id_keepLend [.bytes s] = some ⟨.lent s, false, []⟩ :=
  D_ext (by show (bif decide (s.length ≤ 1000000) then some (⟨.lent s, false, []⟩ : Res) else none) = _; rw [cond_d (by omega)])
end Go.Proofs.YtmpjohnbddnehaaDoor.Vf
