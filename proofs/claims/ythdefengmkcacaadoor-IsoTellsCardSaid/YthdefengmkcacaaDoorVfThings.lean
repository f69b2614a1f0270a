
/- Rows and graphs, one for one, by the document's own answer. No condition but sizes. -/
import Derived.Test.YthdefengmkcacaaDoorVfIsoD
namespace Go.Proofs.YthdefengmkcacaaDoor.Vf
set_option linter.unusedVariables false
set_option linter.unusedSimpArgs false

/-! Rows and graphs, one for one -/
theorem sameI_loop (a b : List Int) (hl : a.length = b.length) (ha : a.length ≤ 1000000000) (N : Nat) (k0 : Bool → Option Res) (k1 : Option Res) : ∀ (n i : Nat), a.length < i + n → i ≤ a.length →
    keepSameInt_L1 D N k0 k1 n (iA a) (iA b) i = if a.drop i = b.drop i then k1 else k0 false := by
  intro n
  induction n with
  | zero => intro i h _; omega
  | succ n ih =>
    intro i h hi
    simp only [keepSameInt_L1, keepSameInt_L1s]
    rw [iA_len]
    by_cases hlt : i < a.length
    · rw [cond_d (by omega), need_d (by omega)]
      simp only [Int.toNat_natCast]
      rw [get_iA hlt]
      simp only [asI_i]
      rw [need_d (by omega), get_iA (by omega)]
      simp only [asI_i]
      have ea : a.drop i = a.getD i 0 :: a.drop (i + 1) := by rw [List.drop_eq_getElem_cons hlt]; simp [List.getD, hlt]
      have eb : b.drop i = b.getD i 0 :: b.drop (i + 1) := by rw [List.drop_eq_getElem_cons (by omega)]; simp [List.getD, show i < b.length by omega]
      rw [ea, eb]
      by_cases hx : a.getD i 0 = b.getD i 0
      · rw [cond_beq hx, wrap_i64 (by omega) (by omega), show (i : Int) + 1 = ((i + 1 : Nat) : Int) by omega, ih (i + 1) (by omega) (by omega)]
        simp only [hx, List.cons.injEq, true_and]
      · rw [cond_bne hx, if_neg]
        intro e
        exact hx (List.cons.inj e).1
    · rw [cond_nd (by omega), List.drop_eq_nil_of_le (by omega), List.drop_eq_nil_of_le (by omega)]; rfl
theorem D_SameInt (a b : List Int) (ha : a.length ≤ 1000000000) (hb : b.length ≤ 1000000000) : D id_keepSameInt [.row 1 (iA a), .row 1 (iA b)] = some ⟨.bool (decide (a = b)), false, []⟩ := by
  refine den_fn (N := a.length + 1) (F := keepSameInt) rfl rfl ?_
  refine (keepSameInt_eq D _ (iA a) (iA b)).trans ?_
  unfold keepSameIntr
  rw [iA_len, iA_len]
  by_cases hl : a.length = b.length
  · rw [cond_beq (by omega), show (0 : Int) = ((0 : Nat) : Int) from rfl, sameI_loop a b hl ha _ _ _ _ 0 (by omega) (by omega)]
    simp only [List.drop_zero]
    by_cases h : a = b
    · rw [if_pos h]; simp [h]
    · rw [if_neg h]; simp [h]
  · rw [cond_bne (by omega)]
    rw [decide_eq_false (fun e => hl (by rw [e]))]
theorem things_loop (a b : List Th) (hl : a.length = b.length) (ha : a.length ≤ 1000000000) (sa : ∀ t ∈ a, t.small) (sb : ∀ t ∈ b, t.small) (N : Nat) (k0 : Bool → Option Res) (k1 : Option Res) : ∀ (n i : Nat), a.length < i + n → i ≤ a.length →
    keepThings_L1 D N k0 k1 n (gA a) (gA b) a.length i = if a.drop i = b.drop i then k1 else k0 false := by
  intro n
  induction n with
  | zero => intro i h _; omega
  | succ n ih =>
    intro i h hi
    simp only [keepThings_L1, keepThings_L1s]
    by_cases hlt : i < a.length
    · have hltb : i < b.length := by omega
      have ea : a.drop i = a.getD i default :: a.drop (i + 1) := by rw [List.drop_eq_getElem_cons hlt]; simp [List.getD, hlt]
      have eb : b.drop i = b.getD i default :: b.drop (i + 1) := by rw [List.drop_eq_getElem_cons hltb]; simp [List.getD, hltb]
      have ga := getD_mem hlt
      have gb := getD_mem hltb
      have nd : ∀ y : Option Res, need (decide (0 ≤ (i : Int))) y = y := fun y => need_d (by omega)
      rw [cond_d (by omega), ea, eb]
      simp only [nd, Int.toNat_natCast, get_gA hlt, get_gA hltb, asTh]
      have ha' := sa _ ga
      have hb' := sb _ gb
      generalize a.getD i default = x at ha' ⊢
      generalize b.getD i default = y at hb' ⊢
      obtain ⟨k, t, v, q⟩ := x
      obtain ⟨k', t', v', q'⟩ := y
      simp only
      by_cases h1 : k = k'
      · rw [cond_beq h1]
        by_cases h2 : t = t'
        · rw [show (t == t') = true by simpa using h2, Bool.not_true, cond_false]
          by_cases h3 : v = v'
          · rw [show (v == v') = true by simpa using h3, Bool.not_true, cond_false, D_SameInt _ _ ha'.2.2 hb'.2.2]
            simp only [Option.bind_some, asB_b]
            by_cases h4 : q = q'
            · rw [decide_eq_true h4, Bool.not_true, cond_false, wrap_i64 (by omega) (by omega), show (i : Int) + 1 = ((i + 1 : Nat) : Int) by omega, ih (i + 1) (by omega) (by omega)]
              simp [h1, h2, h3, h4]
            · rw [decide_eq_false h4, Bool.not_false, cond_true, if_neg (by simp [h4])]
          · rw [show (v == v') = false by simpa using h3, Bool.not_false, cond_true, if_neg (by simp [h3])]
        · rw [show (t == t') = false by simpa using h2, Bool.not_false, cond_true, if_neg (by simp [h2])]
      · rw [cond_bne h1, if_neg (by simp [h1])]
    · rw [cond_nd (by omega), List.drop_eq_nil_of_le (by omega), List.drop_eq_nil_of_le (by omega)]; rfl
theorem D_Things (a b : List Th) (ha : a.length ≤ 1000000000) (sa : ∀ t ∈ a, t.small) (sb : ∀ t ∈ b, t.small) : D id_keepThings [.row 4 (gA a), .row 4 (gA b)] = some ⟨.bool (decide (a = b)), false, []⟩ := by
  refine den_fn (N := a.length + 1) (F := keepThings) rfl rfl ?_
  refine (keepThings_eq D _ (gA a) (gA b)).trans ?_
  unfold keepThingsr
  rw [gA_len, gA_len]
  by_cases hl : a.length = b.length
  · rw [cond_beq (by omega), show (0 : Int) = ((0 : Nat) : Int) from rfl, things_loop a b hl ha sa sb _ _ _ _ 0 (by omega) (by omega)]
    simp only [List.drop_zero]
    by_cases h : a = b
    · rw [if_pos h]; simp [h]
    · rw [if_neg h]; simp [h]
  · rw [cond_bne (by omega)]
    rw [decide_eq_false (fun e => hl (by rw [e]))]

/-! Small graphs are valid. -/
structure OkT (t : Th) : Prop where
  tag : vtag t.tag = true
  sign : t.tag ≠ [33]
  fit : (t.kind = 1 ∧ t.kids = [] ∧ Lib.validD t.value = true) ∨ ((t.kind = 2 ∨ t.kind = 3) ∧ t.value = [])
end Go.Proofs.YthdefengmkcacaaDoor.Vf
