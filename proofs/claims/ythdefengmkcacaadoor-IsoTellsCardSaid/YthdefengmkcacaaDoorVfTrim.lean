
/- Blanks ahead, and what texts begin with. No condition but sizes. -/
import Derived.Test.YthdefengmkcacaaDoorVfIntact
namespace Go.Proofs.YthdefengmkcacaaDoor.Vf
set_option linter.unusedVariables false
set_option linter.unusedSimpArgs false

theorem D_sHasPrefix (s p : List UInt8) : D id_internalStringsliteHasPrefix [.str s, .str p] = some ⟨.bool (decide (p.length ≤ s.length) && s.take p.length == p), false, []⟩ := by
  refine den_fn (N := 0) (F := internalStringsliteHasPrefix) rfl rfl ?_
  rw [internalStringsliteHasPrefix_eq]
  show internalStringsliteHasPrefixr D 0 s p = _
  unfold internalStringsliteHasPrefixr
  by_cases h : p.length ≤ s.length
  · rw [cond_d (by omega), need_d2 (by omega) (by omega), decide_eq_true h]
    simp only [Int.toNat_natCast, List.drop_zero, Bool.true_and]
  · rw [cond_nd (by omega), decide_eq_false h]; rfl
theorem D_CutPrefix (s p : List UInt8) : D id_stringsCutPrefix [.str s, .str p] = some ⟨.tup [.str (if (decide (p.length ≤ s.length) && s.take p.length == p) = true then s.drop p.length else s), .bool (decide (p.length ≤ s.length) && s.take p.length == p)], false, []⟩ := by
  refine den_fn (N := 0) (F := stringsCutPrefix) rfl rfl ?_
  rw [stringsCutPrefix_eq]
  show stringsCutPrefixr D 0 s p = _
  unfold stringsCutPrefixr
  have h1 : D id_internalStringsliteCutPrefix [.str s, .str p] = some ⟨.tup [.str (if (decide (p.length ≤ s.length) && s.take p.length == p) = true then s.drop p.length else s), .bool (decide (p.length ≤ s.length) && s.take p.length == p)], false, []⟩ := by
    refine den_fn (N := 0) (F := internalStringsliteCutPrefix) rfl rfl ?_
    rw [internalStringsliteCutPrefix_eq]
    show internalStringsliteCutPrefixr D 0 s p = _
    unfold internalStringsliteCutPrefixr
    rw [D_sHasPrefix]
    simp only [Option.bind_some, asB_b]
    cases hb : (decide (p.length ≤ s.length) && s.take p.length == p)
    · rfl
    · simp only [Bool.and_eq_true, decide_eq_true_eq] at hb
      simp only [Bool.not_true, cond_false, if_true]
      rw [need_d2 (by omega) (by omega)]
      simp only [Int.toNat_natCast, List.take_length]
  rw [h1]
  simp only [Option.bind_some, asSBT, asT_t, asC_c, asN_n, asS_s, asB_b]

end Go.Proofs.YthdefengmkcacaaDoor.Vf
