
/- Tags, as plain functions on lists. No condition but sizes. -/
import Derived.Test.YthdefengmkcacaaDoorVfTrim
namespace Go.Proofs.YthdefengmkcacaaDoor.Vf
set_option linter.unusedVariables false
set_option linter.unusedSimpArgs false

theorem byteOfNat {c : UInt8} {k : UInt8} (h : c.toNat = k.toNat) : c = k := UInt8.toNat_inj.1 h
theorem take1 (c : UInt8) (r : List UInt8) (k : UInt8) : (decide (([k] : List UInt8).length ≤ (c :: r).length) && (c :: r).take ([k] : List UInt8).length == [k]) = decide (c.toNat = k.toNat) := by
  rw [Bool.eq_iff_iff]
  simp only [List.length_cons, List.length_nil, Bool.and_eq_true, decide_eq_true_eq, beq_iff_eq]
  constructor
  · rintro ⟨_, h⟩
    have : c = k := by simpa using h
    rw [this]
  · intro h
    rw [byteOfNat h]; simp
theorem take1_nil (k : UInt8) : (decide (([k] : List UInt8).length ≤ ([] : List UInt8).length) && ([] : List UInt8).take ([k] : List UInt8).length == [k]) = false := rfl

theorem D_TrimPrefix (s p : List UInt8) : D id_stringsTrimPrefix [.str s, .str p] = some ⟨.str (if (decide (p.length ≤ s.length) && s.take p.length == p) = true then s.drop p.length else s), false, []⟩ := by
  refine den_fn (N := 0) (F := stringsTrimPrefix) rfl rfl ?_
  rw [stringsTrimPrefix_eq]
  show stringsTrimPrefixr D 0 s p = _
  unfold stringsTrimPrefixr
  have h1 : D id_internalStringsliteTrimPrefix [.str s, .str p] = some ⟨.str (if (decide (p.length ≤ s.length) && s.take p.length == p) = true then s.drop p.length else s), false, []⟩ := by
    refine den_fn (N := 0) (F := internalStringsliteTrimPrefix) rfl rfl ?_
    rw [internalStringsliteTrimPrefix_eq]
    show internalStringsliteTrimPrefixr D 0 s p = _
    unfold internalStringsliteTrimPrefixr
    rw [D_sHasPrefix]
    simp only [Option.bind_some, asB_b]
    cases hb : (decide (p.length ≤ s.length) && s.take p.length == p)
    · rfl
    · simp only [Bool.and_eq_true, decide_eq_true_eq] at hb
      simp only [cond_true, if_true]
      rw [need_d2 (by omega) (by omega)]
      simp only [Int.toNat_natCast, List.take_length]
  rw [h1]
  simp only [Option.bind_some, asS_s]

/-- Without a sign ahead. -/
def trimB : List UInt8 → List UInt8
  | [] => []
  | c :: r => if c.toNat = 33 then r else c :: r
def vtag : List UInt8 → Bool
  | [] => false
  | c :: r => decide (c.toNat = 33) && (r == [] || nameP (trimB r))
theorem trimB_len (s : List UInt8) : (trimB s).length ≤ s.length := by
  cases s with
  | nil => simp [trimB]
  | cons c r => simp only [trimB]; split <;> simp

theorem D_ValidTag (s : List UInt8) (hs : s.length ≤ 1000000) : D id_propsValidTag [.str s] = some ⟨.bool (vtag s), false, []⟩ := by
  refine den_fn (N := 0) (F := propsValidTag) rfl rfl ?_
  rw [propsValidTag_eq]
  show propsValidTagr D 0 s = _
  unfold propsValidTagr
  rw [D_CutPrefix]
  simp only [Option.bind_some, asSBT, asT_t, asC_c, asS_s, asB_b, asN_n]
  cases s with
  | nil => rw [take1_nil]; rfl
  | cons c r =>
    rw [take1 c r 33]
    simp only [vtag, show (33 : UInt8).toNat = 33 from rfl]
    by_cases h : c.toNat = 33
    · simp only [h, decide_true, cond_true, if_true, List.length_singleton, List.drop_succ_cons, List.drop_zero, Bool.true_and]
      cases hr : (r == ([] : List UInt8))
      · rw [D_TrimPrefix]
        simp only [cond_false, Option.bind_some, asS_s, Bool.false_or]
        have e : (if (decide (([33] : List UInt8).length ≤ r.length) && r.take ([33] : List UInt8).length == [33]) = true then r.drop ([33] : List UInt8).length else r) = trimB r := by
          cases r with
          | nil => rfl
          | cons d r =>
            rw [take1 d r 33]
            simp only [trimB, show (33 : UInt8).toNat = 33 from rfl, decide_eq_true_eq]
            rfl
        have hl := trimB_len r
        rw [e, D_Name _ (by simp at hs; omega)]
        simp only [Option.bind_some, asB_b]
      · rfl
    · simp only [h, decide_false, cond_false, Bool.false_and]

end Go.Proofs.YthdefengmkcacaaDoor.Vf
