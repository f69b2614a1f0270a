/- The laws CharsRunes and CharsChecks come to true, whatever the input. No condition. -/
import Derived.Test.YtnapopfbmdghkaaDoorVfCheck
namespace Go.Proofs.YtnapopfbmdghkaaDoor.Vf
set_option linter.unusedVariables false
set_option linter.unusedSimpArgs false

theorem t3 : ([239, 187, 191] : List UInt8).take 3 = [239, 187, 191] := rfl

theorem D_wakes : D id_law01Wakes [] = some ⟨.bool true, false, []⟩ := by
  refine den_fn (N := 0) (F := law01Wakes) rfl rfl ?_
  rw [law01Wakes_eq]
  show law01Wakesr D 0 = _
  unfold law01Wakesr
  rw [D_Check _ (by decide)]
  simp only [Option.bind_some, asIIT, asT_t, asC_c, asI_i, asN_n]
  rw [D_Rune, D_Name _ (by decide)]
  rfl

theorem D_CharsRunes (s : List UInt8) (r : Int) : D id_law01CharsRunes [.bytes s, .int .i64 r] = some ⟨.bool true, false, []⟩ := by
  refine den_fn (N := 0) (F := law01CharsRunes) rfl rfl ?_
  rw [law01CharsRunes_eq]
  show law01CharsRunesr D 0 s r = _
  unfold law01CharsRunesr
  rw [show (8 : Int) = ((8 : Nat) : Int) from rfl, D_Cut s 8 (by omega), D_Within _ _ (by omega) (by omega)]
  simp [asY_y, D_Rune, D_refRune, asJIBT, asT_t, asC_c, asI_i, asB_b, asN_n, D_Printable, D_refPrintable, D_wakes, need]

theorem D_CharsChecks (b s : List UInt8) (mark : Bool) (c : Int) : D id_law01CharsChecks [.bytes b, .str s, .bool mark, .int .u8 c] = some ⟨.bool true, false, []⟩ := by
  refine den_fn (N := 0) (F := law01CharsChecks) rfl rfl ?_
  rw [law01CharsChecks_eq]
  show law01CharsChecksr D 0 b s mark c = _
  unfold law01CharsChecksr
  rw [show (200 : Int) = ((200 : Nat) : Int) from rfl, show (40 : Int) = ((40 : Nat) : Int) from rfl, D_Cut b 200 (by omega), D_Text s 200 (by omega), D_Text s 40 (by omega)]
  have hb : (b.take 200).length ≤ 200 := by simp; omega
  have hs : (s.take 200).length ≤ 200 := by simp; omega
  have ht : (s.take 40).length ≤ 40 := by simp; omega
  generalize b.take 200 = b' at hb
  generalize s.take 200 = s' at hs
  generalize s.take 40 = t at ht
  have tail : ∀ b5 : Bool, (bif decide (c ≥ 48) then bif decide (48 ≤ c ∧ c ≤ 57) == decide (c ≤ 57) then some (⟨AV.bool true, false, []⟩ : Res) else some ⟨AV.bool false, false, []⟩ else bif decide (48 ≤ c ∧ c ≤ 57) == false then some ⟨AV.bool true, false, []⟩ else some ⟨AV.bool false, false, []⟩) = some ⟨.bool true, false, []⟩ := by
    intro _
    by_cases h : c ≥ 48
    · rw [cond_d h]
      have : decide (48 ≤ c ∧ c ≤ 57) = decide (c ≤ 57) := by rw [Bool.eq_iff_iff]; simp only [decide_eq_true_eq]; omega
      rw [this]; simp
    · rw [cond_nd h]
      have : decide (48 ≤ c ∧ c ≤ 57) = false := by rw [decide_eq_false_iff_not]; omega
      rw [this]; rfl
  have h32 : decide (c = 32) = (c == 32) := by rw [Bool.eq_iff_iff]; simp
  by_cases hl : ((s.length : Nat) : Int) > 0 <;> cases mark <;>
    simp (disch := ((try simp only [List.length_append, List.length_cons, List.length_nil, List.length_take]); omega)) only [cond_d, cond_nd, cond_true, cond_false, List.drop_zero, List.take_length, t3, need_d, D_Lend, D_Check, D_refCheck, D_Intact, D_Space, D_Digit, D_Name, D_refName, D_wakes, Option.bind_some, asY_y, asS_s, asL_l, asB_b, asIIT, asT_t, asC_c, asI_i, asN_n, beq_self_eq_true, decide_true, h32, tail true]
end Go.Proofs.YtnapopfbmdghkaaDoor.Vf
