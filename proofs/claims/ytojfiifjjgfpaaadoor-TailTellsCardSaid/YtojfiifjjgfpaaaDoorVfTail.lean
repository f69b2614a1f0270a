
/- What stands behind a node, as plain functions on lists. No condition but sizes. -/
import Derived.Test.YtojfiifjjgfpaaaDoorVfTrim
namespace Go.Proofs.YtojfiifjjgfpaaaDoor.Vf
set_option linter.unusedVariables false
set_option linter.unusedSimpArgs false

theorem D_Clone (s : List UInt8) (h : s.length ≤ 1099511627776) : D id_slicesCloneByteByte [.bytes s] = some ⟨.bytes s, true, []⟩ := by
  cases s with
  | nil => exact D_ext rfl
  | cons c r =>
    refine den_fn (N := 0) (F := slicesCloneByteByte) rfl rfl ?_
    rw [slicesCloneByteByte_eq]
    have h' : r.length ≤ 1099511627775 := by simp at h; omega
    simp [slicesCloneByteByter, need, h']

def restL (s : List UInt8) : List UInt8 := s.drop (lead s)
theorem restL_len (s : List UInt8) : (restL s).length = s.length - lead s := by simp [restL]
theorem D_Rest (s : List UInt8) (h : s.length ≤ 1000000) : D id_tailRest [.bytes s] = some ⟨.bytes (restL s), true, []⟩ := by
  refine den_fn (N := 0) (F := tailRest) rfl rfl ?_
  rw [tailRest_eq]
  show tailRestr D 0 s = _
  unfold tailRestr
  rw [D_TrimLeft]
  simp only [Option.bind_some, asY_y]
  rw [D_Clone _ (by simp; omega)]
  simp only [Option.bind_some, need_true, asY_y, List.drop_zero, List.take_length]
  rfl

def isCom (s : List UInt8) : Bool := decide (0 < lead s) && decide (lead s < s.length) && decide ((s.getD (lead s) 0).toNat = 35)
theorem D_Comment (s : List UInt8) (h : s.length ≤ 1000000) : D id_tailComment [.bytes s] = some ⟨.tup [.int .i64 (if isCom s = true then lead s else 0 : Nat), .bool (isCom s)], false, []⟩ := by
  refine den_fn (N := 0) (F := tailComment) rfl rfl ?_
  rw [tailComment_eq]
  show tailCommentr D 0 s = _
  unfold tailCommentr
  rw [D_Rest s h]
  simp only [Option.bind_some, asY_y]
  have hl := lead_le s
  have e : (s.length : Int) - ((restL s).length : Int) = ((lead s : Nat) : Int) := by rw [restL_len]; omega
  rw [e, wrap_i64 (by omega) (by omega)]
  unfold isCom
  by_cases h0 : lead s = 0
  · rw [cond_eq (by omega)]; simp [h0]
  · rw [cond_ne (by omega)]
    by_cases h1 : lead s = s.length
    · rw [cond_eq (by omega)]; simp [h1]
    · rw [cond_ne (by omega), need_d (by omega)]
      simp only [Int.toNat_natCast]
      rw [get_bn (by omega)]
      have e0 : decide (0 < lead s) = true := decide_eq_true (by omega)
      have e1 : decide (lead s < s.length) = true := decide_eq_true (by omega)
      have hc := byte_lt (s.getD (lead s) 0)
      by_cases h35 : (s.getD (lead s) 0).toNat = 35
      · rw [cond_beq (by omega), e0, e1, decide_eq_true h35]; rfl
      · rw [cond_bne (by omega), e0, e1, decide_eq_false h35]; rfl

def clearL (s : List UInt8) : Bool := isCom s || decide (lead s = s.length)
theorem D_Clear (s : List UInt8) (h : s.length ≤ 1000000) : D id_tailClear [.bytes s] = some ⟨.bool (clearL s), false, []⟩ := by
  refine den_fn (N := 0) (F := tailClear) rfl rfl ?_
  rw [tailClear_eq]
  show tailClearr D 0 s = _
  unfold tailClearr clearL
  rw [D_Comment s h, D_Rest s h]
  simp only [Option.bind_some, asIBT, asT_t, asC_c, asN_n, asI_i, asB_b, asY_y]
  cases isCom s
  · simp only [cond_false, Bool.false_or]
    refine retB_congr ?_
    have hl := lead_le s
    rw [restL_len, Bool.eq_iff_iff, beq_iff_eq, decide_eq_true_eq]
    omega
  · rfl

/-- Which marker a line is, by its sign. -/
def markK (k : Int) (m s : List UInt8) : Option Int :=
  if (decide (3 ≤ s.length) && s.take 3 == m) = true then (if clearL (s.drop 3) = true then some k else if ((s.drop 3).getD 0 0).toNat = 32 ∨ ((s.drop 3).getD 0 0).toNat = 9 then some 3 else none) else none
def markL (s : List UInt8) : Int := (((markK 1 [45, 45, 45] s).or (markK 2 [46, 46, 46] s)).getD 0)

theorem lead_nil_iff {s : List UInt8} (h : clearL s = false) : s ≠ [] := by rintro rfl; simp [clearL, isCom, lead] at h

theorem D_Marker (s : List UInt8) (h : s.length ≤ 1000000) : D id_tailMarker [.bytes s] = some ⟨.int .i64 (markL s), false, []⟩ := by
  refine den_fn (N := 10) (F := tailMarker) rfl rfl ?_
  rw [tailMarker_eq]
  show tailMarkerr D 10 s = _
  unfold tailMarkerr markL
  have stp : ∀ (n : Nat) (k0 : Int → Option Res) (k1 : Option Res) (l : List AV) (i : Nat) (m : List UInt8), i < 3 → m.length = 3 → l[i]? = some (AV.str m) →
      tailMarker_L1 D 10 k0 k1 (n + 1) s l ((3 : Nat) : Int) i = match markK i m s with | some v => k0 v | none => tailMarker_L1 D 10 k0 k1 n s l ((3 : Nat) : Int) ((i + 1 : Nat) : Int) := by
    intro n k0 k1 l i m hi hm hl
    simp only [tailMarker_L1, tailMarker_L1s]
    rw [cond_d (by omega), need_d (by omega)]
    simp only [Int.toNat_natCast, hl, Option.bind_some, asS_s]
    rw [D_bCutPrefix]
    have hne : (m == ([] : List UInt8)) = false := by cases m <;> simp at hm ⊢
    simp only [Option.bind_some, asYBT, asT_t, asC_c, asN_n, asB_b, asY_y, hne, cond_false, hm]
    rw [wrap_i64 (by omega) (by omega), show (i : Int) + 1 = ((i + 1 : Nat) : Int) by omega]
    unfold markK
    cases hb : (decide (3 ≤ s.length) && s.take 3 == m)
    · simp
    · simp only [if_true, Bool.not_true, cond_false]
      rw [D_Clear _ (by simp; omega)]
      simp only [Option.bind_some, asB_b]
      cases hc : clearL (s.drop 3)
      · have hne := lead_nil_iff hc
        have hl := length_pos_of hne
        simp only [cond_false, Bool.false_eq_true, if_false]
        rw [need_d (by omega), show Int.toNat 0 = 0 from rfl, get_bn hl]
        have hbb := byte_lt ((s.drop 3).getD 0 0)
        by_cases h32 : ((s.drop 3).getD 0 0).toNat = 32
        · rw [cond_eq (by omega), if_pos (.inl h32)]
        · rw [cond_ne (by omega), need_d (by omega), get_bn hl]
          by_cases h9 : ((s.drop 3).getD 0 0).toNat = 9
          · rw [cond_eq (by omega), if_pos (.inr h9)]
          · rw [cond_ne (by omega), if_neg (by omega)]
      · simp
  have h0 : ∀ (k0 : Int → Option Res) (k1 : Option Res) (l : List AV) (n : Nat), l[0]? = some (AV.str []) → tailMarker_L1 D 10 k0 k1 (n + 1) s l ((3 : Nat) : Int) ((0 : Nat) : Int) = tailMarker_L1 D 10 k0 k1 n s l ((3 : Nat) : Int) ((1 : Nat) : Int) := by
    intro k0 k1 l n hl
    simp only [tailMarker_L1, tailMarker_L1s]
    rw [cond_d (by omega), need_d (by omega)]
    simp only [Int.toNat_natCast, hl, Option.bind_some, asS_s]
    rw [D_bCutPrefix]
    simp only [Option.bind_some, asYBT, asT_t, asC_c, asN_n, asB_b, asY_y, beq_self_eq_true, cond_true]
    rw [wrap_i64 (by omega) (by omega)]; rfl
  refine (h0 _ _ _ 9 rfl).trans ?_
  rw [stp 8 _ _ _ 1 [45, 45, 45] (by omega) rfl rfl]
  cases hk : markK ((1 : Nat) : Int) [45, 45, 45] s with
  | some v => rfl
  | none =>
    dsimp only
    rw [stp 7 _ _ _ 2 [46, 46, 46] (by omega) rfl rfl]
    cases hk2 : markK ((2 : Nat) : Int) [46, 46, 46] s with
    | some v => rfl
    | none => rfl

theorem D_wakes11 : D id_law11Wakes [] = some ⟨.bool true, false, []⟩ := by
  refine den_fn (N := 0) (F := law11Wakes) rfl rfl ?_
  rw [law11Wakes_eq]
  show law11Wakesr D 0 = _
  unfold law11Wakesr
  rw [D_Marker _ (by decide)]
  rfl
end Go.Proofs.YtojfiifjjgfpaaaDoor.Vf
