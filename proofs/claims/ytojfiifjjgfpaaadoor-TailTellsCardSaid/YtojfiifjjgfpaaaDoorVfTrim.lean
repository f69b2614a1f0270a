
/- Blanks ahead, and what texts begin with. No condition but sizes. -/
import Derived.Test.YtojfiifjjgfpaaaDoorVfIntact
namespace Go.Proofs.YtojfiifjjgfpaaaDoor.Vf
set_option linter.unusedVariables false
set_option linter.unusedSimpArgs false

/-- How many blanks are ahead. -/
def lead : List UInt8 → Nat
  | [] => 0
  | c :: r => if c.toNat = 32 then lead r + 1 else 0
theorem lead_le : ∀ s : List UInt8, lead s ≤ s.length
  | [] => Nat.le_refl _
  | c :: r => by simp only [lead]; split; have := lead_le r; simp; omega; simp

theorem trim_loop (N : Nat) (k0 : List UInt8 → Option Res) : ∀ (n : Nat) (s : List UInt8), s.length < n → bytesTrimLeftByte_L1 D N k0 n s 32 = k0 (s.drop (lead s)) := by
  intro n
  induction n with
  | zero => intro s h; omega
  | succ n ih =>
    intro s h
    simp only [bytesTrimLeftByte_L1, bytesTrimLeftByte_L1s]
    cases s with
    | nil => rfl
    | cons c r =>
      rw [cond_d (by simp), need_d (by omega)]
      simp only [show Int.toNat 0 = 0 from rfl, List.getElem?_cons_zero, Option.bind_some, lead]
      simp only [List.length_cons] at h
      by_cases h32 : c.toNat = 32
      · rw [cond_eq (by omega), if_pos h32, need_d2 (by omega) (by simp only [List.length_cons]; omega)]
        have e : ((c :: r).take (c :: r).length).drop (Int.toNat 1) = r := by simp
        rw [e, ih r (by omega)]; rfl
      · rw [cond_ne (by omega), if_neg h32]; rfl

theorem D_TrimLeftByte (s : List UInt8) : D id_bytesTrimLeftByte [.bytes s, .int .u8 32] = some ⟨.bytes (s.drop (lead s)), false, []⟩ := by
  refine den_fn (N := s.length + 1) (F := bytesTrimLeftByte) rfl rfl ?_
  rw [bytesTrimLeftByte_eq]
  show bytesTrimLeftByter D _ s 32 = _
  unfold bytesTrimLeftByter
  rw [trim_loop _ _ (s.length + 1) s (Nat.lt_succ_self _)]
  by_cases h : s.drop (lead s) = []
  · rw [h]; rfl
  · have := length_pos_of h
    rw [cond_ne (by omega)]
theorem D_TrimLeft (s : List UInt8) : D id_bytesTrimLeft [.bytes s, .str [32]] = some ⟨.bytes (s.drop (lead s)), false, []⟩ := by
  refine den_fn (N := 0) (F := bytesTrimLeft) rfl rfl ?_
  rw [bytesTrimLeft_eq]
  show bytesTrimLeftr D 0 s [32] = _
  unfold bytesTrimLeftr
  by_cases h : s = []
  · subst h; rfl
  · have := length_pos_of h
    rw [cond_ne (by omega)]
    have e := D_TrimLeftByte s
    simp [need, asY, e]

theorem D_Equal (a b : List UInt8) : D id_bytesEqual [.bytes a, .bytes b] = some ⟨.bool (a == b), false, []⟩ :=
  den_fn (N := 0) (F := bytesEqual) rfl rfl (by rw [bytesEqual_eq]; rfl)

theorem D_HasPrefix (a b : List UInt8) : D id_bytesHasPrefix [.bytes a, .bytes b] = some ⟨.bool (decide (b.length ≤ a.length) && a.take b.length == b), false, []⟩ := by
  refine den_fn (N := 0) (F := bytesHasPrefix) rfl rfl ?_
  rw [bytesHasPrefix_eq]
  show bytesHasPrefixr D 0 a b = _
  unfold bytesHasPrefixr
  by_cases h : b.length ≤ a.length
  · have h1 : decide ((a.length : Int) ≥ (b.length : Int)) = true := by simp; omega
    rw [h1]
    simp [D_Equal, asB, need, h]
  · have h1 : decide ((a.length : Int) ≥ (b.length : Int)) = false := by simp; omega
    rw [h1]
    simp [h]

theorem D_bCutPrefix (s p : List UInt8) : D id_bytesCutPrefix [.bytes s, .bytes p] = some ⟨.tup [.bytes (if (decide (p.length ≤ s.length) && s.take p.length == p) = true then s.drop p.length else s), .bool (decide (p.length ≤ s.length) && s.take p.length == p)], false, []⟩ := by
  refine den_fn (N := 0) (F := bytesCutPrefix) rfl rfl ?_
  rw [bytesCutPrefix_eq]
  show bytesCutPrefixr D 0 s p = _
  unfold bytesCutPrefixr
  rw [D_HasPrefix]
  simp only [Option.bind_some, asB_b]
  cases hb : (decide (p.length ≤ s.length) && s.take p.length == p)
  · rfl
  · simp only [Bool.and_eq_true, decide_eq_true_eq] at hb
    simp only [Bool.not_true, cond_false, if_true]
    rw [need_d2 (by omega) (by omega)]
    simp only [Int.toNat_natCast, List.take_length]

end Go.Proofs.YtojfiifjjgfpaaaDoor.Vf
