
/- Paths: the program's functions as plain functions on lists. No condition but sizes. -/
import Derived.Test.YtlionohbndehgaaDoorVfTrim
import Derived.Test.YtlionohbndehgaaDoorVfDoubleB
namespace Go.Proofs.YtlionohbndehgaaDoor.Vf
set_option linter.unusedVariables false
set_option linter.unusedSimpArgs false

/-- How many digits are ahead. -/
def drun : List UInt8 → Nat
  | [] => 0
  | c :: r => if 48 ≤ c.toNat ∧ c.toNat ≤ 57 then drun r + 1 else 0
theorem drun_le : ∀ s : List UInt8, drun s ≤ s.length
  | [] => Nat.le_refl _
  | c :: r => by simp only [drun]; split; have := drun_le r; simp; omega; simp
def decV : List UInt8 → Nat → Nat
  | [], a => a
  | c :: r, a => decV r (a * 10 + (c.toNat - 48))
theorem decFrom_run : ∀ (k : Nat) (s : List UInt8) (a : Nat), k ≤ drun s → Lib.decFrom a (s.take k) = some (decV (s.take k) a)
  | 0, s, a, _ => rfl
  | k + 1, [], a, h => by simp [drun] at h
  | k + 1, c :: r, a, h => by
    simp only [drun] at h
    by_cases hc : 48 ≤ c.toNat ∧ c.toNat ≤ 57
    · rw [if_pos hc] at h
      simp only [List.take_succ_cons, Lib.decFrom, Lib.digitVal, decV]
      rw [if_pos hc]
      exact decFrom_run k r _ (by omega)
    · rw [if_neg hc] at h; omega
theorem atoi_run (s : List UInt8) (k : Nat) (h1 : 1 ≤ k) (hk : k ≤ drun s) : Lib.atoi (s.take k) = some ((decV (s.take k) 0 : Nat) : Int) := by
  cases s with
  | nil => simp [drun] at hk; omega
  | cons c r =>
    obtain ⟨k, rfl⟩ : ∃ j, k = j + 1 := ⟨k - 1, by omega⟩
    have hd := decFrom_run (k + 1) (c :: r) 0 hk
    have hc : 48 ≤ c.toNat ∧ c.toNat ≤ 57 := by
      simp only [drun] at hk
      by_cases hc : 48 ≤ c.toNat ∧ c.toNat ≤ 57
      · exact hc
      · rw [if_neg hc] at hk; omega
    have n1 : (c == 45) = false := by rw [Bool.eq_false_iff]; intro e; rw [beq_iff_eq] at e; subst e; exact absurd hc.1 (by decide)
    have n2 : (c == 43) = false := by rw [Bool.eq_false_iff]; intro e; rw [beq_iff_eq] at e; subst e; exact absurd hc.1 (by decide)
    rw [List.take_succ_cons] at hd ⊢
    simp only [Lib.atoi, n1, n2, Bool.false_eq_true, if_false, Lib.decNat, List.isEmpty_cons, hd, Option.map_some]
def numP (s : List UInt8) : Option (Nat × List UInt8) :=
  if 1 ≤ drun s ∧ drun s ≤ 6 ∧ (drun s = 1 ∨ (s.getD 0 0).toNat ≠ 48) then some (decV (s.take (drun s)) 0, s.drop (drun s)) else none

theorem num20_loop (s : List UInt8) (hs : s.length ≤ 1000000) (N : Nat) (k0 : List UInt8 → Int → Option Res) : ∀ (n i : Nat), s.length < i + n → i ≤ s.length →
    pathNumber_L1 D N k0 n s i = k0 s ((i + drun (s.drop i) : Nat) : Int) := by
  intro n
  induction n with
  | zero => intro i h _; omega
  | succ n ih =>
    intro i h hi
    simp only [pathNumber_L1, pathNumber_L1s]
    by_cases hlt : i < s.length
    · rw [cond_d (by omega), need_d (by omega)]
      simp only [Int.toNat_natCast]
      rw [get_bn hlt, D_Digit, drop_step hlt]
      simp only [Option.bind_some, asB_b, drun]
      by_cases hc : 48 ≤ (s.getD i 0).toNat ∧ (s.getD i 0).toNat ≤ 57
      · rw [cond_d (by omega), if_pos hc, wrap_i64 (by omega) (by omega), show (i : Int) + 1 = ((i + 1 : Nat) : Int) by omega, ih (i + 1) (by omega) (by omega)]
        rw [show i + 1 + drun (s.drop (i + 1)) = i + (drun (s.drop (i + 1)) + 1) by omega]
      · rw [cond_nd (by omega), if_neg hc]; rfl
    · rw [cond_nd (by omega), List.drop_eq_nil_of_le (by omega)]; rfl

def numA (x : Option (Nat × List UInt8)) : Option Res := some ⟨.tup [.int .i64 (((x.getD (0, [])).1 : Nat) : Int), .str (x.getD (0, [])).2, .bool x.isSome], false, []⟩
theorem D_Atoi (s : List UInt8) (n : Int) (hs : s.length ≤ 18) (h : Lib.atoi s = some n) : D id_strconvAtoi [.str s] = some ⟨.tup [.int .i64 n, .nilI], false, []⟩ := by
  refine D_ext ?_
  have e : X id_strconvAtoi [.str s] = bif decide (s.length ≤ 18) then (match Lib.atoi s with | some n => some (⟨.tup [.int .i64 n, .nilI], false, []⟩ : Res) | none => none) else none := rfl
  rw [e, cond_d hs, h]
theorem D_Number (s : List UInt8) (hs : s.length ≤ 1000000) : D id_pathNumber [.str s] = numA (numP s) := by
  refine den_fn (N := s.length + 1) (F := pathNumber) rfl rfl ?_
  rw [pathNumber_eq]
  show pathNumberr D _ s = _
  unfold pathNumberr
  refine (num20_loop s hs _ _ (s.length + 1) 0 (by omega) (by omega)).trans ?_
  rw [List.drop_zero, Nat.zero_add]
  have hl := drun_le s
  unfold numP
  by_cases h1 : 1 ≤ drun s
  · rw [cond_nd (by omega)]
    by_cases h6 : drun s ≤ 6
    · rw [cond_nd (by omega)]
      have fin : (need (decide (0 ≤ ((drun s : Nat) : Int)) && decide (((drun s : Nat) : Int) ≤ ((s.length : Nat) : Int))) <|
            (D id_strconvAtoi [AV.str ((s.take (Int.toNat ((drun s : Nat) : Int))).drop 0)]).bind fun r3 =>
            asIVT r3.v fun i6 v2 =>
            need (decide (0 ≤ ((drun s : Nat) : Int)) && decide (((drun s : Nat) : Int) ≤ ((s.length : Nat) : Int))) <|
            asNil v2 <|
            some (⟨AV.tup [AV.int .i64 i6, AV.str ((s.take s.length).drop (Int.toNat ((drun s : Nat) : Int))), AV.bool true], false, []⟩ : Res)) = numA (some (decV (s.take (drun s)) 0, s.drop (drun s))) := by
        simp only [need_d2 (show (0 : Int) ≤ ((drun s : Nat) : Int) by omega) (show ((drun s : Nat) : Int) ≤ ((s.length : Nat) : Int) by omega), Int.toNat_natCast, List.drop_zero, List.take_length]
        rw [D_Atoi _ _ (by rw [List.length_take]; omega) (atoi_run s _ h1 (Nat.le_refl _))]
        rfl
      by_cases hm : 1 < drun s
      · rw [cond_d (by omega), need_d (by omega)]
        rw [show Int.toNat 0 = 0 from rfl, get_bn (by omega)]
        by_cases h48 : (s.getD 0 0).toNat = 48
        · rw [cond_eq (by omega), if_neg (by omega)]; rfl
        · rw [cond_ne (by omega), if_pos ⟨h1, h6, .inr h48⟩]; exact fin
      · rw [cond_nd (by omega), if_pos ⟨h1, h6, .inl (by omega)⟩]; exact fin
    · rw [cond_d (by omega), if_neg (by omega)]; rfl
  · rw [cond_d (by omega), if_neg (by omega)]; rfl
end Go.Proofs.YtlionohbndehgaaDoor.Vf
