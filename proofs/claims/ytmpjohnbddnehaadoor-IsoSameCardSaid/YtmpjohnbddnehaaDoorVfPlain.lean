
/- The functions on plain scalars, and the reference's, as plain functions on lists. No condition but sizes. -/
import Derived.Test.YtmpjohnbddnehaaDoorVfRune
namespace Go.Proofs.YtmpjohnbddnehaaDoor.Vf
set_option linter.unusedVariables false
set_option linter.unusedSimpArgs false

theorem rune_size' (l : List UInt8) (h : l ≠ []) : 1 ≤ (rune l).2.1 ∧ (rune l).2.1 ≤ l.length := by
  cases l with
  | nil => exact absurd rfl h
  | cons c r =>
    have hc := byte_lt c
    rw [rune_cons]
    simp only [List.length_cons]
    by_cases k1 : c.toNat < 128
    · rw [runeN_1 k1]; dsimp only; omega
    by_cases k2 : c.toNat < 192
    · rw [runeN_bad (by omega) hc]; dsimp only; omega
    by_cases k3 : c.toNat < 224
    · rw [runeN_2 (by omega) k3]; split <;> dsimp only <;> omega
    by_cases k4 : c.toNat < 240
    · rw [runeN_3 (by omega) k4]; split <;> dsimp only <;> omega
    by_cases k5 : c.toNat < 248
    · rw [runeN_4 (by omega) k5]; split <;> dsimp only <;> omega
    · rw [runeN_bad (by omega) hc]; dsimp only; omega

theorem indexByte_has' (l : List UInt8) (c : UInt8) : 0 ≤ Lib.indexByte l c ↔ l.contains c = true := by
  induction l with
  | nil => simp [Lib.indexByte]
  | cons b l ih =>
    have hge := Lib.indexByte_ge l c
    rw [List.contains_cons]
    show 0 ≤ (if (b == c) = true then (0 : Int) else if (Lib.indexByte l c == -1) = true then -1 else Lib.indexByte l c + 1) ↔ _
    by_cases h : b = c
    · subst h; simp
    · have h1 : (b == c) = false := by simpa using h
      have h2 : (c == b) = false := by simpa using fun e => h e.symm
      rw [h1, h2, Bool.false_or, ← ih, if_neg (by simp)]
      by_cases hn : Lib.indexByte l c = -1
      · rw [if_pos (by simpa using hn)]; omega
      · rw [if_neg (by simpa using hn)]; omega
theorem indexByte_has (l : List UInt8) (c : UInt8) : decide (Lib.indexByte l c ≥ 0) = l.contains c := by
  rw [Bool.eq_iff_iff, decide_eq_true_eq]; exact indexByte_has' l c
theorem indexByte_not (l : List UInt8) (c : UInt8) : decide (Lib.indexByte l c < 0) = !l.contains c := by
  rw [← indexByte_has, Bool.eq_iff_iff]; simp only [decide_eq_true_eq, Bool.not_eq_true', decide_eq_false_iff_not]; omega

def blank (c : UInt8) : Bool := decide (c.toNat = 32) || decide (c.toNat = 9)
def brk (c : UInt8) : Bool := ([44, 91, 93, 123, 125] : List UInt8).contains c
def sgn (c : UInt8) : Bool := ([45, 63, 58] : List UInt8).contains c
def ind (c : UInt8) : Bool := ([44, 91, 93, 123, 125, 35, 38, 42, 33, 124, 62, 39, 34, 37, 64, 96] : List UInt8).contains c

/-- Is what stands at a place an end of what is ahead of it? -/
def endsAt (b : List UInt8) (i : Nat) (flow : Bool) : Bool := if b.length ≤ i then true else blank (b.getD i 0) || (flow && brk (b.getD i 0))

/-- May a plain scalar begin there? -/
def starts (b : List UInt8) (flow : Bool) : Bool :=
  if b = [] then false else !blank (b.getD 0 0) && !(b.take 3 == [45, 45, 45]) && !(b.take 3 == [46, 46, 46]) && (if sgn (b.getD 0 0) = true then !endsAt b 1 flow else !ind (b.getD 0 0))

theorem take3_short {b : List UInt8} (h : ¬ 3 ≤ b.length) (x y z : UInt8) : (b.take 3 == [x, y, z]) = false := by
  rw [beq_eq_false_iff_ne]; intro e
  have := congrArg List.length e
  simp at this; omega

/-- Does a plain scalar end ahead of a place? -/
def stopAt (b : List UInt8) (i : Nat) (flow : Bool) : Bool :=
  if (b.getD i 0).toNat = 9 then true else if (b.getD i 0).toNat = 58 then endsAt b (i + 1) flow else if (b.getD i 0).toNat = 35 then decide (0 < i) && blank (b.getD (i - 1) 0) else flow && brk (b.getD i 0)

/-- How far it goes. -/
def runTo (b : List UInt8) (flow : Bool) : Nat → Nat → Nat
  | 0, i => i
  | k + 1, i => if i < b.length ∧ stopAt b i flow = false then runTo b flow k (i + 1) else i
def trimTo (b : List UInt8) : Nat → Nat
  | 0 => 0
  | n + 1 => if (b.getD n 0).toNat = 32 then trimTo b n else n + 1
theorem runTo_le (b : List UInt8) (flow : Bool) : ∀ k i, i ≤ b.length → runTo b flow k i ≤ b.length
  | 0, i, h => h
  | k + 1, i, h => by
    simp only [runTo]; split
    · exact runTo_le b flow k (i + 1) (by omega)
    · exact h
theorem trimTo_le (b : List UInt8) : ∀ n, trimTo b n ≤ n
  | 0 => Nat.le_refl _
  | n + 1 => by simp only [trimTo]; split; have := trimTo_le b n; omega; omega
def plen (b : List UInt8) (flow : Bool) : Nat := if starts b flow = true then trimTo b (runTo b flow (b.length + 1) 0) else 0

/-- Are all runes printable, and none below 32? -/
def cleanL (tabs : Bool) : Nat → List UInt8 → Bool
  | 0, _ => true
  | k + 1, l => if l = [] then true else (rune l).2.2 && printable (rune l).1 && !decide ((rune l).1 = 10) && !decide ((rune l).1 = 13) && (tabs || !decide ((rune l).1 = 9)) && cleanL tabs k (l.drop (rune l).2.1)
theorem cleanL_fuel (tabs : Bool) : ∀ (n m : Nat) (l : List UInt8), l.length < n → l.length < m → cleanL tabs n l = cleanL tabs m l := by
  intro n
  induction n with
  | zero => intro m l h; omega
  | succ n ih =>
    intro m l h h'
    obtain ⟨m, rfl⟩ : ∃ k, m = k + 1 := ⟨m - 1, by omega⟩
    simp only [cleanL]
    by_cases hl : l = []
    · rw [if_pos hl, if_pos hl]
    · rw [if_neg hl, if_neg hl]
      have := rune_size' l hl
      rw [ih m _ (by simp; omega) (by simp; omega)]
def clean (tabs : Bool) (l : List UInt8) : Bool := cleanL tabs (l.length + 1) l

theorem low_printable (r : Nat) : (printable r && !decide (r = 10) && !decide (r = 13) && !decide (r = 9)) = (printable r && !decide (r < 32)) := by
  rw [Bool.eq_iff_iff]
  simp only [Bool.and_eq_true, Bool.not_eq_true', decide_eq_false_iff_not]
  unfold printable
  rw [decide_eq_true_eq]
  omega

def pvalid (s : List UInt8) (flow : Bool) : Bool := clean false s && !(s == []) && decide (plen s flow = s.length)

theorem sgn_not_ind (c : UInt8) (h : sgn c = true) : ind c = false := by
  simp only [sgn, List.contains_cons, List.contains_nil, Bool.or_false, Bool.or_eq_true, beq_iff_eq] at h
  rcases h with rfl | rfl | rfl <;> rfl

end Go.Proofs.YtmpjohnbddnehaaDoor.Vf
