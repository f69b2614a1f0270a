
/- lines and the reference's: splitting, places, indents, as plain functions on lists. No condition but sizes. -/
import Derived.Test.YtpjpmfchcijikaaDoorVfChars
namespace Go.Proofs.YtpjpmfchcijikaaDoor.Vf
set_option linter.unusedVariables false
set_option linter.unusedSimpArgs false

theorem D_IndexByte (s : List UInt8) (n : Int) : D id_bytesIndexByte [.bytes s, .int .u8 n] = some ⟨.int .i64 (Lib.indexByte s n.toNat.toUInt8), false, []⟩ := by
  refine den_fn (N := 0) (F := bytesIndexByte) rfl rfl ?_
  rw [bytesIndexByte_eq]
  have : den gl (get table) X id_internalBytealgIndexByte [.bytes s, .int .u8 n] = some ⟨.int .i64 (Lib.indexByte s n.toNat.toUInt8), false, []⟩ := den_ext rfl
  show bytesIndexByter D 0 s n = _
  unfold bytesIndexByter
  rw [show D id_internalBytealgIndexByte [.bytes s, .int .u8 n] = _ from this]
  simp [asI]

theorem D_Equal (a b : List UInt8) : D id_bytesEqual [.bytes a, .bytes b] = some ⟨.bool (a == b), false, []⟩ :=
  den_fn (N := 0) (F := bytesEqual) rfl rfl (by rw [bytesEqual_eq]; rfl)

theorem D_HasPrefix (a b : List UInt8) : D id_bytesHasPrefix [.bytes a, .bytes b] = some ⟨.bool (decide (b.length ≤ a.length) && a.take b.length == b), false, []⟩ := by
  refine den_fn (N := 0) (F := bytesHasPrefix) rfl rfl ?_
  rw [bytesHasPrefix_eq]
  show bytesHasPrefixr D 0 a b = _
  unfold bytesHasPrefixr
  by_cases h : b.length ≤ a.length
  · have h1 : decide ((a.length : Int) ≥ (b.length : Int)) = true := by simp; omega
    rw [h1]
    simp [D_Equal, asB, need, h]
  · have h1 : decide ((a.length : Int) ≥ (b.length : Int)) = false := by simp; omega
    rw [h1]
    simp [h]

/-- A line. -/
structure Ln where
  f : Nat
  t : Nat
  n : Nat
def Ln.av (l : Ln) : AV := .agg [.int .i64 l.f, .int .i64 l.t, .int .i64 l.n]

/-- The lines from a place on. -/
def splitFrom (b : List UInt8) : Nat → Nat → List Ln
  | 0, _ => []
  | k + 1, a => if a < b.length then (if Lib.indexByte (b.drop a) 10 < 0 then [⟨a, b.length, b.length⟩]
      else let n := (Lib.indexByte (b.drop a) 10).toNat
        ⟨a, if 0 < n ∧ b[a + n - 1]? = some 13 then a + n - 1 else a + n, a + n + 1⟩ :: splitFrom b k (a + n + 1)) else []

def bomAt (b : List UInt8) : Nat := if 3 ≤ b.length ∧ b.take 3 = [239, 187, 191] then 3 else 0
def splitL (b : List UInt8) : List Ln := splitFrom b (b.length + 1) (bomAt b)

theorem split_loop (b : List UInt8) (hb : b.length ≤ 1000000) (N : Nat) (k : List AV → Option Res) : ∀ (n a : Nat) (acc : List AV), b.length < a + n → acc.length ≤ a → a ≤ b.length →
    linesSplit_L1 D N k k n b a acc = k (acc ++ (splitFrom b n a).map Ln.av) := by
  intro n
  induction n with
  | zero => intro a acc h _ h2; omega
  | succ n ih =>
    intro a acc h hacc ha
    simp only [linesSplit_L1, linesSplit_L1s, splitFrom]
    by_cases hlt : a < b.length
    · have h1 : decide (((a : Nat) : Int) < ((b.length : Nat) : Int)) = true := by simp; omega
      rw [h1, if_pos hlt]
      simp only [cond_true, Int.toNat_natCast, List.take_length]
      rw [D_IndexByte]
      simp only [Option.bind_some, asI, decide_true, cond_true]
      have e10 : (10 : Int).toNat.toUInt8 = 10 := rfl
      rw [e10]
      have hneed : (decide ((0 : Int) ≤ (a : Int)) && decide ((a : Int) ≤ (b.length : Int))) = true := by simp; omega
      rw [hneed]
      simp only [need, cond_true, List.drop_zero, List.take_length]
      have hge := Lib.indexByte_ge (b.drop a) 10
      by_cases hneg : Lib.indexByte (b.drop a) 10 < 0
      · rw [decide_eq_true hneg, if_pos hneg]
        simp only [cond_true]
        have : decide (acc.length + [AV.agg [AV.int .i64 a, AV.int .i64 ((b.length : Nat) : Int), AV.int .i64 ((b.length : Nat) : Int)]].length ≤ 1099511627776) = true := by simp; omega
        rw [this]
        rfl
      · rw [decide_eq_false hneg, if_neg hneg]
        simp only [cond_false]
        obtain ⟨m, hm⟩ : ∃ m : Nat, Lib.indexByte (b.drop a) 10 = m := ⟨_, (Int.toNat_of_nonneg (by omega)).symm⟩
        have hat := (Lib.indexByte_some hm).1
        have hmlt := (List.getElem?_eq_some_iff.1 hat).1
        rw [List.length_drop] at hmlt
        rw [hm]
        simp only [Int.toNat_natCast]
        rw [wrap_i64 (x := (a : Int) + m) (by omega) (by omega)]
        rw [wrap_i64 (x := (a : Int) + m - 1) (by omega) (by omega), wrap_i64 (x := (a : Int) + m + 1) (by omega) (by omega)]
        have hdec : ∀ x y z : Int, decide (acc.length + [AV.agg [AV.int .i64 x, AV.int .i64 y, AV.int .i64 z]].length ≤ 1099511627776) = true := by intro x y z; simp; omega
        simp only [hdec, cond_true]
        have e2 : (a : Int) + m + 1 = ((a + m + 1 : Nat) : Int) := by omega
        have e1 : (a : Int) + m = ((a + m : Nat) : Int) := by omega
        rw [e2]
        by_cases hm0 : 0 < m
        · have d1 : decide (((m : Nat) : Int) > 0) = true := by simp; omega
          rw [d1]
          simp only [cond_true]
          have e3 : (a : Int) + m - 1 = ((a + m - 1 : Nat) : Int) := by omega
          rw [e3]
          have d2 : decide ((0 : Int) ≤ ((a + m - 1 : Nat) : Int)) = true := by simp
          rw [d2]
          simp only [cond_true, Int.toNat_natCast]
          obtain ⟨c, hc⟩ : ∃ c, b[a + m - 1]? = some c := ⟨b[a + m - 1]'(by omega), List.getElem?_eq_getElem (by omega)⟩
          rw [hc]
          simp only [Option.bind_some]
          by_cases h13 : c = 13
          · subst h13
            have d3 : (((13 : UInt8).toNat : Int) == 13) = true := rfl
            rw [d3]
            simp only [cond_true]
            rw [ih (a + m + 1) _ (by omega) (by rw [List.length_append]; simp only [List.length_cons, List.length_nil]; omega) (by omega)]
            simp [hm0, Ln.av]
          · have d3 : ((c.toNat : Int) == 13) = false := by
              simp only [beq_eq_false_iff_ne, ne_eq]
              intro hh
              exact h13 (UInt8.toNat_inj.1 (by simpa using (by omega : c.toNat = 13)))
            rw [d3]
            simp only [cond_false]
            rw [ih (a + m + 1) _ (by omega) (by rw [List.length_append]; simp only [List.length_cons, List.length_nil]; omega) (by omega)]
            simp [hm0, Ln.av, h13]
        · have d1 : decide (((m : Nat) : Int) > 0) = false := by simp; omega
          rw [d1]
          simp only [cond_false]
          rw [ih (a + m + 1) _ (by omega) (by rw [List.length_append]; simp only [List.length_cons, List.length_nil]; omega) (by omega)]
          simp [hm0, Ln.av]
    · have h1 : decide (((a : Nat) : Int) < ((b.length : Nat) : Int)) = false := by simp; omega
      rw [h1, if_neg hlt]
      simp
theorem D_Split (b : List UInt8) (hb : b.length ≤ 1000000) : D id_linesSplit [.bytes b] = some ⟨.row 3 ((splitL b).map Ln.av), true, []⟩ := by
  refine den_fn (N := b.length + 1) (F := linesSplit) rfl rfl ?_
  rw [linesSplit_eq]
  show linesSplitr D _ b = _
  unfold linesSplitr
  simp only [List.drop_zero, List.take_length]
  have e : (([239, 187, 191] : List UInt8).take 3) = [239, 187, 191] := rfl
  rw [e, D_HasPrefix]
  simp only [Option.bind_some, asB]
  unfold splitL bomAt
  by_cases h : 3 ≤ b.length ∧ b.take 3 = [239, 187, 191]
  · have d : (decide (([239, 187, 191] : List UInt8).length ≤ b.length) && b.take ([239, 187, 191] : List UInt8).length == [239, 187, 191]) = true := by
      simp only [List.length_cons, List.length_nil, Bool.and_eq_true, decide_eq_true_eq, beq_iff_eq]; exact h
    rw [d, if_pos h]
    simp only [cond_true]
    have := split_loop b hb (b.length + 1) (fun l => some ⟨.row 3 l, true, []⟩) (b.length + 1) 3 [] (by omega) (by simp) h.1
    simpa using this
  · have d : (decide (([239, 187, 191] : List UInt8).length ≤ b.length) && b.take ([239, 187, 191] : List UInt8).length == [239, 187, 191]) = false := by
      rw [Bool.eq_false_iff]; intro hh
      simp only [List.length_cons, List.length_nil, Bool.and_eq_true, decide_eq_true_eq, beq_iff_eq] at hh; exact h hh
    rw [d, if_neg h]
    simp only [cond_false]
    have := split_loop b hb (b.length + 1) (fun l => some ⟨.row 3 l, true, []⟩) (b.length + 1) 0 [] (by omega) (by simp) (by omega)
    simpa using this

theorem asIIIA_av {α : Type} (x : Ln) (K : Int → Int → Int → Option α) : asIIIA x.av K = K x.f x.t x.n := rfl

def atDown (l : List Ln) (off : Int) : Nat → Int × Int
  | 0 => (-1, 0)
  | k + 1 => match l[k]? with
    | some x => if (x.f : Int) ≤ off then ((k : Int), off - x.f) else atDown l off k
    | none => (-1, 0)
def atL (l : List Ln) (off : Int) : Int × Int := atDown l off l.length

theorem splitFrom_mem (b : List UInt8) : ∀ (n a : Nat) (x : Ln), x ∈ splitFrom b n a → a ≤ x.f ∧ x.f < b.length := by
  intro n
  induction n with
  | zero => intro a x h; simp [splitFrom] at h
  | succ n ih =>
    intro a x h
    simp only [splitFrom] at h
    split at h
    · split at h
      · simp only [List.mem_singleton] at h; subst h; simp; omega
      · rcases List.mem_cons.1 h with h | h
        · subst h; simp; omega
        · have := ih _ x h; omega
    · simp at h
theorem splitFrom_len (b : List UInt8) : ∀ (n a : Nat), (splitFrom b n a).length ≤ n := by
  intro n
  induction n with
  | zero => intro a; simp [splitFrom]
  | succ n ih =>
    intro a
    simp only [splitFrom]
    split
    · split
      · simp
      · simp; exact ih _
    · simp

theorem splitFrom_head (b : List UInt8) (n a : Nat) (x : Ln) (r : List Ln) (h : splitFrom b n a = x :: r) : x.f = a := by
  cases n with
  | zero => simp [splitFrom] at h
  | succ n =>
    simp only [splitFrom] at h
    split at h
    · split at h
      · simp only [List.cons.injEq] at h; rw [← h.1]
      · simp only [List.cons.injEq] at h; rw [← h.1]
    · cases h

/-- What At finds: the last line that begins at or ahead of the offset. -/
theorem atDown_spec (l : List Ln) (off : Int) : ∀ k, k ≤ l.length → (atDown l off k = (-1, 0) ∧ ∀ j x, j < k → l[j]? = some x → off < x.f) ∨
    (∃ i x, i < k ∧ l[i]? = some x ∧ (x.f : Int) ≤ off ∧ atDown l off k = ((i : Int), off - x.f) ∧ ∀ j y, i < j → j < k → l[j]? = some y → off < y.f) := by
  intro k
  induction k with
  | zero => intro _; exact .inl ⟨rfl, fun j x hj => by omega⟩
  | succ k ih =>
    intro hk
    obtain ⟨x, hx⟩ : ∃ x, l[k]? = some x := ⟨l[k]'(by omega), List.getElem?_eq_getElem (by omega)⟩
    simp only [atDown, hx]
    by_cases hle : (x.f : Int) ≤ off
    · rw [if_pos hle]
      exact .inr ⟨k, x, by omega, hx, hle, rfl, fun j y h1 h2 => by omega⟩
    · rw [if_neg hle]
      rcases ih (by omega) with ⟨h1, h2⟩ | ⟨i, y, h1, h2, h3, h4, h5⟩
      · refine .inl ⟨h1, fun j z hj hz => ?_⟩
        by_cases hjk : j = k
        · subst hjk; rw [hx] at hz; simp only [Option.some.injEq] at hz; subst hz; omega
        · exact h2 j z (by omega) hz
      · refine .inr ⟨i, y, by omega, h2, h3, h4, fun j z g1 g2 hz => ?_⟩
        by_cases hjk : j = k
        · subst hjk; rw [hx] at hz; simp only [Option.some.injEq] at hz; subst hz; omega
        · exact h5 j z g1 (by omega) hz

end Go.Proofs.YtpjpmfchcijikaaDoor.Vf
