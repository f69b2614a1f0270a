/- What lines.Split, lines.At and the law LinesAt come to: true, whatever the input. No condition. -/
import Derived.Test.YtnapopfbmdghkaaVfSpec
namespace Go.Proofs.Ytnapopfbmdghkaa.Vf
set_option linter.unusedVariables false
set_option linter.unusedSimpArgs false

theorem D_Split (b : List UInt8) (hb : b.length ≤ 1000000) : D id_linesSplit [.bytes b] = some ⟨.row 3 ((splitL b).map Ln.av), true, []⟩ := by
  refine den_fn (N := b.length + 1) (F := linesSplit) rfl rfl ?_
  rw [linesSplit_eq]
  show linesSplitr D _ b = _
  unfold linesSplitr
  simp only [List.drop_zero, List.take_length]
  have e : (([239, 187, 191] : List UInt8).take 3) = [239, 187, 191] := rfl
  rw [e, D_HasPrefix]
  simp only [Option.bind_some, asB]
  unfold splitL bomAt
  by_cases h : 3 ≤ b.length ∧ b.take 3 = [239, 187, 191]
  · have d : (decide (([239, 187, 191] : List UInt8).length ≤ b.length) && b.take ([239, 187, 191] : List UInt8).length == [239, 187, 191]) = true := by
      simp only [List.length_cons, List.length_nil, Bool.and_eq_true, decide_eq_true_eq, beq_iff_eq]; exact h
    rw [d, if_pos h]
    simp only [cond_true]
    have := split_loop b hb (b.length + 1) (fun l => some ⟨.row 3 l, true, []⟩) (b.length + 1) 3 [] (by omega) (by simp) h.1
    simpa using this
  · have d : (decide (([239, 187, 191] : List UInt8).length ≤ b.length) && b.take ([239, 187, 191] : List UInt8).length == [239, 187, 191]) = false := by
      rw [Bool.eq_false_iff]; intro hh
      simp only [List.length_cons, List.length_nil, Bool.and_eq_true, decide_eq_true_eq, beq_iff_eq] at hh; exact h hh
    rw [d, if_neg h]
    simp only [cond_false]
    have := split_loop b hb (b.length + 1) (fun l => some ⟨.row 3 l, true, []⟩) (b.length + 1) 0 [] (by omega) (by simp) (by omega)
    simpa using this

theorem asIIIA_av {α : Type} (x : Ln) (K : Int → Int → Int → Option α) : asIIIA x.av K = K x.f x.t x.n := rfl

def atDown (l : List Ln) (off : Int) : Nat → Int × Int
  | 0 => (-1, 0)
  | k + 1 => match l[k]? with
    | some x => if (x.f : Int) ≤ off then ((k : Int), off - x.f) else atDown l off k
    | none => (-1, 0)
def atL (l : List Ln) (off : Int) : Int × Int := atDown l off l.length

theorem at_loop (l : List Ln) (off : Int) (hl : ∀ x ∈ l, x.f ≤ 2000000) (hlen : l.length ≤ 2000000) (h0 : -1099511627776 ≤ off) (h1 : off ≤ 1099511627776) (N : Nat) : ∀ (k n : Nat), k ≤ l.length → k < n →
    linesAt_L1 D N (fun i c => some ⟨AV.tup [AV.int .i64 i, AV.int .i64 c], false, []⟩) (some ⟨AV.tup [AV.int .i64 (-1), AV.int .i64 0], false, []⟩) n (l.map Ln.av) off ((k : Int) - 1) =
      some ⟨AV.tup [AV.int .i64 (atDown l off k).1, AV.int .i64 (atDown l off k).2], false, []⟩ := by
  intro k
  induction k with
  | zero =>
    intro n _ hn
    obtain ⟨n, rfl⟩ : ∃ m, n = m + 1 := ⟨n - 1, by omega⟩
    simp [linesAt_L1, linesAt_L1s, atDown]
  | succ k ih =>
    intro n hk hn
    obtain ⟨n, rfl⟩ : ∃ m, n = m + 1 := ⟨n - 1, by omega⟩
    have e : ((k + 1 : Nat) : Int) - 1 = (k : Int) := by omega
    rw [e]
    obtain ⟨x, hx⟩ : ∃ x, l[k]? = some x := ⟨l[k]'(by omega), List.getElem?_eq_getElem (by omega)⟩
    have hxm : x.f ≤ 2000000 := hl x (List.mem_of_getElem? hx)
    have hget : (l.map Ln.av)[k]? = some x.av := by simp [hx]
    have d1 : decide ((k : Int) ≥ 0) = true := by simp
    have d2 : decide ((0 : Int) ≤ (k : Int)) = true := by simp
    simp only [linesAt_L1, linesAt_L1s, d1, d2, cond_true, need, Int.toNat_natCast, hget, Option.bind_some, asIIIA_av, atDown, hx]
    by_cases hle : (x.f : Int) ≤ off
    · rw [decide_eq_true hle, if_pos hle]
      simp only [cond_true]
      rw [wrap_i64 (by omega) (by omega)]
    · rw [decide_eq_false hle, if_neg hle]
      simp only [cond_false]
      rw [wrap_i64 (by omega) (by omega)]
      exact ih n (by omega) (by omega)

theorem D_At (l : List Ln) (off : Int) (hl : ∀ x ∈ l, x.f ≤ 2000000) (hlen : l.length ≤ 2000000) (h0 : -1099511627776 ≤ off) (h1 : off ≤ 1099511627776) :
    D id_linesAt [.row 3 (l.map Ln.av), .int .i64 off] = some ⟨.tup [.int .i64 (atL l off).1, .int .i64 (atL l off).2], false, []⟩ := by
  refine den_fn (N := l.length + 1) (F := linesAt) rfl rfl ?_
  rw [linesAt_eq]
  show linesAtr D _ _ _ = _
  unfold linesAtr
  rw [List.length_map, wrap_i64 (by omega) (by omega)]
  exact at_loop l off hl hlen h0 h1 _ l.length _ (Nat.le_refl _) (by omega)

theorem splitFrom_mem (b : List UInt8) : ∀ (n a : Nat) (x : Ln), x ∈ splitFrom b n a → a ≤ x.f ∧ x.f < b.length := by
  intro n
  induction n with
  | zero => intro a x h; simp [splitFrom] at h
  | succ n ih =>
    intro a x h
    simp only [splitFrom] at h
    split at h
    · split at h
      · simp only [List.mem_singleton] at h; subst h; simp; omega
      · rcases List.mem_cons.1 h with h | h
        · subst h; simp; omega
        · have := ih _ x h; omega
    · simp at h
theorem splitFrom_len (b : List UInt8) : ∀ (n a : Nat), (splitFrom b n a).length ≤ n := by
  intro n
  induction n with
  | zero => intro a; simp [splitFrom]
  | succ n ih =>
    intro a
    simp only [splitFrom]
    split
    · split
      · simp
      · simp; exact ih _
    · simp

theorem splitFrom_head (b : List UInt8) (n a : Nat) (x : Ln) (r : List Ln) (h : splitFrom b n a = x :: r) : x.f = a := by
  cases n with
  | zero => simp [splitFrom] at h
  | succ n =>
    simp only [splitFrom] at h
    split at h
    · split at h
      · simp only [List.cons.injEq] at h; rw [← h.1]
      · simp only [List.cons.injEq] at h; rw [← h.1]
    · cases h

/-- What At finds: the last line that begins at or ahead of the offset. -/
theorem atDown_spec (l : List Ln) (off : Int) : ∀ k, k ≤ l.length → (atDown l off k = (-1, 0) ∧ ∀ j x, j < k → l[j]? = some x → off < x.f) ∨
    (∃ i x, i < k ∧ l[i]? = some x ∧ (x.f : Int) ≤ off ∧ atDown l off k = ((i : Int), off - x.f) ∧ ∀ j y, i < j → j < k → l[j]? = some y → off < y.f) := by
  intro k
  induction k with
  | zero => intro _; exact .inl ⟨rfl, fun j x hj => by omega⟩
  | succ k ih =>
    intro hk
    obtain ⟨x, hx⟩ : ∃ x, l[k]? = some x := ⟨l[k]'(by omega), List.getElem?_eq_getElem (by omega)⟩
    simp only [atDown, hx]
    by_cases hle : (x.f : Int) ≤ off
    · rw [if_pos hle]
      exact .inr ⟨k, x, by omega, hx, hle, rfl, fun j y h1 h2 => by omega⟩
    · rw [if_neg hle]
      rcases ih (by omega) with ⟨h1, h2⟩ | ⟨i, y, h1, h2, h3, h4, h5⟩
      · refine .inl ⟨h1, fun j z hj hz => ?_⟩
        by_cases hjk : j = k
        · subst hjk; rw [hx] at hz; simp only [Option.some.injEq] at hz; subst hz; omega
        · exact h2 j z (by omega) hz
      · refine .inr ⟨i, y, by omega, h2, h3, h4, fun j z g1 g2 hz => ?_⟩
        by_cases hjk : j = k
        · subst hjk; rw [hx] at hz; simp only [Option.some.injEq] at hz; subst hz; omega
        · exact h5 j z g1 (by omega) hz

theorem D_wakes : D id_law02Wakes [] = some ⟨.bool true, false, []⟩ := by
  refine den_fn (N := 0) (F := law02Wakes) rfl rfl ?_
  rw [law02Wakes_eq]
  show law02Wakesr D 0 = _
  unfold law02Wakesr
  have e : (([97, 13, 10] : List UInt8).drop 0).take 3 = [97, 13, 10] := rfl
  rw [e, D_Split _ (by decide)]
  rfl

theorem D_LinesAt (s : List UInt8) (off : Int) : D id_law02LinesAt [.bytes s, .int .i64 off] = some ⟨.bool true, false, []⟩ := by
  refine den_fn (N := 0) (F := law02LinesAt) rfl rfl ?_
  rw [law02LinesAt_eq]
  show law02LinesAtr D 0 s off = _
  unfold law02LinesAtr
  rw [show (120 : Int) = ((120 : Nat) : Int) from rfl, D_Cut s 120 (by omega)]
  simp only [Option.bind_some, asY]
  generalize hb : s.take 120 = b
  have hbl : b.length ≤ 120 := by rw [← hb]; simp; omega
  rw [D_Split b (by omega)]
  simp only [Option.bind_some, asR, show Nat.beq 3 3 = true from rfl, cond_true]
  rw [wrap_i64 (by omega) (by omega), show ((b.length : Int) + 3) = ((b.length + 3 : Nat) : Int) by omega, D_Within off _ (by omega) (by omega)]
  simp only [Option.bind_some, asI, decide_true, cond_true]
  have h4 := Int.emod_nonneg off (b := ((b.length + 3 : Nat) : Int)) (by omega)
  have h5 := Int.emod_lt_of_pos off (b := ((b.length + 3 : Nat) : Int)) (by omega)
  generalize off % ((b.length + 3 : Nat) : Int) = o at h4 h5
  generalize hl : splitL b = l
  have hlf : ∀ x ∈ l, x.f < b.length := fun x hx => by rw [← hl] at hx; exact (splitFrom_mem b _ _ x hx).2
  have hll : l.length ≤ 121 := by rw [← hl]; have := splitFrom_len b (b.length + 1) (bomAt b); unfold splitL; omega
  have hA : ∀ q : Int, -1 ≤ q → q ≤ 1000 → D id_linesAt [.row 3 (l.map Ln.av), .int .i64 q] = some ⟨.tup [.int .i64 (atL l q).1, .int .i64 (atL l q).2], false, []⟩ :=
    fun q h1 h2 => D_At l q (fun x hx => by have := hlf x hx; omega) (by omega) (by omega) (by omega)
  rw [hA o (by omega) (by omega)]
  have hT : ∀ {α : Type} (p q : Int) (K : Int → Int → Option α), asIIT (.tup [.int .i64 p, .int .i64 q]) K = K p q := fun _ _ _ => rfl
  simp only [Option.bind_some, hT, List.length_map]
  have hneg : atL l (-1) = (-1, 0) := by
    rcases atDown_spec l (-1) l.length (Nat.le_refl _) with ⟨h, _⟩ | ⟨i, x, _, _, h3, _⟩
    · exact h
    · omega
  have hw : ((D id_law02Wakes []).bind fun r5 => asB r5.v fun b1 => some (⟨AV.bool b1, false, []⟩ : Res)) = some ⟨.bool true, false, []⟩ := by rw [D_wakes]; rfl
  rw [hA (-1) (by omega) (by omega), hneg]
  simp only [Option.bind_some, hT, hw]
  have hspec := atDown_spec l o l.length (Nat.le_refl _)
  change (atL l o = _ ∧ _) ∨ (∃ i x, _ ∧ _ ∧ _ ∧ atL l o = _ ∧ _) at hspec
  cases l with
  | nil =>
    rcases hspec with ⟨h, _⟩ | ⟨i, x, h, _⟩
    · rw [h]; rfl
    · simp at h
  | cons x0 r =>
    have e0 : ((((x0 :: r).length : Nat) : Int) == 0) = false := by simp; omega
    rw [e0]
    have hg0 : ((x0 :: r).map Ln.av)[Int.toNat 0]? = some x0.av := rfl
    simp only [cond_false, hg0, Option.bind_some, asIIIA_av, need]
    rcases hspec with ⟨h, h2⟩ | ⟨i, x, h1, h2, h3, h4', h5'⟩
    · have := h2 0 x0 (by simp) rfl
      rw [h, decide_eq_true this]
      rfl
    · rw [h4']
      have hx := hlf x (List.mem_of_getElem? h2)
      by_cases hlt : o < x0.f
      · exfalso
        have h7 := splitFrom_mem b (b.length + 1) (bomAt b) x (by show x ∈ splitL b; rw [hl]; exact List.mem_of_getElem? h2)
        have h8 := splitFrom_head b _ _ x0 r hl
        omega
      · rw [decide_eq_false hlt]
        have g1 : decide ((i : Int) < 0) = false := by simp
        have g2 : decide ((i : Int) ≥ (((x0 :: r).length : Nat) : Int)) = false := by simp at h1 ⊢; omega
        have g3 : decide ((0 : Int) ≤ (i : Int)) = true := by simp
        have g4 : ((x0 :: r).map Ln.av)[Int.toNat (i : Int)]? = some x.av := by rw [Int.toNat_natCast, List.getElem?_map, h2]; rfl
        have g5 : (IntKind.i64.wrap ((x.f : Int) + (o - x.f)) != o) = false := by rw [wrap_i64 (by omega) (by omega)]; simp; omega
        have g6 : decide (o - (x.f : Int) < 0) = false := by simp; omega
        have e1 : IntKind.i64.wrap ((i : Int) + 1) = ((i + 1 : Nat) : Int) := by rw [wrap_i64 (by omega) (by omega)]; omega
        simp only [cond_false, g1, g2, g3, g4, g5, g6, cond_true, Option.bind_some, asIIIA_av, e1]
        by_cases hlast : i + 1 = (x0 :: r).length
        · rw [hlast]; simp
        · have g7 : (((i + 1 : Nat) : Int) == (((x0 :: r).length : Nat) : Int)) = false := by simp at hlast ⊢; omega
          obtain ⟨y, hy⟩ : ∃ y, (x0 :: r)[i + 1]? = some y := ⟨(x0 :: r)[i + 1]'(by omega), List.getElem?_eq_getElem (by omega)⟩
          have g8 : ((x0 :: r).map Ln.av)[Int.toNat ((i + 1 : Nat) : Int)]? = some y.av := by rw [Int.toNat_natCast, List.getElem?_map, hy]; rfl
          have g9 := h5' (i + 1) y (by omega) (by omega) hy
          rw [g7, g8]
          simp only [cond_false, Option.bind_some, asIIIA_av, decide_eq_true g9, cond_true]
          have g10 : decide ((0 : Int) ≤ ((i + 1 : Nat) : Int)) = true := by simp; omega
          rw [g10]; rfl
end Go.Proofs.Ytnapopfbmdghkaa.Vf
