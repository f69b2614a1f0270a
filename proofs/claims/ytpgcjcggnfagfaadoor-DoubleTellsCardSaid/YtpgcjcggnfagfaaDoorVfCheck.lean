
/- Check, Intact and the chapter's example, as plain functions on lists. No condition but sizes. -/
import Derived.Test.YtpgcjcggnfagfaaDoorVfRune
namespace Go.Proofs.YtpgcjcggnfagfaaDoor.Vf
set_option linter.unusedVariables false
set_option linter.unusedSimpArgs false

theorem rune_size (l : List UInt8) (h : l ≠ []) : 1 ≤ (rune l).2.1 ∧ (rune l).2.1 ≤ l.length ∧ (rune l).1 ≤ 1114111 := by
  cases l with
  | nil => exact absurd rfl h
  | cons c r =>
    have hc := byte_lt c
    rw [rune_cons]
    simp only [List.length_cons]
    by_cases k1 : c.toNat < 128
    · rw [runeN_1 k1]; dsimp only; omega
    by_cases k2 : c.toNat < 192
    · rw [runeN_bad (by omega) hc]; dsimp only; omega
    by_cases k3 : c.toNat < 224
    · rw [runeN_2 (by omega) k3]; split <;> dsimp only <;> omega
    by_cases k4 : c.toNat < 240
    · rw [runeN_3 (by omega) k4]; split <;> dsimp only <;> omega
    by_cases k5 : c.toNat < 248
    · rw [runeN_4 (by omega) k5]; split <;> dsimp only <;> omega
    · rw [runeN_bad (by omega) hc]; dsimp only; omega

def badAt (l : List UInt8) : Bool := !(rune l).2.2 || !printable (rune l).1 || (decide ((rune l).1 = 13) && !(decide (1 < l.length) && decide ((l.getD 1 0).toNat = 10)))

/-- Where a text is none, from here on. -/
def chkL : Nat → List UInt8 → Option Nat
  | 0, _ => none
  | k + 1, l => if l = [] then none else if badAt l = true then some 0 else (chkL k (l.drop (rune l).2.1)).map (· + (rune l).2.1)

theorem chkL_fuel : ∀ (n m : Nat) (l : List UInt8), l.length < n → l.length < m → chkL n l = chkL m l := by
  intro n
  induction n with
  | zero => intro m l h; omega
  | succ n ih =>
    intro m l h h'
    obtain ⟨m, rfl⟩ : ∃ k, m = k + 1 := ⟨m - 1, by omega⟩
    simp only [chkL]
    by_cases hl : l = []
    · rw [if_pos hl, if_pos hl]
    · rw [if_neg hl, if_neg hl]
      have := rune_size l hl
      rw [ih m _ (by simp; omega) (by simp; omega)]
def chk (l : List UInt8) : Option Nat := chkL (l.length + 1) l

theorem bool_not_cond {β : Type} {b : Bool} {x y : β} : (bif !b then x else y) = if b = true then y else x := by cases b <;> rfl

def bom (b : List UInt8) : Nat := if 3 ≤ b.length ∧ b.take 3 = [239, 187, 191] then 3 else 0
theorem bom_le (b : List UInt8) : bom b ≤ b.length := by unfold bom; split <;> omega
theorem bom_cases (b : List UInt8) : bom b = 0 ∨ bom b = 3 := by unfold bom; split <;> simp
def checkP (b : List UInt8) : Int × Int := if 65536 < b.length then (65536, 10) else match chk (b.drop (bom b)) with | none => (0, 0) | some j => (((bom b + j : Nat) : Int), 1)

theorem D_marked (b : List UInt8) : D id_ref01Marked [.bytes b] = some ⟨.bool (decide (bom b = 3)), false, []⟩ := by
  refine den_fn (N := 0) (F := ref01Marked) rfl rfl ?_
  rw [ref01Marked_eq]
  unfold ref01Markedr
  by_cases h3 : 3 ≤ b.length
  · match b, h3 with
    | c0 :: c1 :: c2 :: r, h3 =>
      rw [cond_d (by omega), need_d (by omega)]
      simp only [Int.toNat_zero, List.getElem?_cons_zero, Option.bind_some]
      have hb : decide (bom (c0 :: c1 :: c2 :: r) = 3) = decide (c0.toNat = 239 ∧ c1.toNat = 187 ∧ c2.toNat = 191) := by
        unfold bom
        have e : (3 ≤ (c0 :: c1 :: c2 :: r).length ∧ (c0 :: c1 :: c2 :: r).take 3 = [239, 187, 191]) ↔ (c0.toNat = 239 ∧ c1.toNat = 187 ∧ c2.toNat = 191) := by
          have e0 := toNat_eq (c := c0) (k := 239) (by omega)
          have e1 := toNat_eq (c := c1) (k := 187) (by omega)
          have e2 := toNat_eq (c := c2) (k := 191) (by omega)
          rw [← e0, ← e1, ← e2]
          constructor
          · rintro ⟨_, h⟩; simpa using h
          · intro h; refine ⟨by simp, by simpa using h⟩
        rw [Bool.eq_iff_iff, decide_eq_true_eq, decide_eq_true_eq, ← e]
        constructor
        · intro h; split at h
          · assumption
          · omega
        · intro h; rw [if_pos h]
      rw [hb]
      by_cases g0 : c0.toNat = 239
      · rw [cond_eq (by omega), need_d (by omega)]
        simp only [show Int.toNat 1 = 1 from rfl, List.getElem?_cons_succ, List.getElem?_cons_zero, Option.bind_some]
        by_cases g1 : c1.toNat = 187
        · rw [cond_eq (by omega), need_d (by omega)]
          simp only [show Int.toNat 2 = 2 from rfl, List.getElem?_cons_succ, List.getElem?_cons_zero, Option.bind_some]
          refine retB_congr ?_
          rw [Bool.eq_iff_iff]; simp only [beq_iff_eq, decide_eq_true_eq]; omega
        · rw [cond_ne (by omega)]
          refine retB_congr ?_
          rw [Bool.eq_iff_iff]; simp only [decide_eq_true_eq, Bool.false_eq_true, false_iff]; omega
      · rw [cond_ne (by omega)]
        refine retB_congr ?_
        rw [Bool.eq_iff_iff]; simp only [decide_eq_true_eq, Bool.false_eq_true, false_iff]; omega
  · rw [cond_nd (by omega)]
    have hbom : bom b = 0 := by unfold bom; rw [if_neg fun h => h3 h.1]
    rw [hbom]; rfl

theorem refCheck_loop (b : List UInt8) (hb : b.length ≤ 1000000) (N : Nat) (k0 : Int → Int → Option Res) (k1 : Option Res) : ∀ (n i : Nat), b.length < i + n → i ≤ b.length →
    ref01Check_L1 D N k0 k1 n b i = match chkL n (b.drop i) with | none => k1 | some j => k0 ((i + j : Nat) : Int) 1 := by
  intro n
  induction n with
  | zero => intro i h _; omega
  | succ n ih =>
    intro i h hi
    simp only [ref01Check_L1, ref01Check_L1s, chkL]
    by_cases hlt : i < b.length
    · have hne : b.drop i ≠ [] := fun e => by have := congrArg List.length e; simp at this; omega
      have hsz := rune_size _ hne
      rw [List.length_drop] at hsz
      rw [cond_d (by omega), need_d2 (by omega) (by omega), if_neg hne]
      simp only [Int.toNat_natCast, List.take_length, D_refRune, Option.bind_some, asJIBT, asT_t, asC_c, asI_i, asB_b, asN_n, D_refPrintable]
      rw [wrap_i64 (x := (i : Int) + 1) (by omega) (by omega), wrap_i64 (x := (i : Int) + ((rune (b.drop i)).2.1 : Nat)) (by omega) (by omega)]
      have go : (badAt (b.drop i) = false) → ref01Check_L1 D N k0 k1 n b ((i : Int) + ((rune (b.drop i)).2.1 : Nat)) = match (if badAt (b.drop i) = true then some 0 else (chkL n ((b.drop i).drop (rune (b.drop i)).2.1)).map (· + (rune (b.drop i)).2.1)) with | none => k1 | some j => k0 ((i + j : Nat) : Int) 1 := by
        intro hbad
        rw [hbad, if_neg (by simp), show (i : Int) + ((rune (b.drop i)).2.1 : Nat) = ((i + (rune (b.drop i)).2.1 : Nat) : Int) by omega, ih _ (by omega) (by omega), List.drop_drop]
        cases chkL n (b.drop (i + (rune (b.drop i)).2.1)) with
        | none => rfl
        | some j => simp only [Option.map_some]; congr 1; omega
      have no : badAt (b.drop i) = true → k0 i 1 = match (if badAt (b.drop i) = true then some 0 else (chkL n ((b.drop i).drop (rune (b.drop i)).2.1)).map (· + (rune (b.drop i)).2.1)) with | none => k1 | some j => k0 ((i + j : Nat) : Int) 1 := by
        intro hbad; rw [hbad, if_pos rfl]; rfl
      have hbadAt : badAt (b.drop i) = (!(rune (b.drop i)).2.2 || !printable (rune (b.drop i)).1 || (decide ((rune (b.drop i)).1 = 13) && !(decide (1 < (b.drop i).length) && decide (((b.drop i).getD 1 0).toNat = 10)))) := rfl
      cases hok : (rune (b.drop i)).2.2
      · rw [← no (by rw [hbadAt, hok]; rfl)]; rfl
      · simp only [Bool.not_true, cond_false]
        cases hp : printable (rune (b.drop i)).1
        · rw [← no (by rw [hbadAt, hp]; simp)]; rfl
        · simp only [Bool.not_true, cond_false]
          by_cases h13 : (rune (b.drop i)).1 = 13
          · rw [cond_eq (by omega)]
            by_cases hend : b.length ≤ i + 1
            · rw [cond_d (by omega)]
              have hbad : badAt (b.drop i) = true := by
                rw [hbadAt]; simp only [Bool.or_eq_true, Bool.and_eq_true, decide_eq_true_eq, Bool.not_eq_true', Bool.and_eq_false_iff, decide_eq_false_iff_not]
                exact .inr ⟨h13, .inl (by simp; omega)⟩
              rw [← no hbad]
            · rw [cond_nd (by omega), need_d (by omega), show (i : Int) + 1 = ((i + 1 : Nat) : Int) by omega]
              simp only [Int.toNat_natCast]
              rw [get_bn (by omega)]
              have hg : (b.drop i).getD 1 0 = b.getD (i + 1) 0 := by simp [List.getD]
              by_cases h10 : (b.getD (i + 1) 0).toNat = 10
              · rw [cond_beq (by omega)]
                exact go (by rw [hbadAt, hok, hp, hg, h10]; simp; omega)
              · rw [cond_bne (by omega), ← no (by rw [hbadAt, hg, decide_eq_false h10, decide_eq_true h13]; simp)]
          · rw [cond_ne (by omega)]
            exact go (by rw [hbadAt, hok, hp]; simp [h13])
    · rw [cond_nd (by omega), List.drop_eq_nil_of_le (by omega), if_pos rfl]

theorem D_refCheck (b : List UInt8) (hb : b.length ≤ 1000000) : D id_ref01Check [.bytes b] = some ⟨.tup [.int .i64 (checkP b).1, .int .i64 (checkP b).2], false, []⟩ := by
  refine den_fn (N := b.length + 1) (F := ref01Check) rfl rfl ?_
  rw [ref01Check_eq]
  show ref01Checkr D _ b = _
  unfold ref01Checkr checkP
  by_cases hl : 65536 < b.length
  · rw [cond_d (by omega), if_pos hl]
  rw [cond_nd (by omega), if_neg hl]
  have loop : ∀ i : Nat, i ≤ b.length → ref01Check_L1 D (b.length + 1) (fun x y => some ⟨.tup [.int .i64 x, .int .i64 y], false, []⟩) (some ⟨.tup [.int .i64 0, .int .i64 0], false, []⟩) (b.length + 1) b i =
      some ⟨.tup [.int .i64 (match chk (b.drop i) with | none => ((0 : Int), (0 : Int)) | some j => (((i + j : Nat) : Int), 1)).1, .int .i64 (match chk (b.drop i) with | none => ((0 : Int), (0 : Int)) | some j => (((i + j : Nat) : Int), 1)).2], false, []⟩ := by
    intro i hi
    rw [refCheck_loop b hb _ _ _ _ i (by omega) hi]
    unfold chk
    rw [chkL_fuel (b.length + 1) ((b.drop i).length + 1) _ (by simp; omega) (by omega)]
    cases chkL ((b.drop i).length + 1) (b.drop i) <;> rfl
  rw [D_marked]
  simp only [Option.bind_some, asB_b]
  by_cases h3 : bom b = 3
  · rw [cond_d h3, h3]; exact loop 3 (by have := bom_le b; omega)
  · have hbom : bom b = 0 := (bom_cases b).resolve_right h3
    rw [cond_nd h3, hbom]; exact loop 0 (by omega)

theorem drop_nil (s : List UInt8) {i : Nat} (h : s.length ≤ i) : s.drop i = [] := List.drop_eq_nil_of_le h
theorem intact_loop (s t : List UInt8) (hs : s.length ≤ 1000000) (hl : s.length = t.length) (N : Nat) (k0 : Bool → Option Res) (k1 : Option Res) : ∀ (n i : Nat), s.length + 3 < i + n → i ≤ s.length + 3 →
    keepIntact_L1 D N k0 k1 n t (s ++ [85, 85, 85]) (((s ++ [85, 85, 85]).length : Nat) : Int) i = if s.drop i = t.drop i then k1 else k0 false := by
  intro n
  induction n with
  | zero => intro i h _; omega
  | succ n ih =>
    intro i h hi
    have hlen : (s ++ [85, 85, 85]).length = s.length + 3 := by simp
    simp only [keepIntact_L1, keepIntact_L1s]
    by_cases hlt : i < s.length + 3
    · rw [cond_d (by omega), wrap_i64 (by omega) (by omega), show (i : Int) + 1 = ((i + 1 : Nat) : Int) by omega]
      by_cases hlt2 : i < s.length
      · rw [cond_d (by omega), need_d (by omega)]
        simp only [Int.toNat_natCast]
        rw [get_bn (by omega), get_bn (by omega)]
        have e1 : (s ++ [85, 85, 85]).getD i 0 = s.getD i 0 := by simp [List.getD, List.getElem?_append_left hlt2]
        rw [e1, drop_step hlt2, drop_step (s := t) (by omega)]
        by_cases he : s.getD i 0 = t.getD i 0
        · rw [cond_beq (by rw [he]), cond_nd (by omega), ih (i + 1) (by omega) (by omega), he]
          simp [need_true]
        · rw [cond_bne (fun hh => he (UInt8.toNat_inj.1 (by omega))), if_neg (fun hh => he (List.cons.inj hh).1)] <;> rfl
      · rw [cond_nd (by omega), cond_d (by omega), need_d (by omega)]
        simp only [Int.toNat_natCast]
        rw [get_bn (by omega)]
        have e1 : (s ++ [85, 85, 85]).getD i 0 = 85 := by
          have : (s ++ [85, 85, 85])[i]? = some 85 := by
            rw [List.getElem?_append_right (by omega)]
            match hk : i - s.length, (show i - s.length < 3 by omega) with
            | 0, _ => rfl
            | 1, _ => rfl
            | 2, _ => rfl
          simp [List.getD, this]
        rw [e1, cond_beq (by rfl), ih (i + 1) (by omega) (by omega), drop_nil s (by omega), drop_nil t (by omega), drop_nil s (by omega), drop_nil t (by omega)]
    · rw [cond_nd (by omega), drop_nil s (by omega), drop_nil t (by omega), if_pos rfl]

theorem D_Intact (s t : List UInt8) (hs : s.length ≤ 1000000) : D id_keepIntact [.lent s, .bytes t] = some ⟨.bool (decide (s = t)), false, []⟩ := by
  refine den_fn (N := s.length + 4) (F := keepIntact) rfl rfl ?_
  rw [keepIntact_eq]
  show keepIntactr D _ s t = _
  unfold keepIntactr
  by_cases hl : s.length = t.length
  · rw [cond_beq (by omega), cond_beq (by rw [wrap_i64 (by omega) (by omega)]; omega), need_d (by rw [wrap_i64 (by omega) (by omega)]; omega)]
    have := intact_loop s t hs hl (s.length + 4) (fun b3 => some ⟨AV.bool b3, false, []⟩) (some ⟨AV.bool true, false, []⟩) (s.length + 4) 0 (by omega) (by omega)
    refine (show _ = _ from this).trans ?_
    simp only [List.drop_zero]
    by_cases he : s = t
    · rw [if_pos he]; simp [he]
    · rw [if_neg he]; simp [he]
  · rw [cond_bne (by omega)]
    refine retB_congr ?_
    rw [eq_comm, decide_eq_false_iff_not]; intro h; exact hl (by rw [h])

theorem D_Lend (s : List UInt8) (hs : s.length ≤ 1000000) : D id_keepLend [.bytes s] = some ⟨.lent s, false, []⟩ :=
  D_ext (by show (bif decide (s.length ≤ 1000000) then some (⟨.lent s, false, []⟩ : Res) else none) = _; rw [cond_d (by omega)])
end Go.Proofs.YtpgcjcggnfagfaaDoor.Vf
