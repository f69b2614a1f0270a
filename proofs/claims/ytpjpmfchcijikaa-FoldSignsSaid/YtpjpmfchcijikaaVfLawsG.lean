
/- A block scalar's header, the program's and the reference's; the laws FoldHeaders and FoldSigns come to true. No condition but what an int holds. -/
import Derived.Test.YtpjpmfchcijikaaVfFold
import Derived.Test.YtpjpmfchcijikaaVfIntact
namespace Go.Proofs.Ytpjpmfchcijikaa.Vf
set_option linter.unusedVariables false
set_option linter.unusedSimpArgs false

/-- What signs come to: strip, keep, the digit, and how many signs. -/
def hdr : Bool → Bool → Nat → List UInt8 → Bool × Bool × Nat × Nat
  | S, K, d, [] => (S, K, d, 0)
  | S, K, d, c :: r =>
    if c.toNat = 45 ∧ S = false ∧ K = false then let x := hdr true K d r; (x.1, x.2.1, x.2.2.1, x.2.2.2 + 1)
    else if c.toNat = 43 ∧ S = false ∧ K = false then let x := hdr S true d r; (x.1, x.2.1, x.2.2.1, x.2.2.2 + 1)
    else if (49 ≤ c.toNat ∧ c.toNat ≤ 57) ∧ d = 0 then let x := hdr S K (c.toNat - 48) r; (x.1, x.2.1, x.2.2.1, x.2.2.2 + 1)
    else (S, K, d, 0)

theorem hdr_cons (S K : Bool) (d : Nat) (c : UInt8) (r : List UInt8) : hdr S K d (c :: r) =
    if c.toNat = 45 ∧ S = false ∧ K = false then ((hdr true K d r).1, (hdr true K d r).2.1, (hdr true K d r).2.2.1, (hdr true K d r).2.2.2 + 1)
    else if c.toNat = 43 ∧ S = false ∧ K = false then ((hdr S true d r).1, (hdr S true d r).2.1, (hdr S true d r).2.2.1, (hdr S true d r).2.2.2 + 1)
    else if (49 ≤ c.toNat ∧ c.toNat ≤ 57) ∧ d = 0 then ((hdr S K (c.toNat - 48) r).1, (hdr S K (c.toNat - 48) r).2.1, (hdr S K (c.toNat - 48) r).2.2.1, (hdr S K (c.toNat - 48) r).2.2.2 + 1)
    else (S, K, d, 0) := rfl

theorem hdr_loop (s : List UInt8) (hs : s.length ≤ 1000000) (N : Nat) (k0 : Int → Bool → Bool → Bool → Bool → Int → Option Res) (k1 : Int → Bool → Bool → Bool → Int → Option Res) (hk : ∀ i F S K d, k0 i true F S K d = k1 i F S K d) (F : Bool) : ∀ (n i : Nat) (S K : Bool) (d : Nat), s.length < i + n → i ≤ s.length →
    foldTakeHeader_L1 D N k0 k1 n s i F S K d = k1 ((i + (hdr S K d (s.drop i)).2.2.2 : Nat) : Int) F (hdr S K d (s.drop i)).1 (hdr S K d (s.drop i)).2.1 (hdr S K d (s.drop i)).2.2.1 := by
  intro n
  induction n with
  | zero => intro i S K d h h'; omega
  | succ n ih =>
    intro i S K d h h'
    simp only [foldTakeHeader_L1, foldTakeHeader_L1s]
    by_cases hi : i < s.length
    · have hc := byte_lt (s.getD i 0)
      rw [drop_step hi, cond_d (by omega), need_d (by omega)]
      simp only [Int.toNat_natCast]
      rw [get_bn hi, wrap_i64 (x := (i : Int) + 1) (by omega) (by omega), show (i : Int) + 1 = ((i + 1 : Nat) : Int) by omega]
      have ih' := fun S K d => ih (i + 1) S K d (by omega) (by omega)
      have hadd : ∀ x : Nat, i + 1 + x = i + (x + 1) := fun x => by omega
      simp only [D_Digit, Option.bind_some, asB_b]
      rw [hdr_cons]
      generalize s.drop (i + 1) = r at ih' ⊢
      generalize s.getD i 0 = c at hc ⊢
      have hd : c.toNat ≥ 49 → IntKind.i64.wrap (IntKind.u8.wrap ((c.toNat : Int) - 48)) = ((c.toNat - 48 : Nat) : Int) := fun h => by
        rw [wrap_u8 (by omega) (by omega), wrap_i64 (by omega) (by omega)]; omega
      by_cases h45 : c.toNat = 45
      · have a1 : ¬ (c.toNat = 43) := by omega
        have a2 : ¬ (49 ≤ c.toNat ∧ c.toNat ≤ 57) := by omega
        have a3 : decide ((48 : Int) ≤ (c.toNat : Int) ∧ (c.toNat : Int) ≤ 57) = false := by rw [decide_eq_false_iff_not]; omega
        cases S <;> cases K <;> simp (disch := omega) only [cond_eq, cond_ne, Bool.not_true, Bool.not_false, cond_true, cond_false, a1, a2, a3, eq_true h45, and_self, if_true, if_false, false_and, and_false, true_and, hk, ih', hadd, reduceCtorEq, Nat.add_zero]
      by_cases h43 : c.toNat = 43
      · have a2 : ¬ (49 ≤ c.toNat ∧ c.toNat ≤ 57) := by omega
        have a3 : decide ((48 : Int) ≤ (c.toNat : Int) ∧ (c.toNat : Int) ≤ 57) = false := by rw [decide_eq_false_iff_not]; omega
        cases S <;> cases K <;> simp (disch := omega) only [cond_eq, cond_ne, Bool.not_true, Bool.not_false, cond_true, cond_false, a2, a3, h45, eq_true h43, and_self, if_true, if_false, false_and, and_false, true_and, hk, ih', hadd, reduceCtorEq, Nat.add_zero]
      simp (disch := omega) only [cond_ne, h45, h43, false_and, if_false]
      by_cases hdg : 48 ≤ c.toNat ∧ c.toNat ≤ 57
      · rw [cond_d (show (48 : Int) ≤ (c.toNat : Int) ∧ (c.toNat : Int) ≤ 57 by omega)]
        by_cases h48 : c.toNat = 48
        · rw [cond_beq (by omega), if_neg (by omega), hk]; rfl
        · rw [cond_bne (by omega)]
          by_cases hd0 : d = 0
          · subst hd0
            rw [cond_eq (by omega), if_pos (by omega), hd (by omega), ih', hadd]
          · rw [cond_ne (by omega), if_neg (by omega), hk]; rfl
      · rw [cond_nd (by omega), if_neg (by omega), hk]; rfl
    · rw [cond_nd (by omega), List.drop_eq_nil_of_le (by omega)]; rfl

theorem hdr_full (S K : Bool) (d : Nat) (h1 : (S || K) = true) (h2 : d ≠ 0) (l : List UInt8) : hdr S K d l = (S, K, d, 0) := by
  cases l with
  | nil => rfl
  | cons c r =>
    rw [hdr_cons, if_neg, if_neg, if_neg]
    · exact fun h => h2 h.2
    · rintro ⟨_, rfl, rfl⟩; cases h1
    · rintro ⟨_, rfl, rfl⟩; cases h1

theorem refHdr_loop (s : List UInt8) (hs : s.length ≤ 1000000) (N : Nat) (k0 : Int → Bool → Bool → Bool → Bool → Int → Option Res) (k1 : Int → Bool → Bool → Bool → Int → Bool → Bool → Bool → Int → Option Res) (hk : ∀ i F S K d, k0 i true F S K d = k1 i false false false 0 F S K d) (F : Bool) : ∀ (n i : Nat) (S K : Bool) (d : Nat), s.length < i + n → i ≤ s.length → i = 1 + (if (S || K) = true then 1 else 0) + (if d = 0 then 0 else 1) →
    ref01TakeHeader_L1 D N k0 k1 n s i false false false 0 F S K d = k1 ((i + (hdr S K d (s.drop i)).2.2.2 : Nat) : Int) false false false 0 F (hdr S K d (s.drop i)).1 (hdr S K d (s.drop i)).2.1 (hdr S K d (s.drop i)).2.2.1 := by
  intro n
  induction n with
  | zero => intro i S K d h h'; omega
  | succ n ih =>
    intro i S K d h h' hinv
    simp only [ref01TakeHeader_L1, ref01TakeHeader_L1s]
    by_cases hi : i < s.length
    · by_cases h3 : i < 3
      · have hc := byte_lt (s.getD i 0)
        rw [drop_step hi, cond_d (by omega), cond_d (by omega), need_d (by omega)]
        simp only [Int.toNat_natCast]
        rw [get_bn hi, wrap_i64 (x := (i : Int) + 1) (by omega) (by omega), show (i : Int) + 1 = ((i + 1 : Nat) : Int) by omega]
        have ih' := fun S K d hh => ih (i + 1) S K d (by omega) (by omega) hh
        have hadd : ∀ x : Nat, i + 1 + x = i + (x + 1) := fun x => by omega
        rw [hdr_cons]
        generalize s.drop (i + 1) = r at ih' ⊢
        generalize s.getD i 0 = c at hc ⊢
        have hd : c.toNat ≥ 49 → IntKind.i64.wrap (IntKind.u8.wrap ((c.toNat : Int) - 48)) = ((c.toNat - 48 : Nat) : Int) := fun h => by
          rw [wrap_u8 (by omega) (by omega), wrap_i64 (by omega) (by omega)]; omega
        by_cases h45 : c.toNat = 45
        · have a1 : ¬ (c.toNat = 43) := by omega
          have a2 : ¬ (49 ≤ c.toNat ∧ c.toNat ≤ 57) := by omega
          have b1 : ((c.toNat : Int) == 45) = true := by simp; omega
          have b2 : ((c.toNat : Int) == 43) = false := by simp; omega
          have b3 : decide ((c.toNat : Int) ≥ 49) = false := by simp; omega
          cases S <;> cases K
          · simp only [b1, b2, Bool.not_false, cond_true, eq_true h45, and_self, if_true]
            rw [ih' true false d (by simp at hinv ⊢; omega), hadd]
          all_goals simp only [b1, b2, b3, Bool.not_true, Bool.not_false, cond_true, cond_false, a1, a2, eq_true h45, and_self, if_false, false_and, and_false, true_and, hk, reduceCtorEq, Nat.add_zero]
        have b1 : ((c.toNat : Int) == 45) = false := by simp; omega
        by_cases h43 : c.toNat = 43
        · have a2 : ¬ (49 ≤ c.toNat ∧ c.toNat ≤ 57) := by omega
          have b2 : ((c.toNat : Int) == 43) = true := by simp; omega
          have b3 : decide ((c.toNat : Int) ≥ 49) = false := by simp; omega
          cases S <;> cases K
          · simp only [b1, b2, Bool.not_false, cond_true, cond_false, h45, eq_true h43, and_self, if_true, false_and, if_false]
            rw [ih' false true d (by simp at hinv ⊢; omega), hadd]
          all_goals simp only [b1, b2, b3, Bool.not_true, Bool.not_false, cond_true, cond_false, a2, h45, eq_true h43, and_self, if_false, false_and, and_false, true_and, hk, reduceCtorEq, Nat.add_zero]
        have b2 : ((c.toNat : Int) == 43) = false := by simp; omega
        simp only [b1, b2, cond_false, h45, h43, false_and, if_false]
        by_cases h49 : 49 ≤ c.toNat
        · rw [cond_d (by omega)]
          by_cases h57 : c.toNat ≤ 57
          · rw [cond_d (by omega)]
            by_cases hd0 : d = 0
            · subst hd0
              rw [cond_eq (by omega), if_pos (by omega), hd (by omega), ih' S K _ (by rw [if_neg (show ¬ c.toNat - 48 = 0 by omega)]; simp only [if_true] at hinv; omega), hadd]
            · rw [cond_ne (by omega), if_neg (by omega), hk]; rfl
          · rw [cond_nd (by omega), if_neg (by omega), hk]; rfl
        · rw [cond_nd (by omega), if_neg (by omega), hk]; rfl
      · rw [cond_d (by omega), cond_nd (by omega)]
        have hd0 : d ≠ 0 := by
          intro e
          rw [e] at hinv
          simp only [if_true] at hinv
          split at hinv <;> omega
        have hSK : (S || K) = true := by
          rw [if_neg hd0] at hinv
          split at hinv
          · assumption
          · omega
        rw [hdr_full S K d hSK hd0]; rfl
    · rw [cond_nd (by omega), List.drop_eq_nil_of_le (by omega)]; rfl

/-- What a header comes to. -/
def headR (s : List UInt8) : Res :=
  if s = [] ∨ ((s.getD 0 0).toNat ≠ 124 ∧ (s.getD 0 0).toNat ≠ 62) then ⟨.tup [.agg [.bool false, .bool false, .bool false, .int .i64 0], .int .i64 0, .bool false], false, []⟩
  else ⟨.tup [.agg [.bool (decide ((s.getD 0 0).toNat = 62)), .bool (hdr false false 0 (s.drop 1)).1, .bool (hdr false false 0 (s.drop 1)).2.1, .int .i64 ((hdr false false 0 (s.drop 1)).2.2.1 : Nat)], .int .i64 ((1 + (hdr false false 0 (s.drop 1)).2.2.2 : Nat) : Int), .bool true], false, []⟩

theorem D_TakeHeader (s : List UInt8) (hs : s.length ≤ 1000000) : D id_foldTakeHeader [.bytes s] = some (headR s) := by
  refine den_fn (N := s.length + 1) (F := foldTakeHeader) rfl rfl ?_
  rw [foldTakeHeader_eq]
  show foldTakeHeaderr D _ s = _
  unfold foldTakeHeaderr headR
  by_cases h0 : s = []
  · subst h0; rfl
  have hl := length_pos_of h0
  rw [cond_ne (by omega)]
  simp only [need_d (show (0 : Int) ≤ 0 by omega), show Int.toNat 0 = 0 from rfl, get_bn hl]
  have e62 : (((s.getD 0 0).toNat : Int) == 62) = decide ((s.getD 0 0).toNat = 62) := by rw [Bool.eq_iff_iff]; simp only [beq_iff_eq, decide_eq_true_eq]; omega
  have L := fun k0 k1 hk => hdr_loop s hs (s.length + 1) k0 k1 hk (decide ((s.getD 0 0).toNat = 62)) (s.length + 1) 1 false false 0 (by omega) (by omega)
  have e1 : ((1 : Nat) : Int) = 1 := rfl
  have e0 : ((0 : Nat) : Int) = 0 := rfl
  rw [e1, e0] at L
  by_cases h124 : (s.getD 0 0).toNat = 124
  · rw [cond_beq (by omega), if_neg (by rintro (h | ⟨h, _⟩); exact h0 h; exact h h124), e62, L _ _ (fun _ _ _ _ _ => rfl)]
  · rw [cond_bne (by omega)]
    by_cases h62 : (s.getD 0 0).toNat = 62
    · rw [cond_beq (by omega), if_neg (by rintro (h | ⟨_, h⟩); exact h0 h; exact h h62), e62, L _ _ (fun _ _ _ _ _ => rfl)]
    · rw [cond_bne (by omega), if_pos (.inr ⟨h124, h62⟩)]

theorem D_refTakeHeader (s : List UInt8) (hs : s.length ≤ 1000000) : D id_ref01TakeHeader [.bytes s] = some (headR s) := by
  refine den_fn (N := s.length + 1) (F := ref01TakeHeader) rfl rfl ?_
  rw [ref01TakeHeader_eq]
  show ref01TakeHeaderr D _ s = _
  unfold ref01TakeHeaderr headR
  by_cases h0 : s = []
  · subst h0; rfl
  have hl := length_pos_of h0
  rw [cond_ne (by omega)]
  simp only [need_d (show (0 : Int) ≤ 0 by omega), show Int.toNat 0 = 0 from rfl, get_bn hl]
  have e62 : (((s.getD 0 0).toNat : Int) == 62) = decide ((s.getD 0 0).toNat = 62) := by rw [Bool.eq_iff_iff]; simp only [beq_iff_eq, decide_eq_true_eq]; omega
  have L := fun k0 k1 hk => refHdr_loop s hs (s.length + 1) k0 k1 hk (decide ((s.getD 0 0).toNat = 62)) (s.length + 1) 1 false false 0 (by omega) (by omega) (by simp)
  have e1 : ((1 : Nat) : Int) = 1 := rfl
  have e0 : ((0 : Nat) : Int) = 0 := rfl
  rw [e1, e0] at L
  by_cases h124 : (s.getD 0 0).toNat = 124
  · rw [cond_beq (by omega), if_neg (by rintro (h | ⟨h, _⟩); exact h0 h; exact h h124), e62, L _ _ (fun _ _ _ _ _ => rfl)]
  · rw [cond_bne (by omega)]
    by_cases h62 : (s.getD 0 0).toNat = 62
    · rw [cond_beq (by omega), if_neg (by rintro (h | ⟨_, h⟩); exact h0 h; exact h h62), e62, L _ _ (fun _ _ _ _ _ => rfl)]
    · rw [cond_bne (by omega), if_pos (.inr ⟨h124, h62⟩)]

theorem D_FoldHeaders (s : List UInt8) (v : Int) (h0 : -9223372036854775808 ≤ v) (h1 : v ≤ 9223372036854775807) : D id_law07FoldHeaders [.str s, .int .i64 v] = some ⟨.bool true, false, []⟩ := by
  refine den_fn (N := 0) (F := law07FoldHeaders) rfl rfl ?_
  rw [law07FoldHeaders_eq]
  show law07FoldHeadersr D 0 s v = _
  unfold law07FoldHeadersr
  rw [show (8 : Int) = ((8 : Nat) : Int) from rfl, D_Text s 8 (by omega)]
  have hs : (s.take 8).length ≤ 8 := by simp; omega
  generalize s.take 8 = s at hs
  simp only [Option.bind_some, asS_s]
  rw [show (!decide ((2 : Nat) = 0)) = true from rfl]
  simp only [need_true]
  have fin : ∀ b : List UInt8, b.length ≤ 100 → ((D id_keepLend [AV.bytes b]).bind fun r8 =>
    asL r8.v fun s4 =>
    (D id_foldTakeHeader [AV.bytes s4]).bind fun r9 =>
    asAIBT r9.v fun b11 b12 b13 i7 i8 b14 =>
    (D id_ref01TakeHeader [AV.bytes b]).bind fun r10 =>
    asAIBT r10.v fun b15 b16 b17 i9 i10 b18 =>
    bif (b11 == b15) && ((b12 == b16) && ((b13 == b17) && (((i7 : Int) == i9) && (true)))) then
      (bif (i8 : Int) == i10 then
        (bif b14 == b18 then
          ((D id_keepIntact [AV.lent s4, AV.bytes b]).bind fun r11 =>
          asB r11.v fun b19 =>
          bif b19 then
            ((D id_law07Wakes []).bind fun r12 =>
            asB r12.v fun b20 =>
            some (⟨AV.bool b20, false, []⟩ : Res))
          else
            some ⟨AV.bool false, false, []⟩)
        else
          some ⟨AV.bool false, false, []⟩)
      else
        some ⟨AV.bool false, false, []⟩)
    else
      some ⟨AV.bool false, false, []⟩) = some ⟨.bool true, false, []⟩ := by
    intro b hb
    rw [D_Lend b (by omega)]
    simp only [Option.bind_some, asL_l]
    rw [D_TakeHeader b (by omega), D_refTakeHeader b (by omega), D_Intact b b (by omega)]
    simp only [Option.bind_some, asB_b, D_wakes07, decide_true, cond_true]
    unfold headR
    split
    · rfl
    · have a : ∀ {α : Type} (x y z : Bool) (i j : Int) (b : Bool) (K : Bool → Bool → Bool → Int → Int → Bool → Option α), asAIBT (.tup [.agg [.bool x, .bool y, .bool z, .int .i64 i], .int .i64 j, .bool b]) K = K x y z i j b := fun _ _ _ _ _ _ _ => rfl
      simp only [a, beq_self_eq_true, Bool.and_self, cond_true]
  have q0 : -9223372036854775808 ≤ Int.tdiv v 2 ∧ Int.tdiv v 2 ≤ 9223372036854775807 := by
    rcases Int.le_total 0 v with h | h
    · rw [Int.tdiv_eq_ediv_of_nonneg h]; omega
    · have : Int.tdiv v 2 = -((-v) / 2) := by
        have := Int.neg_tdiv (-v) 2
        rw [Int.neg_neg, Int.tdiv_eq_ediv_of_nonneg (a := -v) (by omega)] at this
        exact this
      omega
  cases hv : ((Int.tmod v 2) : Int) == 0
  · exact fin s (by omega)
  · rw [wrap_i64 q0.1 q0.2, D_Within _ 2 (by omega) (by omega)]
    have g0 := Int.emod_nonneg (Int.tdiv v 2) (b := 2) (by omega)
    have g1 := Int.emod_lt_of_pos (Int.tdiv v 2) (b := 2) (by omega)
    obtain ⟨k, hk⟩ : ∃ k : Nat, Int.tdiv v 2 % 2 = k := ⟨(Int.tdiv v 2 % 2).toNat, by omega⟩
    rw [hk]
    simp only [Option.bind_some, asI_i, cond_true]
    rcases (show k = 0 ∨ k = 1 by omega) with rfl | rfl
    · rw [need_d2 (by decide) (by decide), need_d2 (by decide) (by decide), need_d (by simp; omega)]
      exact fin ([124] ++ s) (by simp; omega)
    · rw [need_d2 (by decide) (by decide), need_d2 (by decide) (by decide), need_d (by simp; omega)]
      exact fin ([62] ++ s) (by simp; omega)
end Go.Proofs.Ytpjpmfchcijikaa.Vf
