
/- The laws of chapter 10 on how long: anchors, tags, aliases. -/
import Derived.Test.YtmpjohnbddnehaaDoorVfPropsB
namespace Go.Proofs.YtmpjohnbddnehaaDoor.Vf
set_option linter.unusedVariables false
set_option linter.unusedSimpArgs false

theorem letters_snoc (s : List UInt8) (c : UInt8) : letters (s ++ [c]) = (letters s && letter c.toNat) := by simp [letters]
theorem lrun_tail (c : UInt8) (r : List UInt8) (hc : letter c.toNat = false) : ∀ s : List UInt8, letters s = true → lrun (s ++ c :: r) = s.length
  | [], _ => by simp [lrun, hc]
  | d :: s, h => by
    rw [letters_cons, Bool.and_eq_true] at h
    simp only [List.cons_append, lrun, h.1, if_true, lrun_tail c r hc s h.2, List.length_cons]
theorem wlen_letters (T : List UInt8) : ∀ s : List UInt8, letters s = true → wlen (s ++ 32 :: T) = s.length
  | [], _ => by simp [wlen]
  | d :: s, h => by
    rw [letters_cons, Bool.and_eq_true] at h
    have hd : d.toNat ≠ 32 := fun e => by rw [e] at h; exact absurd h.1 (by decide)
    simp only [List.cons_append, wlen, if_neg hd, wlen_letters T s h.2, List.length_cons]
theorem letters_head {s : List UInt8} (h : letters s = true) (k : UInt8) (hk : letter k.toNat = false) : (s.getD 0 0).toNat = k.toNat → s = [] := by
  cases s with
  | nil => exact fun _ => rfl
  | cons c r =>
    rw [letters_cons, Bool.and_eq_true] at h
    intro e
    rw [List.getD_cons_zero] at e
    rw [e, hk] at h; exact absurd h.1 (by simp)
theorem tmod_nat (i : Nat) : Int.tmod (i : Int) 5 = ((i % 5 : Nat) : Int) := rfl
theorem five {j : Nat} (h : j < 5) : j = 0 ∨ j = 1 ∨ j = 2 ∨ j = 3 ∨ j = 4 := by omega

theorem alias_fin (s : List UInt8) (c : UInt8) (n : Nat) (hs : letters s = true) (hl : s.length = n) (hn : n ≤ 34) (hc : letter c.toNat = false) :
    (need (decide ((([42] : List UInt8) : List UInt8).length + s.length ≤ 9223372036854775807)) <|
    need (decide ((([42] : List UInt8) ++ s : List UInt8).length + ([c] : List UInt8).length ≤ 9223372036854775807)) <|
    (D id_propsTakeAlias [AV.bytes ((([42] : List UInt8) ++ s) ++ [c])]).bind fun r2 =>
    asSIBT r2.v fun s5 i13 b1 =>
    bif decide ((n : Int) ≥ 1) then
      ((D id_propsTakeAlias [AV.bytes s]).bind fun r3 =>
      asSIBT r3.v fun s6 i14 b2 =>
      bif b1 == (decide ((n : Int) ≤ 32)) then
        (bif !b1 then
          (bif !b2 then
            ((D id_law10Wakes []).bind fun r4 =>
            asB r4.v fun b3 =>
            some ⟨AV.bool b3, false, []⟩)
          else
            some ⟨AV.bool false, false, []⟩)
        else
          bif s5 == s then
            (bif (i13 : Int) == (IntKind.i64.wrap ((n : Int) + 1)) then
              (bif !b2 then
                ((D id_law10Wakes []).bind fun r5 =>
                asB r5.v fun b4 =>
                some ⟨AV.bool b4, false, []⟩)
              else
                some ⟨AV.bool false, false, []⟩)
            else
              some ⟨AV.bool false, false, []⟩)
          else
            some ⟨AV.bool false, false, []⟩)
      else
        some ⟨AV.bool false, false, []⟩)
    else
      (D id_propsTakeAlias [AV.bytes s]).bind fun r6 =>
      asSIBT r6.v fun s7 i15 b5 =>
      bif b1 == false then
        (bif !b1 then
          (bif !b5 then
            ((D id_law10Wakes []).bind fun r7 =>
            asB r7.v fun b6 =>
            some ⟨AV.bool b6, false, []⟩)
          else
            some ⟨AV.bool false, false, []⟩)
        else
          bif s5 == s then
            (bif (i13 : Int) == (IntKind.i64.wrap ((n : Int) + 1)) then
              (bif !b5 then
                ((D id_law10Wakes []).bind fun r8 =>
                asB r8.v fun b7 =>
                some ⟨AV.bool b7, false, []⟩)
              else
                some ⟨AV.bool false, false, []⟩)
            else
              some ⟨AV.bool false, false, []⟩)
          else
            some ⟨AV.bool false, false, []⟩)
      else
        some ⟨AV.bool false, false, []⟩ : Option Res) = some ⟨.bool true, false, []⟩ := by
  rw [need_d (by simp; omega), need_d (by simp; omega), D_TakeAlias _ (by simp; omega), D_TakeAlias s (by omega), D_wakes10]
  have e1 : aliasP s = ([], 0, false) := by
    cases s with
    | nil => rfl
    | cons d r =>
      simp only [aliasP]
      rw [if_neg (fun e => by have := letters_head hs 42 (by decide) e.1; simp at this)]
  have e2 : aliasP (([42] ++ s) ++ [c]) = if 1 ≤ n ∧ n ≤ 32 then (s, n + 1, true) else ([], 0, false) := by
    show aliasP (42 :: (s ++ [c])) = _
    simp only [aliasP, lrun_tail c [] hc s hs, hl, show (42 : UInt8).toNat = 42 from rfl, true_and]
    by_cases h : 1 ≤ n ∧ n ≤ 32
    · rw [if_pos h, if_pos h, ← hl, List.take_left]
    · rw [if_neg h, if_neg h]
  rw [e1, e2]
  by_cases h1 : 1 ≤ n
  · by_cases h2 : n ≤ 32
    · rw [if_pos ⟨h1, h2⟩]
      simp only [Option.bind_some, asSIBT, asT_t, asC_c, asS_s, asI_i, asB_b, asN_n, decide_eq_true (show (n : Int) ≥ 1 by omega), decide_eq_true (show (n : Int) ≤ 32 by omega)]
      rw [wrap_i64 (by omega) (by omega)]
      simp
    · rw [if_neg (fun e => h2 e.2)]
      simp only [Option.bind_some, asSIBT, asT_t, asC_c, asS_s, asI_i, asB_b, asN_n, decide_eq_true (show (n : Int) ≥ 1 by omega), decide_eq_false (show ¬ (n : Int) ≤ 32 by omega)]
      rfl
  · rw [if_neg (fun e => h1 e.1)]
    simp only [Option.bind_some, asSIBT, asT_t, asC_c, asS_s, asI_i, asB_b, asN_n, decide_eq_false (show ¬ (n : Int) ≥ 1 by omega)]
    rfl

theorem aliases_loop (N : Nat) (k0 : Int → Int → List UInt8 → Option Res) (m : Nat) (hm : m ≤ 100) (v : Int) : ∀ (n i : Nat) (s : List UInt8), m < n + i → i ≤ m → letters s = true → s.length = i →
    ∃ s' : List UInt8, letters s' = true ∧ s'.length = m ∧ law10PropsAliases_L1 D N k0 n m v s i = k0 m v s' := by
  intro n
  induction n with
  | zero => intro i s h h2; omega
  | succ n ih =>
    intro i s h hi hs hl
    simp only [law10PropsAliases_L1, law10PropsAliases_L1s]
    by_cases hlt : i < m
    · rw [cond_d (by omega), need_nd (by decide), tmod_nat]
      have hj : i % 5 < 5 := Nat.mod_lt _ (by omega)
      generalize i % 5 = j at hj
      obtain ⟨c, hc, e⟩ : ∃ c : UInt8, letter c.toNat = true ∧ ((((([97, 66, 48, 95, 45] : List UInt8).take ([97, 66, 48, 95, 45] : List UInt8).length).drop (Int.toNat (j : Int))).take (Int.toNat 1)).drop 0) = [c] := by
        rcases five hj with rfl | rfl | rfl | rfl | rfl
        · exact ⟨97, by decide, rfl⟩
        · exact ⟨66, by decide, rfl⟩
        · exact ⟨48, by decide, rfl⟩
        · exact ⟨95, by decide, rfl⟩
        · exact ⟨45, by decide, rfl⟩
      rw [e, need_d2 (by omega) (by simp; omega), need_d2 (by omega) (by simp; omega), need_d (by simp; omega), wrap_i64 (by omega) (by omega), show (i : Int) + 1 = ((i + 1 : Nat) : Int) by omega]
      exact ih (i + 1) _ (by omega) (by omega) (by rw [letters_snoc, hs, hc]; rfl) (by simp [hl])
    · rw [cond_nd (by omega)]
      exact ⟨s, hs, by omega, rfl⟩

set_option maxRecDepth 10000 in
theorem D_PropsAliases (i1 i2 : Int) (h0 : 0 ≤ i2) (h255 : i2 ≤ 255) : D id_law10PropsAliases [.int .i64 i1, .int .u8 i2] = some ⟨.bool true, false, []⟩ := by
  refine den_fn (N := 100) (F := law10PropsAliases) rfl rfl ?_
  rw [law10PropsAliases_eq]
  show law10PropsAliasesr D 100 i1 i2 = _
  unfold law10PropsAliasesr
  rw [D_Within i1 35 (by omega) (by omega)]
  obtain ⟨k, hk, ek⟩ : ∃ k : Nat, k < 35 ∧ i1 % 35 = (k : Int) := ⟨(i1 % 35).toNat, by omega, by omega⟩
  simp only [Option.bind_some, asI_i, ek]
  obtain ⟨s, hs, hl, e⟩ := aliases_loop 100 _ k (by omega) i2 100 0 [] (by omega) (by omega) rfl rfl
  refine (show _ = _ from e).trans ?_
  have f44 := alias_fin s 44 k hs hl (by omega) (by decide)
  obtain ⟨c, rfl⟩ : ∃ c : Nat, i2 = (c : Int) := ⟨i2.toNat, by omega⟩
  have fT : letter c = false → _ := fun h => alias_fin s (UInt8.ofNat c) k hs hl (by omega) (by rw [UInt8.toNat_ofNat']; rw [Nat.mod_eq_of_lt (by omega)]; exact h)
  simp only [letter, decide_eq_false_iff_not] at fT
  have cls : c < 45 ∨ c = 45 ∨ (45 < c ∧ c < 48) ∨ (48 ≤ c ∧ c ≤ 57) ∨ (57 < c ∧ c < 65) ∨ (65 ≤ c ∧ c ≤ 90) ∨ (90 < c ∧ c < 95) ∨ c = 95 ∨ c = 96 ∨ (97 ≤ c ∧ c ≤ 122) ∨ 122 < c := by omega
  rcases cls with h | h | h | h | h | h | h | h | h | h | h
  all_goals
    repeat first
      | rw [cond_d (by omega)]
      | rw [cond_nd (by omega)]
      | rw [cond_eq (by omega)]
      | rw [cond_ne (by omega)]
    first
      | exact f44
      | (rw [need_d2 (show (0 : Int) ≤ (c : Int) by omega) (show (c : Int) < 256 by omega)]; exact fT (by omega))

theorem takeP_word (w : List UInt8) (h : (w.getD 0 0).toNat = 38 ∨ (w.getD 0 0).toNat = 33) (hw : wlen (w ++ [32, 120]) = w.length) :
    takeP (w ++ [32, 120]) = match addP [] [] w with | none => ([], [], 0, false) | some (t, a) => (t, a, w.length, true) := by
  have hne : w ≠ [] := fun e => by subst e; simp at h
  have hg0 : (w ++ [32, 120]).getD 0 0 = w.getD 0 0 := by obtain ⟨c, r, rfl⟩ := List.exists_cons_of_ne_nil hne; rfl
  unfold takeP
  simp only [takeL, hg0, hw]
  rw [if_pos h, List.take_left, List.drop_left]
  cases addP [] [] w with
  | none => rfl
  | some ta =>
    obtain ⟨t, a⟩ := ta
    simp only [show lead [32, 120] = 1 from rfl, List.drop_succ_cons, List.drop_zero, List.length_append, List.length_cons, List.length_nil, takeL, List.getD_cons_zero]
    rw [if_neg (by decide), Nat.zero_add]
theorem long10_loop (N : Nat) (k0 : Int → Bool → Bool → List UInt8 → Option Res) (m : Nat) (hm : m ≤ 100) (p q : Bool) : ∀ (n i : Nat) (s : List UInt8), m < n + i → i ≤ m → letters s = true → s.length = i →
    ∃ s' : List UInt8, letters s' = true ∧ s'.length = m ∧ law10PropsLong_L1 D N k0 n m p q s i = k0 m p q s' := by
  intro n
  induction n with
  | zero => intro i s h h2; omega
  | succ n ih =>
    intro i s h hi hs hl
    simp only [law10PropsLong_L1, law10PropsLong_L1s]
    by_cases hlt : i < m
    · rw [cond_d (by omega), need_nd (by decide), tmod_nat]
      have hj : i % 5 < 5 := Nat.mod_lt _ (by omega)
      generalize i % 5 = j at hj
      obtain ⟨c, hc, e⟩ : ∃ c : UInt8, letter c.toNat = true ∧ ((((([97, 90, 48, 45, 95] : List UInt8).take ([97, 90, 48, 45, 95] : List UInt8).length).drop (Int.toNat (j : Int))).take (Int.toNat 1)).drop 0) = [c] := by
        rcases five hj with rfl | rfl | rfl | rfl | rfl
        · exact ⟨97, by decide, rfl⟩
        · exact ⟨90, by decide, rfl⟩
        · exact ⟨48, by decide, rfl⟩
        · exact ⟨45, by decide, rfl⟩
        · exact ⟨95, by decide, rfl⟩
      rw [e, need_d2 (by omega) (by simp; omega), need_d2 (by omega) (by simp; omega), need_d (by simp; omega), wrap_i64 (by omega) (by omega), show (i : Int) + 1 = ((i + 1 : Nat) : Int) by omega]
      exact ih (i + 1) _ (by omega) (by omega) (by rw [letters_snoc, hs, hc]; rfl) (by simp [hl])
    · rw [cond_nd (by omega)]
      exact ⟨s, hs, by omega, rfl⟩

theorem trimB_letters {s : List UInt8} (hs : letters s = true) : trimB s = s := by
  cases s with
  | nil => rfl
  | cons c r =>
    simp only [trimB]
    rw [if_neg (fun e => by have := letters_head hs 33 (by decide) e; simp at this)]

theorem D_PropsLong (i1 : Int) (b1 b2 : Bool) : D id_law10PropsLong [.int .i64 i1, .bool b1, .bool b2] = some ⟨.bool true, false, []⟩ := by
  refine den_fn (N := 100) (F := law10PropsLong) rfl rfl ?_
  rw [law10PropsLong_eq]
  show law10PropsLongr D 100 i1 b1 b2 = _
  unfold law10PropsLongr
  rw [D_Within i1 5 (by omega) (by omega)]
  obtain ⟨k, hk, h30, ek⟩ : ∃ k : Nat, k < 35 ∧ 30 ≤ k ∧ IntKind.i64.wrap (30 + i1 % 5) = (k : Int) := ⟨(30 + i1 % 5).toNat, by omega, by omega, by rw [wrap_i64 (by omega) (by omega)]; omega⟩
  simp only [Option.bind_some, asI_i, ek]
  obtain ⟨s, hs, hl, e⟩ := long10_loop 100 _ k (by omega) b1 b2 100 0 [] (by omega) (by omega) rfl rfl
  refine (show _ = _ from e).trans ?_
  have hn : nameP s = decide (k ≤ 32) := by
    unfold nameP; rw [hs, hl, Bool.true_and]
    rw [Bool.eq_iff_iff, decide_eq_true_eq, decide_eq_true_eq]; omega
  have hne : s ≠ [] := fun e => by subst e; simp at hl; omega
  have hbe : (s == ([] : List UInt8)) = false := by cases s with | nil => exact absurd rfl hne | cons c r => rfl
  have hw : wlen (s ++ [32, 120]) = s.length := wlen_letters [120] s hs
  have v1 : vtag (33 :: s) = decide (k ≤ 32) := by
    simp only [vtag, show (33 : UInt8).toNat = 33 from rfl, decide_true, Bool.true_and, hbe, Bool.false_or, trimB_letters hs, hn]
  have v2 : vtag (33 :: 33 :: s) = decide (k ≤ 32) := by
    simp only [vtag, trimB, show (33 : UInt8).toNat = 33 from rfl, decide_true, Bool.true_and, if_true, hn]; rfl
  have v0 : vtag (38 :: s) = false := rfl
  have t0 : takeP ((38 :: s) ++ [32, 120]) = if k ≤ 32 then ([], s, (38 :: s).length, true) else ([], [], 0, false) := by
    rw [takeP_word (38 :: s) (.inl rfl) (by simp only [List.cons_append, wlen, if_neg (show ¬ (38 : UInt8).toNat = 32 by decide), hw, List.length_cons])]
    have : addP [] [] (38 :: s) = if k ≤ 32 then some ([], s) else none := by
      unfold addP; simp [hn]
    rw [this]
    by_cases h : k ≤ 32
    · rw [if_pos h, if_pos h]
    · rw [if_neg h, if_neg h]
  have t1 : takeP ((33 :: s) ++ [32, 120]) = if k ≤ 32 then (33 :: s, [], (33 :: s).length, true) else ([], [], 0, false) := by
    rw [takeP_word (33 :: s) (.inr rfl) (by simp only [List.cons_append, wlen, if_neg (show ¬ (33 : UInt8).toNat = 32 by decide), hw, List.length_cons])]
    have : addP [] [] (33 :: s) = if k ≤ 32 then some (33 :: s, []) else none := by
      unfold addP; simp [v1]
    rw [this]
    by_cases h : k ≤ 32
    · rw [if_pos h, if_pos h]
    · rw [if_neg h, if_neg h]
  have t2 : takeP ((33 :: 33 :: s) ++ [32, 120]) = if k ≤ 32 then (33 :: 33 :: s, [], (33 :: 33 :: s).length, true) else ([], [], 0, false) := by
    rw [takeP_word (33 :: 33 :: s) (.inr rfl) (by simp only [List.cons_append, wlen, if_neg (show ¬ (33 : UInt8).toNat = 32 by decide), hw, List.length_cons])]
    have : addP [] [] (33 :: 33 :: s) = if k ≤ 32 then some (33 :: 33 :: s, []) else none := by
      unfold addP; simp [v2]
    rw [this]
    by_cases h : k ≤ 32
    · rw [if_pos h, if_pos h]
    · rw [if_neg h, if_neg h]
  have dk : decide ((k : Int) ≤ 32) = decide (k ≤ 32) := by rw [Bool.eq_iff_iff, decide_eq_true_eq, decide_eq_true_eq]; omega
  have hs38 : ((38 :: s : List UInt8)).length ≤ 1000000 := by simp only [List.length_cons]; omega
  have eTake : ∀ w : List UInt8, w.length ≤ 100 → D id_propsTake [.bytes w] = some ⟨.tup [.agg [.str (takeP w).1, .str (takeP w).2.1], .int .i64 ((takeP w).2.2.1 : Nat), .bool (takeP w).2.2.2], false, []⟩ := fun w h => D_Take w (by omega)
  have eVal : ∀ w : List UInt8, w.length ≤ 100 → D id_propsValidTag [.str w] = some ⟨.bool (vtag w), false, []⟩ := fun w h => D_ValidTag w (by omega)
  rw [need_d (by simp; omega)]
  cases b1
  · simp only [cond_false]
    rw [need_d (by simp; omega), eTake _ (by simp; omega), eVal _ (by simp; omega), D_wakes10]
    simp only [List.singleton_append]
    rw [t0, v0, dk]
    by_cases h : k ≤ 32
    · simp only [if_pos h, Option.bind_some, asAIBT, asT_t, asC_c, asA_a, asS_s, asI_i, asB_b, asN_n, decide_eq_true h]
      simp
    · simp only [if_neg h, Option.bind_some, asAIBT, asT_t, asC_c, asA_a, asS_s, asI_i, asB_b, asN_n, decide_eq_false h]
      rfl
  · simp only [cond_true]
    rw [need_d (by simp; omega)]
    cases b2
    · simp only [cond_false]
      rw [need_d (by simp; omega), eTake _ (by simp; omega), eVal _ (by simp; omega), D_wakes10]
      simp only [List.singleton_append]
      rw [t1, v1, dk]
      by_cases h : k ≤ 32
      · simp only [if_pos h, Option.bind_some, asAIBT, asT_t, asC_c, asA_a, asS_s, asI_i, asB_b, asN_n, decide_eq_true h]
        have : (([] : List UInt8) == s) = false := by cases s with | nil => exact absurd rfl hne | cons c r => rfl
        simp [this]
      · simp only [if_neg h, Option.bind_some, asAIBT, asT_t, asC_c, asA_a, asS_s, asI_i, asB_b, asN_n, decide_eq_false h]
        rfl
    · simp only [cond_true]
      rw [need_d (by simp; omega), need_d (by simp; omega), eTake _ (by simp; omega), eVal _ (by simp; omega), D_wakes10]
      simp only [List.cons_append, List.nil_append]
      have t2' : takeP (33 :: 33 :: (s ++ [32, 120])) = _ := t2
      rw [t2', v2, dk]
      by_cases h : k ≤ 32
      · simp only [if_pos h, Option.bind_some, asAIBT, asT_t, asC_c, asA_a, asS_s, asI_i, asB_b, asN_n, decide_eq_true h]
        have : (([] : List UInt8) == s) = false := by cases s with | nil => exact absurd rfl hne | cons c r => rfl
        simp [this]
      · simp only [if_neg h, Option.bind_some, asAIBT, asT_t, asC_c, asA_a, asS_s, asI_i, asB_b, asN_n, decide_eq_false h]
        rfl
end Go.Proofs.YtmpjohnbddnehaaDoor.Vf
