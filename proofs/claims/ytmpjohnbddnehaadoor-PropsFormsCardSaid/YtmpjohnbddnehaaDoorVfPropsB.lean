
/- Props and aliases: the reference's functions and the texts of props, as plain functions on lists. No condition but sizes. -/
import Derived.Test.YtmpjohnbddnehaaDoorVfProps
namespace Go.Proofs.YtmpjohnbddnehaaDoor.Vf
set_option linter.unusedVariables false
set_option linter.unusedSimpArgs false

theorem word_loop (s : List UInt8) (hs : s.length ≤ 1000000) (N : Nat) (k0 : List UInt8 → Int → Option Res) : ∀ (n i : Nat), s.length < i + n → i ≤ s.length →
    ref08Word_L1 D N k0 n s i = k0 s ((i + wlen (s.drop i) : Nat) : Int) := by
  intro n
  induction n with
  | zero => intro i h _; omega
  | succ n ih =>
    intro i h hi
    simp only [ref08Word_L1, ref08Word_L1s]
    by_cases hlt : i < s.length
    · rw [cond_d (by omega), need_d (by omega)]
      simp only [Int.toNat_natCast]
      rw [get_bn hlt, drop_step hlt]
      simp only [wlen]
      by_cases h32 : (s.getD i 0).toNat = 32
      · rw [cond_beq (by omega), if_pos h32]; rfl
      · rw [cond_bne (by omega), if_neg h32, wrap_i64 (by omega) (by omega), show (i : Int) + 1 = ((i + 1 : Nat) : Int) by omega, ih (i + 1) (by omega) (by omega)]
        rw [show i + 1 + wlen (s.drop (i + 1)) = i + (wlen (s.drop (i + 1)) + 1) by omega]
    · rw [cond_nd (by omega), List.drop_eq_nil_of_le (by omega)]; rfl

theorem D_refWord (s : List UInt8) (hs : s.length ≤ 1000000) : D id_ref08Word [.bytes s] = some ⟨.str (s.take (wlen s)), false, []⟩ := by
  refine den_fn (N := s.length + 1) (F := ref08Word) rfl rfl ?_
  rw [ref08Word_eq]
  show ref08Wordr D _ s = _
  unfold ref08Wordr
  refine (word_loop s hs _ _ (s.length + 1) 0 (by omega) (by omega)).trans ?_
  have := wlen_le s
  simp only [List.drop_zero, Nat.zero_add]
  rw [need_d2 (by omega) (by omega)]
  simp only [Int.toNat_natCast]

theorem skipBl_loop (s : List UInt8) (hs : s.length ≤ 1000000) (N : Nat) (x : Int) (a b c d : List UInt8) (k0 : List UInt8 → Int → Int → List UInt8 → List UInt8 → List UInt8 → List UInt8 → Option Res) : ∀ (n i : Nat), s.length < i + n → i ≤ s.length →
    ref08TakeProps_L2 D N k0 n s x i a b c d = k0 s x ((i + lead (s.drop i) : Nat) : Int) a b c d := by
  intro n
  induction n with
  | zero => intro i h _; omega
  | succ n ih =>
    intro i h hi
    simp only [ref08TakeProps_L2, ref08TakeProps_L2s]
    by_cases hlt : i < s.length
    · rw [cond_d (by omega), need_d (by omega)]
      simp only [Int.toNat_natCast]
      rw [get_bn hlt, drop_step hlt]
      simp only [lead]
      by_cases h32 : (s.getD i 0).toNat = 32
      · rw [cond_eq (by omega), if_pos h32, wrap_i64 (by omega) (by omega), show (i : Int) + 1 = ((i + 1 : Nat) : Int) by omega, ih (i + 1) (by omega) (by omega)]
        rw [show i + 1 + lead (s.drop (i + 1)) = i + (lead (s.drop (i + 1)) + 1) by omega]
      · rw [cond_ne (by omega), if_neg h32]; rfl
    · rw [cond_nd (by omega), List.drop_eq_nil_of_le (by omega)]; rfl

theorem nil_beq (s : List UInt8) : (s == []) = decide (s = []) := by cases s <;> rfl

theorem refProps_loop (s : List UInt8) (hs : s.length ≤ 1000000) (N : Nat) (hN : s.length < N) (k0 : Int → Bool → List UInt8 → List UInt8 → Option Res) (k1 : Int → List UInt8 → List UInt8 → List UInt8 → List UInt8 → Option Res) (hk0 : k0 0 false [] [] = propsR ([], [], 0, false))
    (hk0' : ∀ (n : Nat) t a, k0 (n : Int) true t a = propsR (t, a, n, true)) (hk1 : ∀ (n : Nat) t a, k1 (n : Int) [] [] t a = propsR (t, a, n, true)) : ∀ (f x i : Nat) (t a : List UInt8), s.length < i + f → i ≤ s.length →
    ref08TakeProps_L1 D N k0 k1 f s x i [] [] t a = propsR (takeL f (s.drop i) x i t a) := by
  intro f
  induction f with
  | zero => intro x i t a h _; omega
  | succ f ih =>
    intro x i t a h hi
    simp only [ref08TakeProps_L1, ref08TakeProps_L1s, takeL]
    by_cases hlt : i < s.length
    · rw [cond_d (by omega)]
      rw [need_d2 (show (0 : Int) ≤ (i : Int) by omega) (show (i : Int) ≤ (s.length : Int) by omega)]
      simp only [Int.toNat_natCast, List.take_length]
      have hld : (s.drop i).length = s.length - i := by simp
      rw [D_refWord _ (by omega)]
      simp only [Option.bind_some, asS_s]
      have hl : s.drop i = s.getD i 0 :: s.drop (i + 1) := drop_step hlt
      generalize s.getD i 0 = c at hl
      have hwl := wlen_le (s.drop i)
      have hlead := lead_le ((s.drop i).drop (wlen (s.drop i)))
      have hdl : ((s.drop i).drop (wlen (s.drop i))).length = (s.drop i).length - wlen (s.drop i) := List.length_drop
      have hdrop : s.drop (i + wlen (s.drop i)) = (s.drop i).drop (wlen (s.drop i)) := by rw [List.drop_drop]
      have hg : ((s.drop i).getD 0 0) = c := by rw [hl]; rfl
      have hwlen : ((s.drop i).take (wlen (s.drop i))).length = wlen (s.drop i) := by rw [List.length_take]; omega
      have step : ∀ (t' a' : List UInt8), 1 ≤ wlen (s.drop i) →
          ref08TakeProps_L2 D N (fun s23 i9 i10 s24 s25 s26 s27 => ref08TakeProps_L1 D N k0 k1 f s23 i9 i10 s24 s25 s26 s27) N s (IntKind.i64.wrap ((i : Int) + (((s.drop i).take (wlen (s.drop i))).length : Int))) (IntKind.i64.wrap ((i : Int) + (((s.drop i).take (wlen (s.drop i))).length : Int))) [] [] t' a' =
          propsR (takeL f (((s.drop i).drop (wlen (s.drop i))).drop (lead ((s.drop i).drop (wlen (s.drop i))))) (i + wlen (s.drop i)) (i + wlen (s.drop i) + lead ((s.drop i).drop (wlen (s.drop i)))) t' a') := by
        intro t' a' h1
        rw [hwlen, wrap_i64 (by omega) (by omega), show (i : Int) + (wlen (s.drop i) : Int) = ((i + wlen (s.drop i) : Nat) : Int) by omega,
          skipBl_loop s hs N _ _ _ _ _ _ N _ (by omega) (by omega)]
        rw [hdrop]
        refine (ih _ _ _ _ (by omega) (by omega)).trans ?_
        have e2 : s.drop (i + wlen (s.drop i) + lead ((s.drop i).drop (wlen (s.drop i)))) = ((s.drop i).drop (wlen (s.drop i))).drop (lead ((s.drop i).drop (wlen (s.drop i)))) := by rw [← hdrop, List.drop_drop]
        rw [e2]
      rw [hg]
      by_cases h32 : c.toNat = 32
      · have hw0 : (s.drop i).take (wlen (s.drop i)) = [] := by rw [hl]; simp [wlen, h32]
        rw [hw0, if_neg (by omega)]
        exact hk0' x t a
      · have h1 : 1 ≤ wlen (s.drop i) := by rw [hl]; exact wlen_pos h32
        obtain ⟨r, hr⟩ : ∃ r, (s.drop i).take (wlen (s.drop i)) = c :: r := by
          obtain ⟨k, hk⟩ : ∃ k, wlen (s.drop i) = k + 1 := ⟨wlen (s.drop i) - 1, by omega⟩
          rw [hk, hl]; exact ⟨_, rfl⟩
        rw [hr] at hwlen step
        have hrl : r.length + 1 ≤ 1000000 := by simp only [List.length_cons] at hwlen; omega
        rw [hr]
        simp only [need_d (show (0 : Int) ≤ 0 by omega), show ((c :: r : List UInt8) == []) = false from rfl, Bool.not_false, cond_true, show Int.toNat 0 = 0 from rfl, List.getElem?_cons_zero, Option.bind_some]
        by_cases h33 : c.toNat = 33
        · have hadd : addP t a (c :: r) = if t = [] ∧ vtag (c :: r) = true then some (c :: r, a) else none := by
            unfold addP; rw [List.getD_cons_zero, if_neg (by omega)]
          rw [cond_eq (by omega), if_pos (.inr h33), hadd]
          cases t with
          | nil =>
            rw [D_refValidTag _ (by simp only [List.length_cons]; omega)]
            simp only [Option.bind_some, asB_b]
            cases hv : vtag (c :: r)
            · exact hk0
            · exact step _ _ h1
          | cons t0 ts => exact hk0
        · rw [cond_ne (by omega)]
          by_cases h38 : c.toNat = 38
          · have hadd : addP t a (c :: r) = if a = [] ∧ nameP r = true then some (t, r) else none := by
              unfold addP; rw [List.getD_cons_zero, if_pos h38]; rfl
            rw [cond_eq (by omega), if_pos (.inl h38), hadd]
            simp only [need_d2 (show (0 : Int) ≤ 1 by omega) (show (1 : Int) ≤ (((c :: r).length : Nat) : Int) by simp only [List.length_cons]; omega), List.take_length, show Int.toNat 1 = 1 from rfl, List.drop_succ_cons, List.drop_zero]
            cases a with
            | nil =>
              rw [D_refName _ (by omega)]
              simp only [Option.bind_some, asB_b]
              cases hv : nameP r
              · exact hk0
              · exact step _ _ h1
            | cons a0 as' => exact hk0
          · rw [cond_ne (by omega), if_neg (by omega)]
            exact hk0' x t a
    · rw [cond_nd (by omega), List.drop_eq_nil_of_le (by omega), if_neg (by simp)]
      exact hk1 x t a

theorem D_refTakeProps (s : List UInt8) (hs : s.length ≤ 1000000) : D id_ref08TakeProps [.bytes s] = some ⟨.tup [.agg [.str (takeP s).1, .str (takeP s).2.1], .int .i64 ((takeP s).2.2.1 : Nat), .bool (takeP s).2.2.2], false, []⟩ := by
  refine den_fn (N := s.length + 1) (F := ref08TakeProps) rfl rfl ?_
  rw [ref08TakeProps_eq]
  show ref08TakePropsr D _ s = _
  unfold ref08TakePropsr takeP
  refine (refProps_loop s hs _ (Nat.lt_succ_self _) _ _ rfl (fun n t a => rfl) (fun n t a => rfl) (s.length + 1) 0 0 [] [] (by omega) (by omega)).trans ?_
  rw [List.drop_zero]; rfl

/-- How many letters are ahead. -/
def lrun : List UInt8 → Nat
  | [] => 0
  | c :: r => if letter c.toNat = true then lrun r + 1 else 0
theorem lrun_le : ∀ s : List UInt8, lrun s ≤ s.length
  | [] => Nat.le_refl _
  | c :: r => by simp only [lrun]; split; have := lrun_le r; simp; omega; simp
theorem lrun_letters : ∀ (s : List UInt8) (k : Nat), k ≤ lrun s → letters (s.take k) = true
  | [], k, _ => by simp [letters]
  | c :: r, 0, _ => rfl
  | c :: r, k + 1, h => by
    simp only [lrun] at h
    by_cases hc : letter c.toNat = true
    · rw [if_pos hc] at h
      rw [List.take_succ_cons, letters_cons, hc, lrun_letters r k (by omega)]; rfl
    · rw [if_neg hc] at h; omega
def aliasP : List UInt8 → List UInt8 × Nat × Bool
  | [] => ([], 0, false)
  | c :: r => if c.toNat = 42 ∧ 1 ≤ lrun r ∧ lrun r ≤ 32 then (r.take (lrun r), lrun r + 1, true) else ([], 0, false)

theorem alias_loop (s : List UInt8) (hs : s.length ≤ 1000000) (N : Nat) (k0 : List UInt8 → Int → Option Res) : ∀ (n i : Nat), s.length < i + n → i ≤ s.length → i ≤ 34 →
    propsTakeAlias_L1 D N k0 n s i = k0 s ((i + min (lrun (s.drop i)) (34 - i) : Nat) : Int) := by
  intro n
  induction n with
  | zero => intro i h _ _; omega
  | succ n ih =>
    intro i h hi h34
    simp only [propsTakeAlias_L1, propsTakeAlias_L1s]
    by_cases hlt : i < s.length
    · rw [cond_d (by omega)]
      by_cases h33 : i ≤ 33
      · rw [cond_d (by omega), wrap_i64 (by omega) (by omega), show (i : Int) + 1 = ((i + 1 : Nat) : Int) by omega, need_d2 (by omega) (by omega)]
        simp only [Int.toNat_natCast]
        rw [need_d2 (by omega) (by omega)]
        have e : (s.take (i + 1)).drop i = [s.getD i 0] := by
          rw [List.drop_take, drop_step hlt, show i + 1 - i = 1 by omega]; rfl
        rw [e, D_Name _ (by simp)]
        simp only [Option.bind_some, asB_b, drop_step hlt, lrun]
        have e2 : nameP [s.getD i 0] = letter (s.getD i 0).toNat := by simp [nameP, letters]
        rw [e2]
        cases hl : letter ((s.getD i 0).toNat : Int)
        · simp
        · simp only [cond_true, if_true]
          rw [ih (i + 1) (by omega) (by omega) (by omega)]
          rw [show i + 1 + min (lrun (s.drop (i + 1))) (34 - (i + 1)) = i + min (lrun (s.drop (i + 1)) + 1) (34 - i) by omega]
      · rw [cond_nd (by omega), show min (lrun (s.drop i)) (34 - i) = 0 by omega]; rfl
    · rw [cond_nd (by omega), List.drop_eq_nil_of_le (by omega)]; simp [lrun]

theorem D_TakeAlias (s : List UInt8) (hs : s.length ≤ 1000000) : D id_propsTakeAlias [.bytes s] = some ⟨.tup [.str (aliasP s).1, .int .i64 ((aliasP s).2.1 : Nat), .bool (aliasP s).2.2], false, []⟩ := by
  refine den_fn (N := s.length + 1) (F := propsTakeAlias) rfl rfl ?_
  rw [propsTakeAlias_eq]
  show propsTakeAliasr D _ s = _
  unfold propsTakeAliasr
  cases s with
  | nil => rfl
  | cons c r =>
    simp only [aliasP]
    rw [cond_ne (by simp only [List.length_cons]; omega), need_d (by omega)]
    simp only [show Int.toNat 0 = 0 from rfl, List.getElem?_cons_zero, Option.bind_some]
    by_cases h42 : c.toNat = 42
    · rw [cond_beq (by omega)]
      refine (alias_loop (c :: r) hs _ _ _ 1 (by simp only [List.length_cons]; omega) (by simp) (by omega)).trans ?_
      have hr := lrun_le r
      simp only [List.length_cons] at hs
      simp only [List.drop_succ_cons, List.drop_zero, Int.toNat_natCast, show Int.toNat 1 = 1 from rfl, List.length_cons]
      rw [need_d2 (by omega) (by omega), need_d2 (by omega) (by omega)]
      have e : ((c :: r).take (1 + min (lrun r) (34 - 1))).drop 1 = r.take (min (lrun r) 33) := by
        rw [show 1 + min (lrun r) (34 - 1) = min (lrun r) 33 + 1 by omega]; rfl
      rw [e, D_Name _ (by rw [List.length_take]; omega)]
      simp only [Option.bind_some, asB_b]
      have e2 : nameP (r.take (min (lrun r) 33)) = decide (1 ≤ lrun r ∧ lrun r ≤ 32) := by
        unfold nameP
        rw [lrun_letters r _ (by omega), Bool.true_and, List.length_take]
        rw [Bool.eq_iff_iff, decide_eq_true_eq, decide_eq_true_eq]; omega
      rw [e2]
      by_cases hd : 1 ≤ lrun r ∧ lrun r ≤ 32
      · rw [if_pos ⟨h42, hd⟩]
        simp only [hd, and_self, decide_true, Bool.not_true, cond_false]
        rw [show min (lrun r) 33 = lrun r by omega, show 1 + lrun r = lrun r + 1 by omega]
      · rw [if_neg (fun e => hd e.2)]
        simp only [decide_eq_false hd, Bool.not_false, cond_true]; rfl
    · rw [cond_bne (by omega), if_neg (fun e => h42 e.1)]; rfl

theorem refAlias_loop (s : List UInt8) (hs : s.length ≤ 1000000) (N : Nat) (k0 : List UInt8 → Int → Option Res) : ∀ (n i : Nat), s.length < i + n → i ≤ s.length →
    ref08TakeAlias_L1 D N k0 n s i = k0 s ((i + lrun (s.drop i) : Nat) : Int) := by
  intro n
  induction n with
  | zero => intro i h _; omega
  | succ n ih =>
    intro i h hi
    simp only [ref08TakeAlias_L1, ref08TakeAlias_L1s]
    by_cases hlt : i < s.length
    · rw [cond_d (by omega), need_d (by omega)]
      simp only [Int.toNat_natCast]
      rw [get_bn hlt, D_refLetter, drop_step hlt]
      simp only [Option.bind_some, asB_b, lrun]
      cases hl : letter ((s.getD i 0).toNat : Int)
      · simp
      · simp only [cond_true, if_true]
        rw [wrap_i64 (by omega) (by omega), show (i : Int) + 1 = ((i + 1 : Nat) : Int) by omega, ih (i + 1) (by omega) (by omega)]
        rw [show i + 1 + lrun (s.drop (i + 1)) = i + (lrun (s.drop (i + 1)) + 1) by omega]
    · rw [cond_nd (by omega), List.drop_eq_nil_of_le (by omega)]; rfl

theorem D_refTakeAlias (s : List UInt8) (hs : s.length ≤ 1000000) : D id_ref08TakeAlias [.bytes s] = some ⟨.tup [.str (aliasP s).1, .int .i64 ((aliasP s).2.1 : Nat), .bool (aliasP s).2.2], false, []⟩ := by
  refine den_fn (N := s.length + 1) (F := ref08TakeAlias) rfl rfl ?_
  rw [ref08TakeAlias_eq]
  show ref08TakeAliasr D _ s = _
  unfold ref08TakeAliasr
  cases s with
  | nil => rfl
  | cons c r =>
    simp only [aliasP]
    rw [cond_ne (by simp only [List.length_cons]; omega), need_d (by omega)]
    simp only [show Int.toNat 0 = 0 from rfl, List.getElem?_cons_zero, Option.bind_some]
    by_cases h42 : c.toNat = 42
    · rw [cond_beq (by omega)]
      refine (refAlias_loop (c :: r) hs _ _ _ 1 (by simp only [List.length_cons]; omega) (by simp)).trans ?_
      have hr := lrun_le r
      simp only [List.length_cons] at hs
      simp only [List.drop_succ_cons, List.drop_zero, Int.toNat_natCast, show Int.toNat 1 = 1 from rfl, List.length_cons]
      simp only [need_d2 (show (0 : Int) ≤ ((1 + lrun r : Nat) : Int) by omega) (show ((1 + lrun r : Nat) : Int) ≤ ((r.length + 1 : Nat) : Int) by omega), need_d2 (show (0 : Int) ≤ 1 by omega) (show (1 : Int) ≤ ((1 + lrun r : Nat) : Int) by omega)]
      have e : ((c :: r).take (1 + lrun r)).drop 1 = r.take (lrun r) := by
        rw [show 1 + lrun r = lrun r + 1 by omega]; rfl
      rw [e, D_refName _ (by rw [List.length_take]; omega)]
      simp only [Option.bind_some, asB_b]
      have e2 : nameP (r.take (lrun r)) = decide (1 ≤ lrun r ∧ lrun r ≤ 32) := by
        unfold nameP
        rw [lrun_letters r _ (Nat.le_refl _), Bool.true_and, List.length_take]
        rw [Bool.eq_iff_iff, decide_eq_true_eq, decide_eq_true_eq]; omega
      rw [e2]
      by_cases hd : 1 ≤ lrun r ∧ lrun r ≤ 32
      · rw [if_pos ⟨h42, hd⟩]
        simp only [hd, and_self, decide_true, Bool.not_true, cond_false]
        rw [show 1 + lrun r = lrun r + 1 by omega]
      · rw [if_neg (fun e => hd e.2)]
        simp only [decide_eq_false hd, Bool.not_false, cond_true]; rfl
    · rw [cond_bne (by omega), if_neg (fun e => h42 e.1)]; rfl

/-- Props as a text. -/
def putP (tag anchor : List UInt8) : List UInt8 :=
  if anchor = [] then tag else if tag = [] then 38 :: anchor else 38 :: anchor ++ 32 :: tag

theorem D_join (l : List (List UInt8)) (sep : List UInt8) (h1 : l.length ≤ 1000000) (h2 : (Lib.join l sep).length ≤ 1000000000) : D id_stringsJoin [.row 1 (l.map AV.str), .str sep] = some ⟨.str (Lib.join l sep), false, []⟩ := by
  refine D_ext ?_
  show ((strsOf (l.map AV.str)).bind fun l => bif decide (l.length ≤ 1000000) && decide ((Lib.join l sep).length ≤ 1000000000) then some (⟨.str (Lib.join l sep), false, []⟩ : Res) else none) = _
  rw [strsOf_map]
  simp only [Option.bind_some]
  rw [decide_eq_true h1, decide_eq_true h2]; rfl

theorem D_Put (tag anchor : List UInt8) (ht : tag.length ≤ 1000000) (ha : anchor.length ≤ 1000000) : D id_propsPut [.agg [.str tag, .str anchor]] = some ⟨.str (putP tag anchor), false, []⟩ := by
  refine den_fn (N := 0) (F := propsPut) rfl rfl ?_
  rw [propsPut_eq]
  show propsPutr D 0 tag anchor = _
  unfold propsPutr putP
  cases anchor with
  | nil =>
    cases tag with
    | nil => exact congrArg (fun o => Option.bind o _) (D_join [] [32] (by simp) (by rw [Lib.join_nil]; simp))
    | cons t ts =>
      simp only [show (([] : List UInt8) == []) = true from rfl, show ((t :: ts : List UInt8) == []) = false from rfl, Bool.not_true, Bool.not_false, cond_true, cond_false, if_true]
      rw [need_d (by simp)]
      have e := D_join [t :: ts] [32] (by simp) (by rw [Lib.join_one]; omega)
      rw [Lib.join_one] at e
      simp only [List.map_cons, List.map_nil] at e
      simp only [List.drop_nil, List.take_nil, List.nil_append, List.drop_zero, List.take_length, e, Option.bind_some, asS_s]
  | cons a as' =>
    simp only [show ((a :: as' : List UInt8) == []) = false from rfl, Bool.not_false, cond_true, List.singleton_append]
    simp only [List.length_cons] at ha
    rw [need_d (by simp; omega), need_d (by simp)]
    cases tag with
    | nil =>
      simp only [show (([] : List UInt8) == []) = true from rfl, Bool.not_true, cond_false, if_true, if_neg (List.cons_ne_nil a as')]
      have e := D_join [38 :: a :: as'] [32] (by simp) (by rw [Lib.join_one]; simp only [List.length_cons]; omega)
      rw [Lib.join_one] at e
      simp only [List.map_cons, List.map_nil] at e
      simp only [List.drop_nil, List.take_nil, List.nil_append, List.drop_zero, List.take_length, e, Option.bind_some, asS_s]
    | cons t ts =>
      simp only [List.length_cons] at ht
      simp only [show ((t :: ts : List UInt8) == []) = false from rfl, Bool.not_false, cond_true, if_neg (List.cons_ne_nil a as'), if_neg (List.cons_ne_nil t ts)]
      rw [need_d (by simp)]
      have e := D_join [38 :: a :: as', t :: ts] [32] (by simp) (by rw [Lib.join_cons]; simp [Lib.joinTail]; omega)
      have ej : Lib.join [38 :: a :: as', t :: ts] [32] = 38 :: (a :: as') ++ 32 :: t :: ts := by rw [Lib.join_cons]; simp [Lib.joinTail]
      rw [ej] at e
      simp only [List.map_cons, List.map_nil] at e
      simp only [List.drop_nil, List.take_nil, List.nil_append, List.drop_zero, List.take_length, List.singleton_append, e, Option.bind_some, asS_s]

theorem D_refPut (tag anchor : List UInt8) (ht : tag.length ≤ 1000000) (ha : anchor.length ≤ 1000000) : D id_ref08PutProps [.agg [.str tag, .str anchor]] = some ⟨.str (putP tag anchor), false, []⟩ := by
  refine den_fn (N := 0) (F := ref08PutProps) rfl rfl ?_
  rw [ref08PutProps_eq]
  show ref08PutPropsr D 0 tag anchor = _
  unfold ref08PutPropsr putP
  cases anchor with
  | nil =>
    cases tag with
    | nil => rfl
    | cons t ts =>
      simp only [List.length_cons] at ht
      simp only [show (([] : List UInt8) == []) = true from rfl, show ((t :: ts : List UInt8) == []) = false from rfl, Bool.not_true, Bool.not_false, cond_true, cond_false, if_true]
      rw [need_d (by simp; omega)]; rfl
  | cons a as' =>
    simp only [List.length_cons] at ha
    cases tag with
    | nil =>
      simp only [show ((a :: as' : List UInt8) == []) = false from rfl, show (([] : List UInt8) == []) = true from rfl, Bool.not_false, cond_true, Bool.not_true, cond_false, if_true, if_neg (List.cons_ne_nil a as')]
      rw [need_d (by simp; omega)]; rfl
    | cons t ts =>
      simp only [List.length_cons] at ht
      simp only [show ((a :: as' : List UInt8) == []) = false from rfl, show ((t :: ts : List UInt8) == []) = false from rfl, List.singleton_append, show ((38 :: a :: as' : List UInt8) == []) = false from rfl, Bool.not_false, cond_true, if_neg (List.cons_ne_nil a as'), if_neg (List.cons_ne_nil t ts)]
      rw [need_d (by simp; omega), need_d (by simp; omega), need_d (by simp; omega)]
      simp
theorem D_wakes10 : D id_law10Wakes [] = some ⟨.bool true, false, []⟩ := by
  refine den_fn (N := 0) (F := law10Wakes) rfl rfl ?_
  rw [law10Wakes_eq]
  show law10Wakesr D 0 = _
  unfold law10Wakesr
  have e : takeP (([38, 97, 32, 33, 33, 115, 116, 114, 32, 120] : List UInt8).drop 0 |>.take 10) = ([33, 33, 115, 116, 114], [97], 8, true) := by decide
  rw [D_Take _ (by simp), e]
  simp only [Option.bind_some, asAIBT, asT_t, asC_c, asA_a, asS_s, asI_i, asB_b, asN_n]
  rfl
end Go.Proofs.YtmpjohnbddnehaaDoor.Vf
