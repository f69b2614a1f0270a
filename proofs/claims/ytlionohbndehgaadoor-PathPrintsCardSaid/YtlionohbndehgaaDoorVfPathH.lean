
/- Paths as the reference takes them: they are the program's. No condition but sizes. -/
import Derived.Test.YtlionohbndehgaaDoorVfPathF
import Derived.Test.YtlionohbndehgaaDoorVfDoubleC
namespace Go.Proofs.YtlionohbndehgaaDoor.Vf
set_option linter.unusedVariables false
set_option linter.unusedSimpArgs false

theorem refnum_loop (s : List UInt8) (hs : s.length ≤ 1000000) (N : Nat) (k0 : List UInt8 → Int → Int → Option Res) : ∀ (n i v : Nat), s.length < i + n → i ≤ s.length → v < 10 ^ (min i 7) →
    ∃ v' : Nat, ref18Number_L1 D N k0 n s (i : Int) (v : Int) = k0 s ((i + drun (s.drop i) : Nat) : Int) (v' : Int) ∧ (i + drun (s.drop i) ≤ 7 → v' = decV ((s.drop i).take (drun (s.drop i))) v) := by
  intro n
  induction n with
  | zero => intro i v h h' _; omega
  | succ n ih =>
    intro i v h hi hv
    simp only [ref18Number_L1, ref18Number_L1s]
    by_cases hlt : i < s.length
    · rw [cond_d (by omega), need_d (by omega)]
      simp only [Int.toNat_natCast]
      rw [get_bn hlt, drop_step hlt]
      simp only [drun]
      have hn := drop_step hlt
      generalize hc : s.getD i 0 = c at *
      have hcl := c.toNat_lt
      by_cases h48 : 48 ≤ c.toNat
      · rw [cond_d (by omega), need_d (by omega), get_bn hlt, hc]
        by_cases h57 : c.toNat ≤ 57
        · rw [cond_d (by omega), if_pos ⟨h48, h57⟩]
          rw [wrap_i64 (x := (i : Int) + 1) (by omega) (by omega), show (i : Int) + 1 = ((i + 1 : Nat) : Int) by omega]
          by_cases h7 : i < 7
          · have hp : (10 : Nat) ^ (min i 7) * 10 ≤ 10000000 := by
              rw [Nat.min_eq_left (by omega), ← Nat.pow_succ]
              exact Nat.pow_le_pow_right (n := 10) (by omega) (show i.succ ≤ 7 by omega)
            have hv1 : v * 10 + (c.toNat - 48) < 10 ^ (min (i + 1) 7) := by
              rw [Nat.min_eq_left (by omega)] at hv
              rw [Nat.min_eq_left (by omega), Nat.pow_succ]; omega
            rw [cond_d (by omega), need_d (by omega), get_bn hlt, hc]
            rw [wrap_i64 (x := 10 * (v : Int)) (by omega) (by omega), wrap_u8 (by omega) (by omega), wrap_i64 (x := (c.toNat : Int) - 48) (by omega) (by omega), wrap_i64 (by omega) (by omega)]
            rw [show 10 * (v : Int) + ((c.toNat : Int) - 48) = ((v * 10 + (c.toNat - 48) : Nat) : Int) by omega]
            obtain ⟨v', g1, g2⟩ := ih (i + 1) (v * 10 + (c.toNat - 48)) (by omega) (by omega) hv1
            refine ⟨v', ?_, fun hh => ?_⟩
            · rw [g1, show i + 1 + drun (s.drop (i + 1)) = i + (drun (s.drop (i + 1)) + 1) by omega]
            · rw [g2 (by omega), List.take_succ_cons]; rfl
          · rw [cond_nd (by omega)]
            obtain ⟨v', g1, g2⟩ := ih (i + 1) v (by omega) (by omega) (by rw [Nat.min_eq_right (by omega)] at hv ⊢; exact hv)
            refine ⟨v', ?_, fun hh => by omega⟩
            rw [g1, show i + 1 + drun (s.drop (i + 1)) = i + (drun (s.drop (i + 1)) + 1) by omega]
        · rw [cond_nd (by omega), if_neg (by omega)]
          exact ⟨v, rfl, fun _ => rfl⟩
      · rw [cond_nd (by omega), if_neg (by omega)]
        exact ⟨v, rfl, fun _ => rfl⟩
    · rw [cond_nd (by omega), List.drop_eq_nil_of_le (by omega)]
      exact ⟨v, rfl, fun _ => rfl⟩
def refN (s : List UInt8) : Nat × Nat := match numP s with | none => (0, 0) | some p => (p.1, drun s)
theorem D_refNumber (s : List UInt8) (hs : s.length ≤ 1000000) : D id_ref18Number [.str s] = some ⟨.tup [.int .i64 ((refN s).1 : Nat), .int .i64 ((refN s).2 : Nat)], false, []⟩ := by
  refine den_fn (N := s.length + 1) (F := ref18Number) rfl rfl ?_
  rw [ref18Number_eq]
  show ref18Numberr D _ s = _
  unfold ref18Numberr
  have fin : ∀ (k0 : List UInt8 → Int → Int → Option Res) (r : Option Res), (∀ v' : Nat, (drun s ≤ 7 → v' = decV (s.take (drun s)) 0) → k0 s ((drun s : Nat) : Int) (v' : Int) = r) → ref18Number_L1 D (s.length + 1) k0 (s.length + 1) s 0 0 = r := by
    intro k0 r h
    obtain ⟨v', g1, g2⟩ := refnum_loop s hs (s.length + 1) k0 (s.length + 1) 0 0 (by omega) (by omega) (by decide)
    rw [List.drop_zero, Nat.zero_add] at g1 g2
    exact g1.trans (h v' g2)
  refine fin _ _ fun v' hv' => ?_
  have hl := drun_le s
  unfold refN numP
  by_cases h6 : drun s ≤ 6
  · rw [cond_nd (by omega), hv' (by omega)]
    by_cases h1 : 1 < drun s
    · rw [cond_d (by omega), need_d (by omega), show Int.toNat 0 = 0 from rfl, get_bn (by omega)]
      by_cases h48 : (s.getD 0 0).toNat = 48
      · rw [cond_eq (by omega), if_neg (by omega)]; rfl
      · rw [cond_ne (by omega), if_pos ⟨by omega, h6, .inr h48⟩]
    · rw [cond_nd (by omega)]
      by_cases h0 : drun s = 0
      · rw [if_neg (by omega), h0]; rfl
      · rw [if_pos ⟨by omega, h6, .inl (by omega)⟩]
  · rw [cond_d (by omega), if_neg (by omega)]; rfl

theorem letters20_loop (s : List UInt8) (hs : s.length ≤ 1000000) (N : Nat) (acc : List AV) (k0 : List UInt8 → Int → List AV → Option Res) : ∀ (n i : Nat), s.length < i + n → i ≤ s.length →
    ref18ParsePath_L2 D N k0 n s (i : Int) acc = k0 s ((i + lrun20 (s.drop i) : Nat) : Int) acc := by
  intro n
  induction n with
  | zero => intro i h _; omega
  | succ n ih =>
    intro i h hi
    simp only [ref18ParsePath_L2, ref18ParsePath_L2s]
    by_cases hlt : i < s.length
    · rw [cond_d (by omega), need_d (by omega)]
      simp only [Int.toNat_natCast]
      rw [get_bn hlt, drop_step hlt, D_refLetter]
      simp only [Option.bind_some, asB_b, lrun20]
      rw [wrap_i64 (by omega) (by omega), show (i : Int) + 1 = ((i + 1 : Nat) : Int) by omega]
      cases hl : letter ((s.getD i 0).toNat : Int)
      · simp
      · simp only [cond_true, if_true]
        rw [ih (i + 1) (by omega) (by omega), show i + 1 + lrun20 (s.drop (i + 1)) = i + (lrun20 (s.drop (i + 1)) + 1) by omega]
    · rw [cond_nd (by omega), List.drop_eq_nil_of_le (by omega)]; rfl

theorem drop1_cons (c : UInt8) (l : List UInt8) : ((c :: l).take (c :: l).length).drop (Int.toNat 1) = l := by
  rw [List.take_length]; rfl
theorem grow20 (acc : List Stp) (x : Stp) : (((acc.map stA).drop 0).take (acc.map stA).length) ++ [stA x] = (acc ++ [x]).map stA := by
  rw [List.drop_zero, List.take_length, List.map_append]; rfl
theorem ref20_step (s : List UInt8) (hs : s.length ≤ 100000) (N : Nat) (hN : s.length < N) (go : List UInt8 → List AV → Option Res) (k0 : Int → List AV → Option Res) (k1 : List AV → Option Res) (acc : List Stp) (ha : acc.length ≤ 200000) :
    ref18ParsePath_L1s D N go k0 k1 s (acc.map stA) = if s = [] then k1 (acc.map stA) else match stepP s with | none => k0 6 [] | some (x, r) => go r ((acc ++ [x]).map stA) := by
  unfold ref18ParsePath_L1s
  have hgo : ∀ (x : Stp) (r : List UInt8), (need (decide ((((acc.map stA).drop 0).take (acc.map stA).length).length + [stA x].length ≤ 1099511627776)) <| go r ((((acc.map stA).drop 0).take (acc.map stA).length) ++ [stA x])) = go r ((acc ++ [x]).map stA) := by
    intro x r
    rw [grow20]
    exact need_d (by simp; omega)
  cases s with
  | nil => rfl
  | cons c l =>
    rw [if_neg (by simp), show ((c :: l) == ([] : List UInt8)) = false from rfl]
    simp only [Bool.not_false, cond_true]
    rw [need_d (by omega), show (c :: l)[Int.toNat 0]? = some c from rfl, Option.bind_some]
    simp only [List.length_cons] at hs hN
    simp only [stepP]
    by_cases h91 : c.toNat = 91
    · rw [cond_eq (by omega), if_pos h91, need_d2 (by omega) (by simp only [List.length_cons]; omega), drop1_cons, D_refNumber l (by omega)]
      simp only [Option.bind_some, asIIT, asT_t, asC_c, asI_i, asN_n, refN]
      cases hn : numP l with
      | none => rfl
      | some nr =>
        obtain ⟨n, r⟩ := nr
        have hd := drun_le l
        have hr : r = l.drop (drun l) ∧ 1 ≤ drun l := by
          unfold numP at hn
          split at hn
          · rename_i h1
            simp only [Option.some.injEq, Prod.mk.injEq] at hn
            exact ⟨hn.2.symm, h1.1⟩
          · cases hn
        obtain ⟨hr, h1⟩ := hr
        simp only
        rw [cond_ne (by omega), wrap_i64 (x := 1 + ((drun l : Nat) : Int)) (by omega) (by omega)]
        by_cases hlen : drun l < l.length
        · rw [cond_nd (by simp only [List.length_cons]; omega), need_d (by omega), show Int.toNat (1 + ((drun l : Nat) : Int)) = drun l + 1 by omega, List.getElem?_cons_succ, get_bn hlen, hr, drop_step hlen]
          simp only
          by_cases h93 : (l.getD (drun l) 0).toNat = 93
          · rw [cond_beq (by omega), if_pos h93, wrap_i64 (x := ((drun l : Nat) : Int) + 2) (by omega) (by omega), need_d2 (by omega) (by simp only [List.length_cons]; omega)]
            rw [show Int.toNat (((drun l : Nat) : Int) + 2) = (drun l + 1) + 1 by omega, List.take_length, List.drop_succ_cons]
            exact hgo (3, [], (n : Int)) _
          · rw [cond_bne (by omega), if_neg h93]
        · rw [cond_d (by simp only [List.length_cons]; omega), hr, List.drop_eq_nil_of_le (by omega)]
    · rw [cond_ne (by omega), if_neg h91, need_d (by omega)]
      simp only [Option.bind_some]
      by_cases h46 : c.toNat = 46
      · rw [cond_beq (by omega), if_pos h46]
        cases l with
        | nil => rw [cond_d (by simp)]
        | cons d r =>
          rw [cond_nd (by simp only [List.length_cons]; omega), need_d2 (by omega) (by simp only [List.length_cons]; omega), need_d (by omega), drop1_cons, show (d :: r)[Int.toNat 0]? = some d from rfl, Option.bind_some]
          simp only [List.length_cons] at hs hN
          simp only
          by_cases h2 : d.toNat = 46
          · rw [cond_eq (by omega), if_pos h2, need_d2 (by omega) (by simp only [List.length_cons]; omega), drop1_cons]
            exact hgo (5, [], 0) _
          rw [cond_ne (by omega), if_neg h2, need_d (by omega)]
          simp only [Option.bind_some]
          by_cases h3 : d.toNat = 42
          · rw [cond_eq (by omega), if_pos h3, need_d2 (by omega) (by simp only [List.length_cons]; omega), drop1_cons]
            exact hgo (4, [], 0) _
          rw [cond_ne (by omega), if_neg h3, need_d (by omega)]
          by_cases h4 : d.toNat = 34
          · rw [cond_eq (by omega), if_pos h4, D_refTake6 _ (by simp only [List.length_cons]; omega)]
            simp only [dR, Option.bind_some, asSIBT, asT_t, asC_c, asS_s, asI_i, asB_b, asN_n]
            cases hd : dtakeP (d :: r) with
            | none => rfl
            | some vm =>
              obtain ⟨v, m⟩ := vm
              have hb := dtakeP_bound hd
              simp only [Option.getD_some, Option.isSome_some, Bool.not_true, cond_false]
              rw [need_d2 (by omega) (by omega), Int.toNat_natCast, List.take_length]
              exact hgo (2, v, 0) _
          rw [cond_ne (by omega), if_neg h4]
          have hl := lrun20_le (d :: r)
          have hlet := letters20_loop (d :: r) (by simp only [List.length_cons]; omega) N (acc.map stA)
          refine (hlet _ N 0 (by simp only [List.length_cons]; omega) (by omega)).trans ?_
          rw [List.drop_zero, Nat.zero_add, need_d2 (by omega) (by omega), Int.toNat_natCast, List.drop_zero, D_refName _ (by rw [List.length_take]; simp only [List.length_cons]; omega)]
          simp only [Option.bind_some, asB_b]
          cases hnm : nameP ((d :: r).take (lrun20 (d :: r)))
          · simp
          · simp only [Bool.not_true, cond_false, if_true]
            rw [need_d2 (by omega) (by omega), need_d2 (by omega) (by omega), List.take_length]
            exact hgo (2, _, 0) _
      · rw [cond_bne (by omega), if_neg h46]

theorem ref20_loop (N : Nat) (k0 : Int → List AV → Option Res) (k1 : List AV → Option Res) : ∀ (f : Nat) (s : List UInt8) (acc : List Stp), s.length ≤ 100000 → s.length < f → s.length < N → acc.length + s.length ≤ 200000 →
    ref18ParsePath_L1 D N k0 k1 f s (acc.map stA) = match stepsL f s with | none => k0 6 [] | some l => k1 ((acc ++ l).map stA) := by
  intro f
  induction f with
  | zero => intro s acc _ h; omega
  | succ f ih =>
    intro s acc hs h hN ha
    rw [show ref18ParsePath_L1 D N k0 k1 (f + 1) s (acc.map stA) = ref18ParsePath_L1s D N (ref18ParsePath_L1 D N k0 k1 f) k0 k1 s (acc.map stA) from rfl, ref20_step s hs N hN _ _ _ acc (by omega)]
    simp only [stepsL]
    by_cases hn : s = []
    · rw [if_pos hn, if_pos hn]; simp only [List.append_nil]
    · rw [if_neg hn, if_neg hn]
      cases hx : stepP s with
      | none => rfl
      | some p =>
        obtain ⟨x, r⟩ := p
        have hlt := stepP_len hs hx
        simp only
        rw [ih r (acc ++ [x]) (by omega) (by omega) (by omega) (by simp; omega)]
        cases stepsL f r with
        | none => rfl
        | some l => simp only [Option.map_some, List.append_assoc, List.singleton_append]
def longN (x : Stp) : Bool := decide (128 < x.2.1.length)
theorem longs20_loop (l : List Stp) (hl : l.length ≤ 1000000) (N : Nat) (k0 : Int → List AV → Option Res) (k1 : List AV → Option Res) : ∀ (n i : Nat), l.length < i + n → i ≤ l.length →
    ref18ParsePath_L3 D N k0 k1 n ((l.length : Nat) : Int) (i : Int) (l.map stA) = if (l.drop i).any longN = true then k0 10 [] else k1 (l.map stA) := by
  intro n
  induction n with
  | zero => intro i h _; omega
  | succ n ih =>
    intro i h hi
    simp only [ref18ParsePath_L3, ref18ParsePath_L3s]
    by_cases hlt : i < l.length
    · rw [cond_d (by omega), need_d2 (by omega) (by simp; omega)]
      have e1 : (l.map stA)[0 + Int.toNat (i : Int)]? = some (stA l[i]) := by
        rw [Nat.zero_add, Int.toNat_natCast, List.getElem?_map, List.getElem?_eq_getElem hlt]; rfl
      have e2 : (stA l[i]).flat[1]? = some (.str l[i].2.1) := rfl
      rw [e1, Option.bind_some, e2, Option.bind_some, asS_s, List.drop_eq_getElem_cons hlt, List.any_cons]
      by_cases hb : 128 < l[i].2.1.length
      · rw [cond_d (by omega), show longN l[i] = true from decide_eq_true hb]; rfl
      · rw [cond_nd (by omega), show longN l[i] = false from decide_eq_false hb, Bool.false_or, wrap_i64 (by omega) (by omega), show (i : Int) + 1 = ((i + 1 : Nat) : Int) by omega]
        exact ih (i + 1) (by omega) (by omega)
    · rw [cond_nd (by omega), List.drop_eq_nil_of_le (by omega)]; rfl
def pathR (x : List Stp × Int) : Option Res := some ⟨.tup [.row 3 (x.1.map stA), .int .i64 x.2], false, []⟩
theorem after18 (l : List Stp) (N : Nat) (hl : l.length ≤ 1000000) (hN : l.length < N) : ref18ParsePath_L3 D N
    (fun i17 l17 => some (⟨AV.tup [AV.row 3 ((l17.drop 0).take l17.length), AV.int .i64 i17], false, []⟩ : Res))
    (fun l18 => bif decide ((((l18.length : Nat) : Int) : Int) > 32) then (some (⟨AV.tup [AV.row 3 ((([] : List AV).drop 0).take 0), AV.int .i64 10], false, []⟩ : Res)) else some ⟨AV.tup [AV.row 3 ((l18.drop 0).take l18.length), AV.int .i64 0], false, []⟩)
    N (((l.map stA).length : Nat) : Int) 0 (l.map stA) = pathR (if 32 < l.length ∨ l.any (fun x => decide (128 < x.2.1.length)) = true then ([], 10) else (l, 0)) := by
  rw [List.length_map]
  refine (longs20_loop l hl N _ _ N 0 (by omega) (by omega)).trans ?_
  rw [List.drop_zero]
  by_cases ha : l.any longN = true
  · rw [if_pos ha, if_pos (.inr ha)]; rfl
  · rw [if_neg ha]
    by_cases h32 : 32 < l.length
    · rw [cond_d (by simp; omega), if_pos (.inl h32)]; rfl
    · rw [cond_nd (by simp; omega), if_neg (fun h => h.elim h32 (fun h => ha h)), List.drop_zero, List.take_length]; rfl
theorem main18 (s : List UInt8) (acc : List Stp) (N : Nat) (hs : s.length ≤ 100000) (hN : acc.length + s.length + 1 < N) (ha : acc.length ≤ 10) : ref18ParsePath_L1 D N
    (fun i12 l10 => some (⟨AV.tup [AV.row 3 ((l10.drop 0).take l10.length), AV.int .i64 i12], false, []⟩ : Res))
    (fun l11 => ref18ParsePath_L3 D N
      (fun i17 l17 => some (⟨AV.tup [AV.row 3 ((l17.drop 0).take l17.length), AV.int .i64 i17], false, []⟩ : Res))
      (fun l18 => bif decide ((((l18.length : Nat) : Int) : Int) > 32) then (some (⟨AV.tup [AV.row 3 ((([] : List AV).drop 0).take 0), AV.int .i64 10], false, []⟩ : Res)) else some ⟨AV.tup [AV.row 3 ((l18.drop 0).take l18.length), AV.int .i64 0], false, []⟩)
      N ((l11.length : Nat) : Int) 0 l11)
    N s (acc.map stA) = pathR (match (stepsL (s.length + 1) s).map fun l => acc ++ l with
      | none => ([], 6)
      | some l => if 32 < l.length ∨ l.any (fun x => decide (128 < x.2.1.length)) = true then ([], 10) else (l, 0)) := by
  refine (ref20_loop N _ _ N s acc hs (by omega) (by omega) (by omega)).trans ?_
  rw [stepsL_fuel N (s.length + 1) s hs (by omega) (by omega)]
  cases hl : stepsL (s.length + 1) s with
  | none => rfl
  | some l =>
    have hc := stepsL_count _ _ _ hs hl
    simp only [Option.map_some]
    exact after18 (acc ++ l) N (by rw [List.length_append]; omega) (by rw [List.length_append]; omega)
theorem D_ParsePath (s : List UInt8) (hs : s.length ≤ 100000) : D id_ref18ParsePath [.str s] = pathR (parseP s) := by
  refine den_fn (N := s.length + 10) (F := ref18ParsePath) rfl rfl ?_
  rw [ref18ParsePath_eq]
  show ref18ParsePathr D _ s = _
  unfold ref18ParsePathr
  cases s with
  | nil => exact main18 [] [] _ (by simp) (by simp) (by simp)
  | cons c l =>
    rw [show ((c :: l) == ([] : List UInt8)) = false from rfl]
    simp only [Bool.not_false, cond_true]
    rw [need_d (by omega), show (c :: l)[Int.toNat 0]? = some c from rfl, Option.bind_some]
    unfold parseP
    simp only [firstP]
    by_cases h64 : c.toNat = 64
    · simp only [List.length_cons] at hs
      rw [cond_eq (by omega), if_pos h64, need_d2 (by omega) (by simp only [List.length_cons]; omega), drop1_cons, D_refNumber l (by omega)]
      simp only [Option.bind_some, asIIT, asT_t, asC_c, asI_i, asN_n, refN]
      cases l with
      | nil => rfl
      | cons d r =>
        simp only [List.length_cons] at hs
        simp only
        by_cases h42 : d.toNat = 42
        · have hn : numP (d :: r) = none := by
            unfold numP
            have : drun (d :: r) = 0 := by simp only [drun]; rw [if_neg (by omega)]
            rw [this, if_neg (by omega)]
          rw [hn, if_pos h42]
          simp only
          rw [cond_nd (by omega), show ((d :: r) == ([] : List UInt8)) = false from rfl]
          simp only [Bool.not_false, cond_true]
          rw [need_d (by omega), show (d :: r)[Int.toNat 0]? = some d from rfl, Option.bind_some, cond_eq (by omega), need_d2 (by omega) (by simp only [List.length_cons]; omega), need_d (by simp), drop1_cons]
          exact main18 r [(1, [], -1)] _ (by omega) (by simp only [List.length_cons, List.length_nil]; omega) (by simp)
        · rw [if_neg h42]
          cases hn : numP (d :: r) with
          | none =>
            simp only
            rw [cond_nd (by omega), show ((d :: r) == ([] : List UInt8)) = false from rfl]
            simp only [Bool.not_false, cond_true]
            rw [need_d (by omega), show (d :: r)[Int.toNat 0]? = some d from rfl, Option.bind_some, cond_ne (by omega)]
            rfl
          | some nr =>
            obtain ⟨n, r'⟩ := nr
            have hd := drun_le (d :: r)
            have hr : r' = (d :: r).drop (drun (d :: r)) ∧ 1 ≤ drun (d :: r) := by
              unfold numP at hn
              split at hn
              · rename_i h1
                simp only [Option.some.injEq, Prod.mk.injEq] at hn
                exact ⟨hn.2.symm, h1.1⟩
              · cases hn
            obtain ⟨hr, h1⟩ := hr
            simp only
            rw [cond_d (by omega), need_d2 (by omega) (by omega), need_d (by simp), Int.toNat_natCast, List.take_length, ← hr]
            have hrl : r'.length ≤ r.length := by rw [hr, List.length_drop]; simp only [List.length_cons]; omega
            exact main18 r' [(1, [], (n : Int))] _ (by omega) (by simp only [List.length_cons, List.length_nil]; omega) (by simp)
    · rw [cond_ne (by omega), if_neg h64]
      exact main18 (c :: l) [] _ hs (by simp) (by simp)
end Go.Proofs.YtlionohbndehgaaDoor.Vf
