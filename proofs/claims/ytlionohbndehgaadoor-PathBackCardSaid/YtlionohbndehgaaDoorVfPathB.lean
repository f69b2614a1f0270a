
/- Paths: a step, the first one, all of them. No condition but sizes. -/
import Derived.Test.YtlionohbndehgaaDoorVfPath
namespace Go.Proofs.YtlionohbndehgaaDoor.Vf
set_option linter.unusedVariables false
set_option linter.unusedSimpArgs false

def lrun20 : List UInt8 → Nat
  | [] => 0
  | c :: r => if letter c.toNat = true then lrun20 r + 1 else 0
theorem lrun20_le : ∀ s : List UInt8, lrun20 s ≤ s.length
  | [] => Nat.le_refl _
  | c :: r => by simp only [lrun20]; split; have := lrun20_le r; simp; omega; simp
theorem name20_loop (s : List UInt8) (hs : s.length ≤ 1000000) (N : Nat) (k0 : List UInt8 → Int → Option Res) : ∀ (n i : Nat), s.length < i + n → i ≤ s.length →
    pathName_L1 D N k0 n s i = k0 s ((i + lrun20 (s.drop i) : Nat) : Int) := by
  intro n
  induction n with
  | zero => intro i h _; omega
  | succ n ih =>
    intro i h hi
    simp only [pathName_L1, pathName_L1s]
    by_cases hlt : i < s.length
    · rw [cond_d (by omega), wrap_i64 (by omega) (by omega), show (i : Int) + 1 = ((i + 1 : Nat) : Int) by omega, need_d2 (by omega) (by omega)]
      simp only [Int.toNat_natCast]
      rw [need_d2 (by omega) (by omega)]
      have e : (s.take (i + 1)).drop i = [s.getD i 0] := by
        rw [List.drop_take, drop_step hlt, show i + 1 - i = 1 by omega]; rfl
      rw [e, D_Name _ (by simp)]
      simp only [Option.bind_some, asB_b, drop_step hlt, lrun20]
      have e2 : nameP [s.getD i 0] = letter (s.getD i 0).toNat := by simp [nameP, letters]
      rw [e2]
      cases hl : letter ((s.getD i 0).toNat : Int)
      · simp
      · simp only [cond_true, if_true]
        rw [ih (i + 1) (by omega) (by omega)]
        rw [show i + 1 + lrun20 (s.drop (i + 1)) = i + (lrun20 (s.drop (i + 1)) + 1) by omega]
    · rw [cond_nd (by omega), List.drop_eq_nil_of_le (by omega)]; rfl
theorem D_pName (s : List UInt8) (hs : s.length ≤ 1000000) : D id_pathName [.str s] = some ⟨.tup [.str (s.take (lrun20 s)), .str (s.drop (lrun20 s)), .bool (nameP (s.take (lrun20 s)))], false, []⟩ := by
  refine den_fn (N := s.length + 1) (F := pathName) rfl rfl ?_
  rw [pathName_eq]
  show pathNamer D _ s = _
  unfold pathNamer
  refine (name20_loop s hs _ _ (s.length + 1) 0 (by omega) (by omega)).trans ?_
  have hl := lrun20_le s
  rw [List.drop_zero, Nat.zero_add]
  simp only [need_d2 (show (0 : Int) ≤ ((lrun20 s : Nat) : Int) by omega) (show ((lrun20 s : Nat) : Int) ≤ ((s.length : Nat) : Int) by omega), Int.toNat_natCast, List.drop_zero, List.take_length]
  rw [D_Name _ (by rw [List.length_take]; omega)]
  rfl

/-- A step: its kind, its name, its number. -/
abbrev Stp := Nat × List UInt8 × Int
def stA (x : Stp) : AV := .agg [.int .i64 (x.1 : Nat), .str x.2.1, .int .i64 x.2.2]
def stepP : List UInt8 → Option (Stp × List UInt8)
  | [] => none
  | c :: l =>
    if c.toNat = 91 then (match numP l with
      | none => none
      | some (n, r) => match r with
        | [] => none
        | d :: r => if d.toNat = 93 then some ((3, [], (n : Int)), r) else none)
    else if c.toNat = 46 then (match l with
      | [] => none
      | d :: r =>
        if d.toNat = 46 then some ((5, [], 0), r)
        else if d.toNat = 42 then some ((4, [], 0), r)
        else if d.toNat = 34 then (match dtakeP (d :: r) with | none => none | some (v, n) => some ((2, v, 0), (d :: r).drop n))
        else if nameP ((d :: r).take (lrun20 (d :: r))) = true then some ((2, (d :: r).take (lrun20 (d :: r)), 0), (d :: r).drop (lrun20 (d :: r))) else none)
    else none
theorem pre1 (k : UInt8) (c : UInt8) (r : List UInt8) : D id_stringsCutPrefix [.str (c :: r), .str [k]] = some ⟨.tup [.str (if c.toNat = k.toNat then r else c :: r), .bool (decide (c.toNat = k.toNat))], false, []⟩ := by
  have e : (decide (([k] : List UInt8).length ≤ (c :: r).length) && (c :: r).take ([k] : List UInt8).length == [k]) = decide (c.toNat = k.toNat) := by
    rw [Bool.eq_iff_iff]
    simp only [List.length_cons, List.length_nil, Bool.and_eq_true, decide_eq_true_eq, beq_iff_eq]
    constructor
    · rintro ⟨_, h⟩
      have : c = k := by simpa using h
      rw [this]
    · intro h
      have : c = k := UInt8.toNat_inj.1 h
      subst this; simp
  rw [D_CutPrefix, e]
  by_cases h : c.toNat = k.toNat
  · simp [h]
  · simp [h]
theorem pre0 (k : UInt8) : D id_stringsCutPrefix [.str [], .str [k]] = some ⟨.tup [.str [], .bool false], false, []⟩ := by rw [D_CutPrefix]; rfl
theorem dt_bound : ∀ (n : Nat) (l : List UInt8) (i : Nat) (out v : List UInt8) (m : Nat), dtake n l i out = some (v, m) → i < m ∧ m ≤ i + l.length
  | 0, l, i, out, v, m, h => by cases h
  | n + 1, [], i, out, v, m, h => by cases h
  | n + 1, c :: r, i, out, v, m, h => by
    simp only [dtake] at h
    split at h
    · cases h
    · split at h
      · simp only [Option.some.injEq, Prod.mk.injEq] at h; simp only [List.length_cons]; omega
      · split at h
        · cases he : escL r with
          | none => rw [he] at h; cases h
          | some um =>
            obtain ⟨u, k⟩ := um
            rw [he] at h
            have h1 := (escL_rune he).2
            have h2 := dt_bound n _ _ _ v m h
            rw [List.length_drop] at h2
            simp only [List.length_cons]; omega
        · have h2 := dt_bound n _ _ _ v m h
          simp only [List.length_cons]; omega
theorem dtakeP_bound {s v : List UInt8} {m : Nat} (h : dtakeP s = some (v, m)) : 2 ≤ m ∧ m ≤ s.length := by
  cases s with
  | nil => cases h
  | cons c r =>
    simp only [dtakeP] at h
    split at h
    · have := dt_bound _ _ _ _ _ _ h
      simp only [List.length_cons]; omega
    · cases h

theorem D_Step (s : List UInt8) (hs : s.length ≤ 100000) : ∃ (x : Stp) (r : List UInt8) (b : Bool), D id_pathStep [.str s] = some ⟨.tup [stA x, .str r, .bool b], false, []⟩ ∧ stepP s = (if b = true then some (x, r) else none) ∧ (b = true → r.length < s.length) := by
  have wrap : ∀ (x : Stp) (r : List UInt8) (b : Bool), pathStepr D 0 s = some ⟨.tup [stA x, .str r, .bool b], false, []⟩ → D id_pathStep [.str s] = some ⟨.tup [stA x, .str r, .bool b], false, []⟩ := by
    intro x r b h
    refine den_fn (N := 0) (F := pathStep) rfl rfl ?_
    rw [pathStep_eq]; exact h
  have z : ∀ (r : List UInt8), (some (⟨.tup [.agg [.int .i64 0, .str [], .int .i64 0], .str r, .bool false], false, []⟩ : Res)) = some ⟨.tup [stA (0, [], 0), .str r, .bool false], false, []⟩ := fun _ => rfl
  cases s with
  | nil =>
    refine ⟨(0, [], 0), [], false, wrap _ _ _ ?_, rfl, fun h => by cases h⟩
    unfold pathStepr
    rw [pre0, pre0]
    rfl
  | cons c l =>
    simp only [List.length_cons] at hs
    simp only [stepP, List.length_cons]
    by_cases h91 : c.toNat = 91
    · rw [if_pos h91]
      have hw : ∀ (x : Stp) (r : List UInt8) (b : Bool), ((D id_pathNumber [AV.str l]).bind fun r2 =>
            asISBT r2.v fun i1 s3 b2 =>
            (D id_stringsCutPrefix [AV.str s3, AV.str ([93] : List UInt8)]).bind fun r3 =>
            asSBT r3.v fun s4 b3 =>
            bif b2 then
              (some (⟨AV.tup [AV.agg [AV.int .i64 3, AV.str [], AV.int .i64 i1], AV.str s4, AV.bool b3], false, []⟩ : Res))
            else
              some ⟨AV.tup [AV.agg [AV.int .i64 3, AV.str [], AV.int .i64 i1], AV.str s4, AV.bool false], false, []⟩) = some ⟨.tup [stA x, .str r, .bool b], false, []⟩ → D id_pathStep [.str (c :: l)] = some ⟨.tup [stA x, .str r, .bool b], false, []⟩ := by
        intro x r b h
        refine wrap _ _ _ ?_
        unfold pathStepr
        rw [pre1 91 c l]
        simp only [Option.bind_some, asSBT, asT_t, asC_c, asS_s, asB_b, asN_n]
        rw [cond_d (show c.toNat = (91 : UInt8).toNat from h91), if_pos (show c.toNat = (91 : UInt8).toNat from h91)]
        exact h
      have hnum := D_Number l (by omega)
      cases hn : numP l with
      | none =>
        rw [hn] at hnum
        refine ⟨(3, [], 0), [], false, hw _ _ _ ?_, rfl, fun h => by cases h⟩
        rw [hnum]
        simp only [numA, Option.getD_none, Option.isSome_none, Option.bind_some, asISBT, asT_t, asC_c, asI_i, asS_s, asB_b, asN_n, pre0, asSBT]
        rfl
      | some nr =>
        obtain ⟨n, r⟩ := nr
        rw [hn] at hnum
        have hrl : r.length < l.length := by
          unfold numP at hn
          split at hn
          · rename_i h1
            simp only [Option.some.injEq, Prod.mk.injEq] at hn
            have := drun_le l
            rw [← hn.2, List.length_drop]; omega
          · cases hn
        cases r with
        | nil =>
          refine ⟨(3, [], (n : Int)), [], false, hw _ _ _ ?_, rfl, fun h => by cases h⟩
          rw [hnum]
          simp only [numA, Option.getD_some, Option.isSome_some, Option.bind_some, asISBT, asT_t, asC_c, asI_i, asS_s, asB_b, asN_n, pre0, asSBT]
          rfl
        | cons d r =>
          refine ⟨(3, [], (n : Int)), if d.toNat = 93 then r else d :: r, decide (d.toNat = 93), hw _ _ _ ?_, ?_, ?_⟩
          · rw [hnum]
            simp only [numA, Option.getD_some, Option.isSome_some, Option.bind_some, asISBT, asT_t, asC_c, asI_i, asS_s, asB_b, asN_n, pre1, asSBT]
            rfl
          · by_cases h93 : d.toNat = 93
            · simp [h93]
            · simp [h93]
          · intro h93
            rw [decide_eq_true_eq] at h93
            rw [if_pos h93]
            simp only [List.length_cons] at hrl; omega
    · rw [if_neg h91]
      by_cases h46 : c.toNat = 46
      · rw [if_pos h46]
        have hw : ∀ (x : Stp) (r : List UInt8) (b : Bool), (bif l == ([] : List UInt8) then
          (some (⟨AV.tup [AV.agg [AV.int .i64 0, AV.str [], AV.int .i64 0], AV.str ([] : List UInt8), AV.bool false], false, []⟩ : Res))
        else
          need (decide (0 ≤ (0 : Int))) <|
          (l[Int.toNat 0]?).bind fun c1 =>
          bif ((c1.toNat : Int) : Int) == 46 then
            (need (decide (0 ≤ (1 : Int)) && decide ((1 : Int) ≤ ((l.length : Nat) : Int))) <|
            some ⟨AV.tup [AV.agg [AV.int .i64 5, AV.str [], AV.int .i64 0], AV.str ((l.take l.length).drop (Int.toNat 1)), AV.bool true], false, []⟩)
          else
            bif ((c1.toNat : Int) : Int) == 42 then
              (need (decide (0 ≤ (1 : Int)) && decide ((1 : Int) ≤ ((l.length : Nat) : Int))) <|
              some ⟨AV.tup [AV.agg [AV.int .i64 4, AV.str [], AV.int .i64 0], AV.str ((l.take l.length).drop (Int.toNat 1)), AV.bool true], false, []⟩)
            else
              bif ((c1.toNat : Int) : Int) == 34 then
                ((D id_doubleTake [AV.bytes l]).bind fun r5 =>
                asSIBT r5.v fun s6 i2 b5 =>
                need (decide (0 ≤ (i2 : Int)) && decide ((i2 : Int) ≤ ((l.length : Nat) : Int))) <|
                some ⟨AV.tup [AV.agg [AV.int .i64 2, AV.str s6, AV.int .i64 0], AV.str ((l.take l.length).drop (Int.toNat i2)), AV.bool b5], false, []⟩)
              else
                (D id_pathName [AV.str l]).bind fun r6 =>
                asSSBT r6.v fun s7 s8 b6 =>
                some ⟨AV.tup [AV.agg [AV.int .i64 2, AV.str s7, AV.int .i64 0], AV.str s8, AV.bool b6], false, []⟩) = some ⟨.tup [stA x, .str r, .bool b], false, []⟩ → D id_pathStep [.str (c :: l)] = some ⟨.tup [stA x, .str r, .bool b], false, []⟩ := by
          intro x r b h
          refine wrap _ _ _ ?_
          unfold pathStepr
          rw [pre1 91 c l, pre1 46 c l]
          simp only [Option.bind_some, asSBT, asT_t, asC_c, asS_s, asB_b, asN_n]
          rw [cond_nd (show ¬ c.toNat = (91 : UInt8).toNat from h91), decide_eq_true (show c.toNat = (46 : UInt8).toNat from h46), if_pos (show c.toNat = (46 : UInt8).toNat from h46)]
          exact h
        cases l with
        | nil => exact ⟨(0, [], 0), [], false, hw _ _ _ rfl, rfl, fun h => by cases h⟩
        | cons d r =>
          have hne : ((d :: r : List UInt8) == []) = false := rfl
          simp only [hne, cond_false, need_d (show (0 : Int) ≤ 0 by omega), show Int.toNat 0 = 0 from rfl, show Int.toNat 1 = 1 from rfl, List.getElem?_cons_zero, Option.bind_some, need_d2 (show (0 : Int) ≤ 1 by omega) (show (1 : Int) ≤ (((d :: r).length : Nat) : Int) by simp only [List.length_cons]; omega), List.take_length, List.drop_succ_cons, List.drop_zero] at hw
          simp only [List.length_cons] at hs ⊢
          by_cases g1 : d.toNat = 46
          · exact ⟨(5, [], 0), r, true, hw _ _ _ (by rw [cond_eq (by omega)]; rfl), by rw [if_pos g1, if_pos rfl], fun _ => by omega⟩
          rw [if_neg g1]
          by_cases g2 : d.toNat = 42
          · exact ⟨(4, [], 0), r, true, hw _ _ _ (by rw [cond_ne (by omega), cond_eq (by omega)]; rfl), by rw [if_pos g2, if_pos rfl], fun _ => by omega⟩
          rw [if_neg g2]
          by_cases g3 : d.toNat = 34
          · rw [if_pos g3]
            cases ht : dtakeP (d :: r) with
            | none =>
              refine ⟨(2, [], 0), d :: r, false, hw _ _ _ ?_, rfl, fun h => by cases h⟩
              rw [cond_ne (by omega), cond_ne (by omega), cond_eq (by omega), D_Take6 _ (by simp only [List.length_cons]; omega), ht]
              simp only [dR, Option.getD_none, Option.isSome_none, Option.bind_some, asSIBT, asT_t, asC_c, asS_s, asI_i, asB_b, asN_n]
              rw [need_d2 (by omega) (by omega)]
              rfl
            | some vn =>
              obtain ⟨v, n⟩ := vn
              obtain ⟨b1, b2⟩ := dtakeP_bound ht
              simp only [List.length_cons] at b2
              refine ⟨(2, v, 0), (d :: r).drop n, true, hw _ _ _ ?_, by simp, fun _ => by rw [List.length_drop]; simp only [List.length_cons]; omega⟩
              rw [cond_ne (by omega), cond_ne (by omega), cond_eq (by omega), D_Take6 _ (by simp only [List.length_cons]; omega), ht]
              simp only [dR, Option.getD_some, Option.isSome_some, Option.bind_some, asSIBT, asT_t, asC_c, asS_s, asI_i, asB_b, asN_n]
              rw [need_d2 (by omega) (by simp only [List.length_cons]; omega), Int.toNat_natCast]
              rfl
          · rw [if_neg g3]
            refine ⟨(2, (d :: r).take (lrun20 (d :: r)), 0), (d :: r).drop (lrun20 (d :: r)), nameP ((d :: r).take (lrun20 (d :: r))), hw _ _ _ ?_, rfl, fun hb => ?_⟩
            · rw [cond_ne (by omega), cond_ne (by omega), cond_ne (by omega), D_pName _ (by simp only [List.length_cons]; omega)]
              rfl
            · rw [List.length_drop]; simp only [List.length_cons]; omega
      · rw [if_neg h46]
        refine ⟨(0, [], 0), [], false, wrap _ _ _ ?_, rfl, fun h => by cases h⟩
        unfold pathStepr
        rw [pre1 91 c l, pre1 46 c l]
        simp only [Option.bind_some, asSBT, asT_t, asC_c, asS_s, asB_b, asN_n]
        rw [cond_nd (show ¬ c.toNat = (91 : UInt8).toNat from h91), decide_eq_false (show ¬ c.toNat = (46 : UInt8).toNat from h46)]
        rfl
end Go.Proofs.YtlionohbndehgaaDoor.Vf
