
/- Props and aliases: the program's and the reference's functions, as plain functions on lists. No condition but sizes. -/
import Derived.Test.YtmpjohnbddnehaaDoorVfTrim
namespace Go.Proofs.YtmpjohnbddnehaaDoor.Vf
set_option linter.unusedVariables false
set_option linter.unusedSimpArgs false

theorem byteOfNat {c : UInt8} {k : UInt8} (h : c.toNat = k.toNat) : c = k := UInt8.toNat_inj.1 h
theorem take1 (c : UInt8) (r : List UInt8) (k : UInt8) : (decide (([k] : List UInt8).length ≤ (c :: r).length) && (c :: r).take ([k] : List UInt8).length == [k]) = decide (c.toNat = k.toNat) := by
  rw [Bool.eq_iff_iff]
  simp only [List.length_cons, List.length_nil, Bool.and_eq_true, decide_eq_true_eq, beq_iff_eq]
  constructor
  · rintro ⟨_, h⟩
    have : c = k := by simpa using h
    rw [this]
  · intro h
    rw [byteOfNat h]; simp
theorem take1_nil (k : UInt8) : (decide (([k] : List UInt8).length ≤ ([] : List UInt8).length) && ([] : List UInt8).take ([k] : List UInt8).length == [k]) = false := rfl

theorem D_TrimPrefix (s p : List UInt8) : D id_stringsTrimPrefix [.str s, .str p] = some ⟨.str (if (decide (p.length ≤ s.length) && s.take p.length == p) = true then s.drop p.length else s), false, []⟩ := by
  refine den_fn (N := 0) (F := stringsTrimPrefix) rfl rfl ?_
  rw [stringsTrimPrefix_eq]
  show stringsTrimPrefixr D 0 s p = _
  unfold stringsTrimPrefixr
  have h1 : D id_internalStringsliteTrimPrefix [.str s, .str p] = some ⟨.str (if (decide (p.length ≤ s.length) && s.take p.length == p) = true then s.drop p.length else s), false, []⟩ := by
    refine den_fn (N := 0) (F := internalStringsliteTrimPrefix) rfl rfl ?_
    rw [internalStringsliteTrimPrefix_eq]
    show internalStringsliteTrimPrefixr D 0 s p = _
    unfold internalStringsliteTrimPrefixr
    rw [D_sHasPrefix]
    simp only [Option.bind_some, asB_b]
    cases hb : (decide (p.length ≤ s.length) && s.take p.length == p)
    · rfl
    · simp only [Bool.and_eq_true, decide_eq_true_eq] at hb
      simp only [cond_true, if_true]
      rw [need_d2 (by omega) (by omega)]
      simp only [Int.toNat_natCast, List.take_length]
  rw [h1]
  simp only [Option.bind_some, asS_s]

/-- Without a sign ahead. -/
def trimB : List UInt8 → List UInt8
  | [] => []
  | c :: r => if c.toNat = 33 then r else c :: r
def vtag : List UInt8 → Bool
  | [] => false
  | c :: r => decide (c.toNat = 33) && (r == [] || nameP (trimB r))
theorem trimB_len (s : List UInt8) : (trimB s).length ≤ s.length := by
  cases s with
  | nil => simp [trimB]
  | cons c r => simp only [trimB]; split <;> simp

theorem D_ValidTag (s : List UInt8) (hs : s.length ≤ 1000000) : D id_propsValidTag [.str s] = some ⟨.bool (vtag s), false, []⟩ := by
  refine den_fn (N := 0) (F := propsValidTag) rfl rfl ?_
  rw [propsValidTag_eq]
  show propsValidTagr D 0 s = _
  unfold propsValidTagr
  rw [D_CutPrefix]
  simp only [Option.bind_some, asSBT, asT_t, asC_c, asS_s, asB_b, asN_n]
  cases s with
  | nil => rw [take1_nil]; rfl
  | cons c r =>
    rw [take1 c r 33]
    simp only [vtag, show (33 : UInt8).toNat = 33 from rfl]
    by_cases h : c.toNat = 33
    · simp only [h, decide_true, cond_true, if_true, List.length_singleton, List.drop_succ_cons, List.drop_zero, Bool.true_and]
      cases hr : (r == ([] : List UInt8))
      · rw [D_TrimPrefix]
        simp only [cond_false, Option.bind_some, asS_s, Bool.false_or]
        have e : (if (decide (([33] : List UInt8).length ≤ r.length) && r.take ([33] : List UInt8).length == [33]) = true then r.drop ([33] : List UInt8).length else r) = trimB r := by
          cases r with
          | nil => rfl
          | cons d r =>
            rw [take1 d r 33]
            simp only [trimB, show (33 : UInt8).toNat = 33 from rfl, decide_eq_true_eq]
            rfl
        have hl := trimB_len r
        rw [e, D_Name _ (by simp at hs; omega)]
        simp only [Option.bind_some, asB_b]
      · rfl
    · simp only [h, decide_false, cond_false, Bool.false_and]

theorem D_refValidTag (s : List UInt8) (hs : s.length ≤ 1000000) : D id_ref08ValidTag [.str s] = some ⟨.bool (vtag s), false, []⟩ := by
  refine den_fn (N := 0) (F := ref08ValidTag) rfl rfl ?_
  rw [ref08ValidTag_eq]
  show ref08ValidTagr D 0 s = _
  unfold ref08ValidTagr
  match s, hs with
  | [], _ => rfl
  | [c], _ =>
    by_cases h : c.toNat = 33
    · rw [byteOfNat (k := 33) h]; rfl
    · have hne : (([c] : List UInt8) == [33]) = false := by rw [Bool.eq_false_iff]; intro e; simp at e; subst e; exact h rfl
      rw [hne, cond_false, cond_nd (by simp), cond_nd (by simp)]
      simp only [vtag, h, decide_false, Bool.false_and]
  | c :: d :: r, hs =>
    simp only [List.length_cons] at hs
    have hne : ((c :: d :: r : List UInt8) == [33]) = false := by rw [Bool.eq_false_iff]; intro e; simp at e
    have hr0 : ((d :: r : List UInt8) == []) = false := rfl
    have hc := byte_lt c
    have plain : (bif decide ((((c :: d :: r).length : Nat) : Int) > 1) then
          need (decide (0 ≤ (0 : Int))) <|
          ((c :: d :: r)[Int.toNat 0]?).bind fun c1 =>
          bif ((c1.toNat : Int) : Int) == 33 then
            (need (decide (0 ≤ (1 : Int)) && decide ((1 : Int) ≤ (((c :: d :: r).length : Nat) : Int))) <|
            (D id_ref01Name [AV.str (((c :: d :: r).take (c :: d :: r).length).drop (Int.toNat 1))]).bind fun r2 =>
            asB r2.v fun b2 =>
            some ⟨AV.bool b2, false, []⟩)
          else
            some ⟨AV.bool false, false, []⟩
        else
          some (⟨AV.bool false, false, []⟩ : Res)) = some ⟨.bool (decide (c.toNat = 33) && nameP (d :: r)), false, []⟩ := by
      rw [cond_d (by simp only [List.length_cons]; omega), need_d (by omega)]
      simp only [show Int.toNat 0 = 0 from rfl, List.getElem?_cons_zero, Option.bind_some]
      by_cases h : c.toNat = 33
      · rw [cond_eq (by omega), need_d2 (by omega) (by simp only [List.length_cons]; omega), List.take_length]
        simp only [show Int.toNat 1 = 1 from rfl, List.drop_succ_cons, List.drop_zero]
        rw [D_refName _ (by simp only [List.length_cons]; omega)]
        simp [asB, h]
      · rw [cond_ne (by omega)]; simp [h]
    rw [hne, cond_false, plain]
    simp only [vtag, hr0, Bool.false_or]
    by_cases h2 : 2 < (c :: d :: r).length
    · rw [cond_d (by omega), need_d2 (by omega) (by omega)]
      have e2 : ((c :: d :: r).take (Int.toNat 2)).drop 0 = [c, d] := by simp [show Int.toNat 2 = 2 from rfl]
      rw [e2]
      by_cases hb : c.toNat = 33 ∧ d.toNat = 33
      · rw [byteOfNat (k := 33) hb.1, byteOfNat (k := 33) hb.2]
        rw [show (([33, 33] : List UInt8) == [33, 33]) = true from rfl, cond_true, need_d2 (by omega) (by simp only [List.length_cons]; omega), List.take_length]
        simp only [show Int.toNat 2 = 2 from rfl, List.drop_succ_cons, List.drop_zero]
        rw [D_refName _ (by simp only [List.length_cons] at h2; omega)]
        simp [asB, trimB]
      · have : (([c, d] : List UInt8) == [33, 33]) = false := by
          rw [Bool.eq_false_iff]; intro e
          simp only [beq_iff_eq, List.cons.injEq, and_true] at e
          exact hb ⟨by rw [e.1]; rfl, by rw [e.2]; rfl⟩
        rw [this, cond_false]
        by_cases hc33 : c.toNat = 33
        · have hd : d.toNat ≠ 33 := fun e => hb ⟨hc33, e⟩
          simp only [trimB, hd, if_false]
        · simp only [hc33, decide_false, Bool.false_and]
    · rw [cond_nd (by omega)]
      obtain rfl : r = [] := List.eq_nil_of_length_eq_zero (by simp only [List.length_cons] at h2; omega)
      by_cases hd : d.toNat = 33
      · have : nameP [d] = false := by rw [byteOfNat (k := 33) hd]; decide
        simp only [trimB, hd, if_true, this]
        rfl
      · simp only [trimB, hd, if_false]

/-- How long a word is. -/
def wlen : List UInt8 → Nat
  | [] => 0
  | c :: r => if c.toNat = 32 then 0 else wlen r + 1
theorem wlen_le : ∀ s : List UInt8, wlen s ≤ s.length
  | [] => Nat.le_refl _
  | c :: r => by simp only [wlen]; split; simp; have := wlen_le r; simp; omega
theorem wlen_index : ∀ s : List UInt8, (Lib.indexByte s 32 = -1 ∧ wlen s = s.length) ∨ Lib.indexByte s 32 = (wlen s : Int)
  | [] => .inl ⟨rfl, rfl⟩
  | c :: r => by
    simp only [wlen, Lib.indexByte]
    by_cases h : c.toNat = 32
    · rw [if_pos h, byteOfNat (k := 32) h]; exact .inr rfl
    · rw [if_neg h]
      have hne : (c == 32) = false := by rw [Bool.eq_false_iff]; intro e; simp at e; subst e; exact h rfl
      rw [hne]
      rcases wlen_index r with ⟨h1, h2⟩ | h1
      · rw [h1]; exact .inl ⟨rfl, by simp [h2]⟩
      · rw [h1]
        have : ((wlen r : Int) == -1) = false := beq_false_of_ne (by omega)
        rw [this]
        exact .inr (by simp)
theorem wlen_pos {c : UInt8} {r : List UInt8} (h : c.toNat ≠ 32) : 1 ≤ wlen (c :: r) := by simp only [wlen]; rw [if_neg h]; omega

/-- A word is added. -/
def addP (tag anchor w : List UInt8) : Option (List UInt8 × List UInt8) :=
  if (w.getD 0 0).toNat = 38 then (if anchor = [] ∧ nameP (w.drop 1) = true then some (tag, w.drop 1) else none)
  else (if tag = [] ∧ vtag w = true then some (w, anchor) else none)

theorem D_IndexByte32 (s : List UInt8) : D id_bytesIndexByte [.bytes s, .int .u8 32] = some ⟨.int .i64 (Lib.indexByte s 32), false, []⟩ := by
  refine den_fn (N := 0) (F := bytesIndexByte) rfl rfl ?_
  rw [bytesIndexByte_eq]
  show bytesIndexByter D 0 s 32 = _
  unfold bytesIndexByter
  have : D id_internalBytealgIndexByte [.bytes s, .int .u8 32] = some ⟨.int .i64 (Lib.indexByte s (32 : Int).toNat.toUInt8), false, []⟩ := D_ext rfl
  rw [this]; rfl

theorem D_add (tag anchor w : List UInt8) (hw : w.length ≤ 1000000) (hne : w ≠ []) : D id_propsPropsAdd [.ref (.agg [.str tag, .str anchor]), .str w] = some ⟨.bool (addP tag anchor w).isSome, false, [.ref (.agg [.str ((addP tag anchor w).getD (tag, anchor)).1, .str ((addP tag anchor w).getD (tag, anchor)).2])]⟩ := by
  refine den_fn (N := 0) (F := propsPropsAdd) rfl rfl ?_
  rw [propsPropsAdd_eq]
  show propsPropsAddr D 0 tag anchor w = _
  unfold propsPropsAddr
  obtain ⟨c, r, rfl⟩ := List.exists_cons_of_ne_nil hne
  rw [D_CutPrefix, D_ValidTag _ hw]
  simp only [Option.bind_some, asSBT, asT_t, asC_c, asS_s, asB_b, asN_n]
  rw [take1 c r 38]
  unfold addP
  simp only [show (38 : UInt8).toNat = 38 from rfl, List.getD_cons_zero, List.length_singleton, List.drop_succ_cons, List.drop_zero, decide_eq_true_eq]
  by_cases h : c.toNat = 38
  · simp only [h, decide_true, cond_true, if_true, Bool.not_true, cond_false]
    rw [D_Name r (by simp at hw; omega)]
    simp only [Option.bind_some, asB_b]
    cases anchor with
    | nil =>
      cases nameP r <;> rfl
    | cons a ts => rfl
  · simp only [h, decide_false, cond_false, if_false, Bool.not_false, cond_true]
    cases tag with
    | nil =>
      cases vtag (c :: r) <;> rfl
    | cons a ts => rfl

/-- The props at the beginning: so many bytes are behind us, so many of them are props'. -/
def takeL : Nat → List UInt8 → Nat → Nat → List UInt8 → List UInt8 → List UInt8 × List UInt8 × Nat × Bool
  | 0, _, n, _, t, a => (t, a, n, true)
  | k + 1, l, n, i, t, a =>
    if (l.getD 0 0).toNat = 38 ∨ (l.getD 0 0).toNat = 33 then
      match addP t a (l.take (wlen l)) with
      | none => ([], [], 0, false)
      | some (t', a') => takeL k ((l.drop (wlen l)).drop (lead (l.drop (wlen l)))) (i + wlen l) (i + wlen l + lead (l.drop (wlen l))) t' a'
    else (t, a, n, true)
theorem takeL_fuel : ∀ (n m : Nat) (l : List UInt8) (x i : Nat) (t a : List UInt8), l.length < n → l.length < m → takeL n l x i t a = takeL m l x i t a := by
  intro n
  induction n with
  | zero => intro m l x i t a h; omega
  | succ n ih =>
    intro m l x i t a h h'
    obtain ⟨m, rfl⟩ : ∃ k, m = k + 1 := ⟨m - 1, by omega⟩
    simp only [takeL]
    split
    · rename_i hc
      cases l with
      | nil => simp at hc
      | cons c r =>
        have hp : 1 ≤ wlen (c :: r) := wlen_pos (by simp at hc; omega)
        split
        · rfl
        · exact ih _ _ _ _ _ _ (by simp at h ⊢; omega) (by simp at h' ⊢; omega)
    · rfl
def takeP (s : List UInt8) : List UInt8 × List UInt8 × Nat × Bool := takeL (s.length + 1) s 0 0 [] []

def propsR (x : List UInt8 × List UInt8 × Nat × Bool) : Option Res := some ⟨.tup [.agg [.str x.1, .str x.2.1], .int .i64 (x.2.2.1 : Nat), .bool x.2.2.2], false, []⟩

theorem take_loop (s : List UInt8) (hs : s.length ≤ 1000000) (N : Nat) (k0 : Int → Bool → List UInt8 → List UInt8 → Option Res) (k1 : Int → List UInt8 → List UInt8 → Option Res) (hk0 : k0 0 false [] [] = propsR ([], [], 0, false)) (hk1 : ∀ (n : Nat) t a, k1 (n : Int) t a = propsR (t, a, n, true)) : ∀ (f x i : Nat) (t a : List UInt8), s.length < i + f → i ≤ s.length →
    propsTake_L1 D N k0 k1 f s x i t a = propsR (takeL f (s.drop i) x i t a) := by
  intro f
  induction f with
  | zero => intro x i t a h _; omega
  | succ f ih =>
    intro x i t a h hi
    simp only [propsTake_L1, propsTake_L1s, takeL]
    by_cases hlt : i < s.length
    · rw [cond_d (by omega)]
      simp only [need_d (show (0 : Int) ≤ (i : Int) by omega), need_d2 (show (0 : Int) ≤ (i : Int) by omega) (show (i : Int) ≤ (s.length : Int) by omega), Int.toNat_natCast, get_bn hlt, List.take_length, D_IndexByte32, Option.bind_some, asI_i]
      have hld : (s.drop i).length = s.length - i := by simp
      have hg : (s.drop i).getD 0 0 = s.getD i 0 := by simp [List.getD]
      rw [hg]
      have hne : s.drop i ≠ [] := fun e => by rw [e] at hld; simp at hld; omega
      generalize hl : s.drop i = l at hld hne
      generalize s.getD i 0 = c at hg
      have hwl := wlen_le l
      have hw1 : (c.toNat = 38 ∨ c.toNat = 33) → 1 ≤ wlen l := fun hc => by
        obtain ⟨d, r, rfl⟩ := List.exists_cons_of_ne_nil hne
        have hh := congrArg (fun l : List UInt8 => l.getD 0 0) hl
        simp only [List.getD_cons_zero] at hh
        refine wlen_pos ?_
        rw [hl, List.getD_cons_zero] at hg
        rw [hg]; omega
      have hlead := lead_le (l.drop (wlen l))
      have hdl : (l.drop (wlen l)).length = l.length - wlen l := by simp
      have hdrop : s.drop (i + wlen l) = l.drop (wlen l) := by rw [← hl, List.drop_drop]
      -- what follows a word
      have tail : ∀ w : List UInt8, w = l.take (wlen l) → 1 ≤ wlen l →
          ((D id_propsPropsAdd [AV.ref (AV.agg [AV.str t, AV.str a]), AV.str w]).bind fun r2 =>
          asC r2.outs fun o1 q1 =>
          asRf o1 fun c2 =>
          asSSA c2 fun s5 s6 =>
          asN q1 <|
          asB r2.v fun b1 =>
          bif !b1 then
            (k0 0 false [] [])
          else
            need (decide (0 ≤ (IntKind.i64.wrap ((i : Int) + ((w.length : Nat) : Int)) : Int)) && decide ((IntKind.i64.wrap ((i : Int) + ((w.length : Nat) : Int)) : Int) ≤ ((s.length : Nat) : Int))) <|
            (D id_bytesTrimLeft [AV.bytes (s.drop (Int.toNat (IntKind.i64.wrap ((i : Int) + ((w.length : Nat) : Int))))), AV.str ([32] : List UInt8)]).bind fun r3 =>
            asY r3.v fun s7 =>
            propsTake_L1 D N k0 k1 f s (IntKind.i64.wrap ((i : Int) + ((w.length : Nat) : Int))) (IntKind.i64.wrap (((s.length : Nat) : Int) - ((s7.length : Nat) : Int))) s5 s6) =
          propsR (match addP t a (l.take (wlen l)) with
            | none => ([], [], 0, false)
            | some (t', a') => takeL f ((l.drop (wlen l)).drop (lead (l.drop (wlen l)))) (i + wlen l) (i + wlen l + lead (l.drop (wlen l))) t' a') := by
        intro w hw h1
        have hwlen : w.length = wlen l := by rw [hw, List.length_take]; omega
        rw [D_add t a w (by omega) (fun e => by rw [e] at hwlen; simp at hwlen; omega), ← hw]
        simp only [Option.bind_some, asC_c, asRf, asSSA, asA_a, asN_n, asS_s, asB_b, hwlen]
        cases hadd : addP t a w with
        | none => simp only [Option.isSome_none, Bool.not_false, cond_true]; exact hk0
        | some ta =>
          simp only [Option.isSome_some, Bool.not_true, cond_false, Option.getD_some]
          rw [wrap_i64 (by omega) (by omega), need_d2 (by omega) (by omega), show (i : Int) + (wlen l : Int) = ((i + wlen l : Nat) : Int) by omega]
          simp only [Int.toNat_natCast, D_TrimLeft, Option.bind_some, asY_y]
          rw [hdrop]
          have e1 : (((l.drop (wlen l)).drop (lead (l.drop (wlen l)))).length : Int) = (s.length : Int) - ((i + wlen l + lead (l.drop (wlen l)) : Nat) : Int) := by
            rw [List.length_drop, hdl]; omega
          rw [e1, show (s.length : Int) - ((s.length : Int) - ((i + wlen l + lead (l.drop (wlen l)) : Nat) : Int)) = ((i + wlen l + lead (l.drop (wlen l)) : Nat) : Int) by omega, wrap_i64 (by omega) (by omega),
            ih _ _ _ _ (by omega) (by omega)]
          have e2 : s.drop (i + wlen l + lead (l.drop (wlen l))) = (l.drop (wlen l)).drop (lead (l.drop (wlen l))) := by rw [← hdrop, List.drop_drop]
          rw [e2]
      have both : ∀ hc : c.toNat = 38 ∨ c.toNat = 33,
          (bif decide ((Lib.indexByte l 32 : Int) ≥ 0) then
            need (decide (0 ≤ (Lib.indexByte l 32 : Int)) && decide ((Lib.indexByte l 32 : Int) ≤ ((l.length : Nat) : Int))) <|
            ((D id_propsPropsAdd [AV.ref (AV.agg [AV.str t, AV.str a]), AV.str ((l.take (Int.toNat (Lib.indexByte l 32))).drop 0)]).bind fun r2 =>
            asC r2.outs fun o1 q1 =>
            asRf o1 fun c2 =>
            asSSA c2 fun s5 s6 =>
            asN q1 <|
            asB r2.v fun b1 =>
            bif !b1 then
              (k0 0 false [] [])
            else
              need (decide (0 ≤ (IntKind.i64.wrap ((i : Int) + ((((l.take (Int.toNat (Lib.indexByte l 32))).drop 0).length : Nat) : Int)) : Int)) && decide ((IntKind.i64.wrap ((i : Int) + ((((l.take (Int.toNat (Lib.indexByte l 32))).drop 0).length : Nat) : Int)) : Int) ≤ ((s.length : Nat) : Int))) <|
              (D id_bytesTrimLeft [AV.bytes (s.drop (Int.toNat (IntKind.i64.wrap ((i : Int) + ((((l.take (Int.toNat (Lib.indexByte l 32))).drop 0).length : Nat) : Int))))), AV.str ([32] : List UInt8)]).bind fun r3 =>
              asY r3.v fun s7 =>
              propsTake_L1 D N k0 k1 f s (IntKind.i64.wrap ((i : Int) + ((((l.take (Int.toNat (Lib.indexByte l 32))).drop 0).length : Nat) : Int))) (IntKind.i64.wrap (((s.length : Nat) : Int) - ((s7.length : Nat) : Int))) s5 s6)
          else
            (D id_propsPropsAdd [AV.ref (AV.agg [AV.str t, AV.str a]), AV.str l]).bind fun r2 =>
            asC r2.outs fun o1 q1 =>
            asRf o1 fun c2 =>
            asSSA c2 fun s5 s6 =>
            asN q1 <|
            asB r2.v fun b1 =>
            bif !b1 then
              (k0 0 false [] [])
            else
              need (decide (0 ≤ (IntKind.i64.wrap ((i : Int) + ((l.length : Nat) : Int)) : Int)) && decide ((IntKind.i64.wrap ((i : Int) + ((l.length : Nat) : Int)) : Int) ≤ ((s.length : Nat) : Int))) <|
              (D id_bytesTrimLeft [AV.bytes (s.drop (Int.toNat (IntKind.i64.wrap ((i : Int) + ((l.length : Nat) : Int))))), AV.str ([32] : List UInt8)]).bind fun r3 =>
              asY r3.v fun s7 =>
              propsTake_L1 D N k0 k1 f s (IntKind.i64.wrap ((i : Int) + ((l.length : Nat) : Int))) (IntKind.i64.wrap (((s.length : Nat) : Int) - ((s7.length : Nat) : Int))) s5 s6) =
          propsR (match addP t a (l.take (wlen l)) with
            | none => ([], [], 0, false)
            | some (t', a') => takeL f ((l.drop (wlen l)).drop (lead (l.drop (wlen l)))) (i + wlen l) (i + wlen l + lead (l.drop (wlen l))) t' a') := by
        intro hc
        rcases wlen_index l with ⟨h1, h2⟩ | h1
        · rw [h1, cond_nd (by omega)]
          exact tail l (by rw [h2, List.take_length]) (hw1 hc)
        · rw [h1, cond_d (by omega), need_d2 (by omega) (by omega)]
          simp only [Int.toNat_natCast, List.drop_zero]
          exact tail _ rfl (hw1 hc)
      by_cases h38 : c.toNat = 38
      · rw [cond_eq (by omega), if_pos (.inl h38)]
        exact both (.inl h38)
      · rw [cond_ne (by omega)]
        by_cases h33 : c.toNat = 33
        · rw [cond_eq (by omega), if_pos (.inr h33)]
          exact both (.inr h33)
        · rw [cond_ne (by omega), if_neg (by omega)]
          exact hk1 x t a
    · rw [cond_nd (by omega), List.drop_eq_nil_of_le (by omega), if_neg (by simp)]
      exact hk1 x t a

theorem D_Take (s : List UInt8) (hs : s.length ≤ 1000000) : D id_propsTake [.bytes s] = some ⟨.tup [.agg [.str (takeP s).1, .str (takeP s).2.1], .int .i64 ((takeP s).2.2.1 : Nat), .bool (takeP s).2.2.2], false, []⟩ := by
  refine den_fn (N := s.length + 1) (F := propsTake) rfl rfl ?_
  rw [propsTake_eq]
  show propsTaker D _ s = _
  unfold propsTaker takeP
  refine (take_loop s hs _ _ _ rfl (fun n t a => rfl) (s.length + 1) 0 0 [] [] (by omega) (by omega)).trans ?_
  rw [List.drop_zero]; rfl
end Go.Proofs.YtmpjohnbddnehaaDoor.Vf
