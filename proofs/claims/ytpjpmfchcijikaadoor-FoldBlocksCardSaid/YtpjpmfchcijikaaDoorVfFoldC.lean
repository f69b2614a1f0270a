
/- The rows of a block scalar, the program's way and the reference's, as plain functions on lists; the law FoldBodies. No condition but sizes. -/
import Derived.Test.YtpjpmfchcijikaaDoorVfFoldB
import Derived.Test.YtpjpmfchcijikaaDoorVfLinesC
namespace Go.Proofs.YtpjpmfchcijikaaDoor.Vf
set_option linter.unusedVariables false
set_option linter.unusedSimpArgs false

theorem asSBT_av {α : Type} (s : List UInt8) (b : Bool) (K : List UInt8 → Bool → Option α) : asSBT (.tup [.str s, .bool b]) K = K s b := rfl
theorem asIBT_av {α : Type} (i : Int) (b : Bool) (K : Int → Bool → Option α) : asIBT (.tup [.int .i64 i, .bool b]) K = K i b := rfl

theorem D_sHasPrefix (s p : List UInt8) : D id_internalStringsliteHasPrefix [.str s, .str p] = some ⟨.bool (decide (p.length ≤ s.length) && s.take p.length == p), false, []⟩ := by
  refine den_fn (N := 0) (F := internalStringsliteHasPrefix) rfl rfl ?_
  rw [internalStringsliteHasPrefix_eq]
  show internalStringsliteHasPrefixr D 0 s p = _
  unfold internalStringsliteHasPrefixr
  by_cases h : p.length ≤ s.length
  · rw [cond_d (by omega), need_d2 (by omega) (by omega), decide_eq_true h]
    simp only [Int.toNat_natCast, List.drop_zero, Bool.true_and]
  · rw [cond_nd (by omega), decide_eq_false h]; rfl
theorem D_CutPrefix (s p : List UInt8) : D id_stringsCutPrefix [.str s, .str p] = some ⟨.tup [.str (if (decide (p.length ≤ s.length) && s.take p.length == p) = true then s.drop p.length else s), .bool (decide (p.length ≤ s.length) && s.take p.length == p)], false, []⟩ := by
  refine den_fn (N := 0) (F := stringsCutPrefix) rfl rfl ?_
  rw [stringsCutPrefix_eq]
  show stringsCutPrefixr D 0 s p = _
  unfold stringsCutPrefixr
  have h1 : D id_internalStringsliteCutPrefix [.str s, .str p] = some ⟨.tup [.str (if (decide (p.length ≤ s.length) && s.take p.length == p) = true then s.drop p.length else s), .bool (decide (p.length ≤ s.length) && s.take p.length == p)], false, []⟩ := by
    refine den_fn (N := 0) (F := internalStringsliteCutPrefix) rfl rfl ?_
    rw [internalStringsliteCutPrefix_eq]
    show internalStringsliteCutPrefixr D 0 s p = _
    unfold internalStringsliteCutPrefixr
    rw [D_sHasPrefix]
    simp only [Option.bind_some, asB_b]
    cases hb : (decide (p.length ≤ s.length) && s.take p.length == p)
    · rfl
    · simp only [Bool.and_eq_true, decide_eq_true_eq] at hb
      simp only [Bool.not_true, cond_false, if_true]
      rw [need_d2 (by omega) (by omega)]
      simp only [Int.toNat_natCast, List.take_length]
  rw [h1]
  simp only [Option.bind_some, asSBT_av]

/-- Does a row part documents? -/
def mark3 (s m : List UInt8) : Bool := decide (3 ≤ s.length) && s.take 3 == m && (decide (s.length = 3) || decide ((s.getD 3 0).toNat = 32))
def partsP (s : List UInt8) : Bool := mark3 s [45, 45, 45] || mark3 s [46, 46, 46]

theorem D_parts (s : List UInt8) : D id_foldParts [.str s] = some ⟨.bool (partsP s), false, []⟩ := by
  refine den_fn (N := 3) (F := foldParts) rfl rfl ?_
  rw [foldParts_eq]
  show foldPartsr D 3 s = _
  unfold foldPartsr
  have step : ∀ (m : List UInt8) (hm : m.length = 3) (L : List AV) (i : Nat) (hi : i < 2) (hg : L[i]? = some (.str m)) (n : Nat), foldParts_L1 D 3 (fun b4 => some (⟨AV.bool b4, false, []⟩ : Res)) (some ⟨AV.bool false, false, []⟩) (n + 1) s L 2 i =
      bif mark3 s m then some ⟨AV.bool true, false, []⟩ else foldParts_L1 D 3 (fun b4 => some ⟨AV.bool b4, false, []⟩) (some ⟨AV.bool false, false, []⟩) n s L 2 ((i + 1 : Nat) : Int) := by
    intro m hm L i hi hg n
    simp only [foldParts_L1, foldParts_L1s]
    rw [cond_d (by omega), need_d (by omega), wrap_i64 (by omega) (by omega), show (i : Int) + 1 = ((i + 1 : Nat) : Int) by omega]
    simp only [Int.toNat_natCast, hg, Option.bind_some, asS_s, D_CutPrefix, asSBT_av, hm]
    unfold mark3
    cases hb : (decide (3 ≤ s.length) && s.take 3 == m)
    · simp only [cond_false, Bool.false_and]
    · simp only [Bool.and_eq_true, decide_eq_true_eq] at hb
      simp only [cond_true, if_true, Bool.true_and]
      by_cases h3 : s.length = 3
      · rw [List.drop_eq_nil_of_le (by omega), decide_eq_true h3]; rfl
      · have hl : 3 < s.length := by omega
        rw [drop_step hl, decide_eq_false h3, Bool.false_or]
        have e : ((s.getD 3 0 :: s.drop (3 + 1)) == ([] : List UInt8)) = false := rfl
        rw [e, need_d (by omega)]
        simp only [cond_false, show Int.toNat 0 = 0 from rfl, List.getElem?_cons_zero, Option.bind_some]
        by_cases h32 : (s.getD 3 0).toNat = 32
        · rw [cond_eq (by omega), decide_eq_true h32]; rfl
        · rw [cond_ne (by omega), decide_eq_false h32]; rfl
  have s0 := step [45, 45, 45] rfl [AV.str ([45, 45, 45] : List UInt8), AV.str ([46, 46, 46] : List UInt8)] 0 (by omega) rfl 2
  have s1 := step [46, 46, 46] rfl [AV.str ([45, 45, 45] : List UInt8), AV.str ([46, 46, 46] : List UInt8)] 1 (by omega) rfl 1
  refine Eq.trans s0 ?_
  unfold partsP
  cases mark3 s [45, 45, 45]
  · refine Eq.trans s1 ?_
    cases mark3 s [46, 46, 46]
    · rfl
    · rfl
  · rfl

/-- The reference's look at a row. -/
theorem stop_core (s : List UInt8) : (bif decide (((s.length : Nat) : Int) ≥ 3) then
    (need (decide ((0 : Int) ≤ 3) && decide ((3 : Int) ≤ ((s.length : Nat) : Int))) <|
    bif ((s.take (Int.toNat 3)).drop 0) == ([45, 45, 45] : List UInt8) then
      (bif ((s.length : Nat) : Int) == 3 then
        (some (⟨AV.bool true, false, []⟩ : Res))
      else
        need (decide ((0 : Int) ≤ 3)) <|
        (s[Int.toNat 3]?).bind fun c1 =>
        some ⟨AV.bool (((c1.toNat : Int) : Int) == 32), false, []⟩)
    else
      need (decide ((0 : Int) ≤ 3) && decide ((3 : Int) ≤ ((s.length : Nat) : Int))) <|
      bif ((s.take (Int.toNat 3)).drop 0) == ([46, 46, 46] : List UInt8) then
        (bif ((s.length : Nat) : Int) == 3 then
          (some ⟨AV.bool true, false, []⟩)
        else
          need (decide ((0 : Int) ≤ 3)) <|
          (s[Int.toNat 3]?).bind fun c2 =>
          some ⟨AV.bool (((c2.toNat : Int) : Int) == 32), false, []⟩)
      else
        some ⟨AV.bool false, false, []⟩)
  else
    some ⟨AV.bool false, false, []⟩) = some ⟨.bool (partsP s), false, []⟩ := by
  unfold partsP mark3
  by_cases h3 : 3 ≤ s.length
  · rw [cond_d (by omega), need_d2 (by omega) (by omega), need_d2 (by omega) (by omega), decide_eq_true h3]
    simp only [show Int.toNat 3 = 3 from rfl, List.drop_zero, Bool.true_and]
    have tl : (bif (((s.length : Nat) : Int) == 3) then some (⟨AV.bool true, false, []⟩ : Res) else need (decide ((0 : Int) ≤ 3)) <| (s[3]?).bind fun c1 => some (⟨AV.bool (((c1.toNat : Int) : Int) == 32), false, []⟩ : Res)) = some ⟨.bool (decide (s.length = 3) || decide ((s.getD 3 0).toNat = 32)), false, []⟩ := by
      by_cases he : s.length = 3
      · rw [cond_eq (by omega), decide_eq_true he]; rfl
      · rw [cond_ne (by omega), need_d (by omega), get_bn (by omega), decide_eq_false he, Bool.false_or]
        refine retB_congr ?_
        rw [Bool.eq_iff_iff]; simp only [beq_iff_eq, decide_eq_true_eq]; omega
    cases h1 : (s.take 3 == [45, 45, 45])
    · cases h2 : (s.take 3 == [46, 46, 46])
      · rfl
      · simp only [cond_false, cond_true, Bool.false_and, Bool.false_or, Bool.true_and]; exact tl
    · have h2 : (s.take 3 == [46, 46, 46]) = false := by
        rw [beq_iff_eq] at h1
        rw [h1]; rfl
      rw [h2]
      simp only [cond_true, Bool.true_and, Bool.false_and, Bool.or_false]; exact tl
  · rw [cond_nd (by omega), decide_eq_false h3]; rfl

theorem D_refStop (b : List UInt8) (x : Ln) (h : x.f ≤ x.t) (h' : x.t ≤ b.length) : D id_ref01Stop [.bytes b, x.av] = some ⟨.bool (partsP (lineB b x)), false, []⟩ := by
  refine den_fn (N := 0) (F := ref01Stop) rfl rfl ?_
  show runF gl _ 0 ref01Stop [.bytes b, .agg [.int .i64 x.f, .int .i64 x.t, .int .i64 x.n]] = _
  rw [ref01Stop_eq]
  show ref01Stopr D 0 b x.f x.t x.n = _
  unfold ref01Stopr
  rw [need_d2 (by omega) (by omega), need_d2 (by omega) (by omega)]
  exact stop_core ((b.take x.t).drop x.f)

theorem D_bodyRow (b : List UInt8) (l : List Ln) (i : Nat) (x : Ln) (hx : l[i]? = some x) (h : x.f ≤ x.t) (h' : x.t ≤ b.length) : D id_foldBodyRow [.agg [.bytes b, .row 3 (l.map Ln.av)], .int .i64 i] = some ⟨.str (lineB b x), false, []⟩ := by
  refine den_fn (N := 0) (F := foldBodyRow) rfl rfl ?_
  rw [foldBodyRow_eq]
  show foldBodyRowr D 0 b (l.map Ln.av) i = _
  unfold foldBodyRowr
  simp only [need_d (show (0 : Int) ≤ (i : Int) by omega), Int.toNat_natCast, List.getElem?_map, hx, Option.map_some, Option.bind_some, asIIIA_av]
  rw [need_d2 (by omega) (by omega), need_d2 (by omega) (by omega)]
  rfl
theorem D_bodyBlank (b : List UInt8) (l : List Ln) (i : Nat) (x : Ln) (hx : l[i]? = some x) (h : x.f ≤ x.t) (h' : x.t ≤ b.length) (hb : b.length ≤ 1000000) : D id_foldBodyBlank [.agg [.bytes b, .row 3 (l.map Ln.av)], .int .i64 i] = some ⟨.bool (decide (lead (lineB b x) = x.t - x.f)), false, []⟩ := by
  refine den_fn (N := 0) (F := foldBodyBlank) rfl rfl ?_
  rw [foldBodyBlank_eq]
  show foldBodyBlankr D 0 b (l.map Ln.av) i = _
  unfold foldBodyBlankr
  have e : D id_linesBlank [.bytes b, .agg [.int .i64 x.f, .int .i64 x.t, .int .i64 x.n]] = _ := D_Blank b x h h' hb
  simp only [need_d (show (0 : Int) ≤ (i : Int) by omega), Int.toNat_natCast, List.getElem?_map, hx, Option.map_some, Option.bind_some, asIIIA_av, e, asB_b]

/-- From which column rows are told, and whether lines that are not blank belong. -/
def colGo (b : List UInt8) (parent : Int) (base : Nat) : List Ln → Nat × Bool
  | [] => (base + 1, false)
  | x :: r => if lead (lineB b x) = x.t - x.f then colGo b parent base r
    else if (lead (lineB b x) : Int) ≤ parent ∨ partsP (lineB b x) = true then (base + 1, false) else (lead (lineB b x), true)
def colL (b : List UInt8) (parent : Int) (dg : Nat) (r : List Ln) : Nat × Bool := if 0 < dg then (parent.toNat + dg, true) else colGo b parent parent.toNat r

theorem col_loop (b : List UInt8) (hb : b.length ≤ 1000000) (parent : Int) (base : Nat) (N : Nat) (k0 k1) (l : List Ln) (hl : l.length ≤ 1000000) (hin : ∀ y ∈ l, y.f ≤ y.t ∧ y.t ≤ b.length) (hbase : base ≤ 1000000)
    (hk : ∀ i : Nat, i ≤ 1000000 → k0 (i : Int) = k1 ((i + 1 : Nat) : Int) false) : ∀ (r pre : List Ln) (n : Nat), l = pre ++ r → r.length < n →
    foldBodyColumn_L1 D N k0 k1 n parent base (pre.length : Nat) b (l.map Ln.av) = k1 ((colGo b parent base r).1 : Nat) (colGo b parent base r).2 := by
  intro r
  induction r with
  | nil =>
    intro pre n e hn
    obtain ⟨n, rfl⟩ : ∃ m, n = m + 1 := ⟨n - 1, by simp at hn; omega⟩
    simp only [foldBodyColumn_L1, foldBodyColumn_L1s]
    rw [cond_nd (by rw [e]; simp), hk base (by omega)]; rfl
  | cons x r ih =>
    intro pre n e hn
    obtain ⟨n, rfl⟩ : ∃ m, n = m + 1 := ⟨n - 1, by simp at hn; omega⟩
    have hx : l[pre.length]? = some x := by rw [e, List.getElem?_append_right (Nat.le_refl _)]; simp
    have hxl := List.mem_of_getElem? hx
    obtain ⟨h1, h2⟩ := hin x hxl
    have hlen : l.length = pre.length + (r.length + 1) := by rw [e]; simp
    simp only [foldBodyColumn_L1, foldBodyColumn_L1s, colGo]
    have eI : D id_linesIndent [.bytes b, .agg [.int .i64 x.f, .int .i64 x.t, .int .i64 x.n]] = _ := D_Indent b x h1 h2 hb
    rw [cond_d (by simp; omega), D_bodyBlank b l pre.length x hx h1 h2 hb, D_bodyRow b l pre.length x hx h1 h2]
    simp only [Option.bind_some, asB_b, need_d (show (0 : Int) ≤ (pre.length : Int) by omega), Int.toNat_natCast, List.getElem?_map, hx, Option.map_some, asIIIA_av, eI, asI_i, asS_s, D_parts]
    rw [wrap_i64 (by omega) (by omega)]
    by_cases hbl : lead (lineB b x) = x.t - x.f
    · rw [cond_d hbl, if_pos hbl, show (pre.length : Int) + 1 = (((pre ++ [x]).length : Nat) : Int) by simp]
      exact ih (pre ++ [x]) n (by rw [e]; simp) (by simp at hn; omega)
    · rw [cond_nd hbl, if_neg hbl]
      by_cases hp : (lead (lineB b x) : Int) ≤ parent
      · rw [cond_d hp, if_pos (.inl hp), hk base (by omega)]
      · rw [cond_nd hp]
        cases hq : partsP (lineB b x)
        · rw [if_neg (by simp [hp])]; rfl
        · rw [if_pos (.inr rfl), cond_true, hk base (by omega)]

theorem D_column (b : List UInt8) (hb : b.length ≤ 1000000) (l : List Ln) (hl : l.length ≤ 1000000) (hin : ∀ y ∈ l, y.f ≤ y.t ∧ y.t ≤ b.length) (first : Nat) (hf : first ≤ l.length) (parent : Int) (hp : -1 ≤ parent) (hp2 : parent ≤ 1000) (dg : Nat) (hd : dg ≤ 1000) :
    D id_foldBodyColumn [.agg [.bytes b, .row 3 (l.map Ln.av)], .int .i64 first, .int .i64 parent, .int .i64 dg] = some ⟨.tup [.int .i64 ((colL b parent dg (l.drop first)).1 : Nat), .bool (colL b parent dg (l.drop first)).2], false, []⟩ := by
  refine den_fn (N := l.length + 1) (F := foldBodyColumn) rfl rfl ?_
  rw [foldBodyColumn_eq]
  show foldBodyColumnr D _ b (l.map Ln.av) first parent dg = _
  unfold foldBodyColumnr colL
  have eb : (if parent > 0 then parent else 0) = ((parent.toNat : Nat) : Int) := by split <;> omega
  rw [eb]
  by_cases h0 : 0 < dg
  · rw [cond_d (by omega), if_pos h0, wrap_i64 (by omega) (by omega)]
    have : (parent.toNat : Int) + (dg : Int) = ((parent.toNat + dg : Nat) : Int) := by omega
    rw [this]
  · rw [cond_nd (by omega), if_neg h0]
    have hpre : (l.take first).length = first := by rw [List.length_take]; omega
    have := col_loop b hb parent parent.toNat (l.length + 1) (fun i15 =>
        some (⟨AV.tup [AV.int .i64 (IntKind.i64.wrap (i15 + 1)), AV.bool false], false, []⟩ : Res))
      (fun i16 b5 =>
        some ⟨AV.tup [AV.int .i64 i16, AV.bool b5], false, []⟩) l hl hin (by omega) (fun i hi => by rw [wrap_i64 (by omega) (by omega)]; rfl) (l.drop first) (l.take first) (l.length + 1) (List.take_append_drop _ _).symm (by rw [List.length_drop]; omega)
    rw [hpre] at this
    exact this

/-- The rows, and how many lines they are; none: it can't be. -/
def bodyGo (b : List UInt8) (col : Nat) (text : Bool) : List Ln → Option (List (List UInt8) × Nat)
  | [] => some ([], 0)
  | x :: r => if lead (lineB b x) = x.t - x.f then (if col < x.t - x.f then none else (bodyGo b col text r).map fun p => ([] :: p.1, p.2 + 1))
    else if text = false ∨ partsP (lineB b x) = true ∨ lead (lineB b x) < col then some ([], 0) else (bodyGo b col text r).map fun p => ((lineB b x).drop col :: p.1, p.2 + 1)

theorem body_loop (b : List UInt8) (hb : b.length ≤ 1000000) (col : Nat) (hcol : col ≤ 2000000) (text : Bool) (N : Nat) (k0 k1) (l : List Ln) (hl : l.length ≤ 1000000) (hin : ∀ y ∈ l, y.f ≤ y.t ∧ y.t ≤ b.length) : ∀ (r pre : List Ln) (n : Nat) (acc : List (List UInt8)), l = pre ++ r → r.length < n → acc.length ≤ pre.length →
    foldBody_L1 D N k0 k1 n b (l.map Ln.av) (pre.length : Nat) col text (acc.map AV.str) b (l.map Ln.av) = match bodyGo b col text r with
      | none => k0 0 false []
      | some p => k1 ((pre.length + p.2 : Nat) : Int) ((acc ++ p.1).map AV.str) := by
  intro r
  induction r with
  | nil =>
    intro pre n acc e hn ha
    obtain ⟨n, rfl⟩ : ∃ m, n = m + 1 := ⟨n - 1, by simp at hn; omega⟩
    simp only [foldBody_L1, foldBody_L1s, bodyGo]
    rw [cond_nd (by rw [e]; simp), Nat.add_zero, List.append_nil]
  | cons x r ih =>
    intro pre n acc e hn ha
    obtain ⟨n, rfl⟩ : ∃ m, n = m + 1 := ⟨n - 1, by simp at hn; omega⟩
    have hx : l[pre.length]? = some x := by rw [e, List.getElem?_append_right (Nat.le_refl _)]; simp
    obtain ⟨h1, h2⟩ := hin x (List.mem_of_getElem? hx)
    have hlen : l.length = pre.length + (r.length + 1) := by rw [e]; simp
    have hll := lineB_len b x h1 h2
    have eI : D id_linesIndent [.bytes b, .agg [.int .i64 x.f, .int .i64 x.t, .int .i64 x.n]] = _ := D_Indent b x h1 h2 hb
    simp only [foldBody_L1, foldBody_L1s, bodyGo]
    rw [cond_d (by simp; omega), D_bodyBlank b l pre.length x hx h1 h2 hb, D_bodyRow b l pre.length x hx h1 h2]
    simp only [Option.bind_some, asB_b, need_d (show (0 : Int) ≤ (pre.length : Int) by omega), Int.toNat_natCast, List.getElem?_map, hx, Option.map_some, asIIIA_av, eI, asI_i, asS_s, D_parts, List.drop_zero, List.take_length]
    rw [wrap_i64 (x := (pre.length : Int) + 1) (by omega) (by omega), show (pre.length : Int) + 1 = (((pre ++ [x]).length : Nat) : Int) by simp]
    have nd : ∀ s : List UInt8, decide ((acc.map AV.str).length + [AV.str s].length ≤ 1099511627776) = true := fun s => by simp; omega
    have go : ∀ s : List UInt8, foldBody_L1 D N k0 k1 n b (l.map Ln.av) ((pre ++ [x]).length : Nat) col text (acc.map AV.str ++ [AV.str s]) b (l.map Ln.av) = match (bodyGo b col text r).map (fun p => (s :: p.1, p.2 + 1)) with
        | none => k0 0 false []
        | some p => k1 ((pre.length + p.2 : Nat) : Int) ((acc ++ p.1).map AV.str) := by
      intro s
      have ea : acc.map AV.str ++ [AV.str s] = (acc ++ [s]).map AV.str := by simp
      rw [ea, ih (pre ++ [x]) n (acc ++ [s]) (by rw [e]; simp) (by simp at hn; omega) (by simp; omega)]
      cases bodyGo b col text r with
      | none => rfl
      | some p =>
        simp only [Option.map_some, List.length_append, List.length_cons, List.length_nil]
        rw [show pre.length + (0 + 1) + p.2 = pre.length + (p.2 + 1) by omega]
        simp
    simp only [nd, need_true, go]
    by_cases hbl : lead (lineB b x) = x.t - x.f
    · rw [cond_d hbl, if_pos hbl]
      by_cases hc : col < x.t - x.f
      · rw [cond_d (by omega), if_pos hc]
      · rw [cond_nd (by omega), if_neg hc]
    · rw [cond_nd hbl, if_neg hbl]
      cases text
      · simp
      · simp only [Bool.not_true, cond_false, Bool.true_eq_false, false_or]
        cases hq : partsP (lineB b x)
        · by_cases hc : lead (lineB b x) < col
          · rw [cond_false, cond_d (by omega), if_pos (.inr hc)]; simp
          · have := lead_le (lineB b x)
            rw [cond_false, cond_nd (by omega), need_d2 (by omega) (by omega), if_neg (by simp [hc])]
        · simp
end Go.Proofs.YtpjpmfchcijikaaDoor.Vf
