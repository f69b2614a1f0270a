
/- The reference's rows of a block scalar are the program's; the law FoldBodies comes to true, whatever the input. No condition. -/
import Derived.Test.YtpjpmfchcijikaaDoorVfFoldC
namespace Go.Proofs.YtpjpmfchcijikaaDoor.Vf
set_option linter.unusedVariables false
set_option linter.unusedSimpArgs false

/-- What Body answers. -/
def bodyRes (b : List UInt8) (l : List Ln) (first : Nat) (parent : Int) (dg : Nat) : Res :=
  match bodyGo b (colL b parent dg (l.drop first)).1 (colL b parent dg (l.drop first)).2 (l.drop first) with
  | none => ⟨.tup [.row 1 [], .int .i64 0, .bool false], false, []⟩
  | some p => ⟨.tup [.row 1 (p.1.map AV.str), .int .i64 ((first + p.2 : Nat) : Int), .bool true], false, []⟩

theorem lead_line (b : List UInt8) (x : Ln) (h : x.f ≤ x.t) (h' : x.t ≤ b.length) : lead (lineB b x) ≤ b.length := by
  have := lead_le (lineB b x); have := lineB_len b x h h'; omega
theorem colGo_le (b : List UInt8) (parent : Int) (base : Nat) : ∀ r : List Ln, (∀ y ∈ r, y.f ≤ y.t ∧ y.t ≤ b.length) → (colGo b parent base r).1 ≤ base + 1 + b.length
  | [], _ => by simp only [colGo]; omega
  | x :: r, h => by
    simp only [colGo]
    split
    · exact colGo_le b parent base r fun y hy => h y (.tail _ hy)
    · split
      · show base + 1 ≤ _; omega
      · have := lead_line b x (h x (.head _)).1 (h x (.head _)).2
        show lead (lineB b x) ≤ _; omega
theorem colL_le (b : List UInt8) (parent : Int) (dg : Nat) (r : List Ln) (h : ∀ y ∈ r, y.f ≤ y.t ∧ y.t ≤ b.length) : (colL b parent dg r).1 ≤ parent.toNat + dg + 1 + b.length := by
  unfold colL
  split
  · show parent.toNat + dg ≤ _; omega
  · have := colGo_le b parent parent.toNat r h; omega

theorem D_Body (b : List UInt8) (hb : b.length ≤ 1000000) (l : List Ln) (hl : l.length ≤ 1000000) (hin : ∀ y ∈ l, y.f ≤ y.t ∧ y.t ≤ b.length) (first : Nat) (hf : first ≤ l.length) (parent : Int) (hp : -1 ≤ parent) (hp2 : parent ≤ 1000) (F S K : Bool) (dg : Nat) (hd : dg ≤ 1000) :
    D id_foldBody [.bytes b, .row 3 (l.map Ln.av), .int .i64 first, .int .i64 parent, .agg [.bool F, .bool S, .bool K, .int .i64 dg]] = some (bodyRes b l first parent dg) := by
  refine den_fn (N := l.length + 1) (F := foldBody) rfl rfl ?_
  rw [foldBody_eq]
  show foldBodyr D _ b (l.map Ln.av) first parent F S K dg = _
  unfold foldBodyr bodyRes
  have e1 : (if (first : Int) > 0 then (first : Int) else 0) = first := by split <;> omega
  have e2 : (if (((l.map Ln.av).length : Nat) : Int) < (first : Int) then (((l.map Ln.av).length : Nat) : Int) else (first : Int)) = first := by rw [List.length_map, if_neg (by omega)]
  simp only [e1, e2]
  rw [D_column b hb l hl hin first hf parent hp hp2 dg hd]
  simp only [Option.bind_some, asIBT_av]
  have hc := colL_le b parent dg (l.drop first) (fun y hy => hin y (List.mem_of_mem_drop hy))
  generalize colL b parent dg (l.drop first) = c at hc
  have hpre : (l.take first).length = first := by rw [List.length_take]; omega
  have := body_loop b hb c.1 (by omega) c.2 (l.length + 1) (fun i15 b10 l9 =>
      some (⟨AV.tup [AV.row 1 ((l9.drop 0).take l9.length), AV.int .i64 i15, AV.bool b10], false, []⟩ : Res))
    (fun i16 l10 =>
      some ⟨AV.tup [AV.row 1 ((l10.drop 0).take l10.length), AV.int .i64 i16, AV.bool true], false, []⟩) l hl hin (l.drop first) (l.take first) (l.length + 1) [] (List.take_append_drop _ _).symm (by rw [List.length_drop]; omega) (by simp)
  rw [hpre] at this
  refine Eq.trans this ?_
  cases bodyGo b c.1 c.2 (l.drop first) with
  | none => rfl
  | some p => simp only [List.nil_append, List.drop_zero, List.take_length]

/-- How many lines are blank ahead. -/
def skipB (b : List UInt8) : List Ln → Nat
  | [] => 0
  | x :: r => if lead (lineB b x) = x.t - x.f then skipB b r + 1 else 0
theorem skipB_le (b : List UInt8) : ∀ r, skipB b r ≤ r.length
  | [] => Nat.le_refl _
  | x :: r => by simp only [skipB]; split; have := skipB_le b r; simp; omega; simp
theorem skip_loop (b : List UInt8) (hb : b.length ≤ 1000000) (first : Nat) (parent : Int) (F S K : Bool) (dg : Int) (N : Nat) (k0) (l : List Ln) (hl : l.length ≤ 1000000) (hin : ∀ y ∈ l, y.f ≤ y.t ∧ y.t ≤ b.length) : ∀ (r pre : List Ln) (n : Nat), l = pre ++ r → r.length < n →
    ref01Body_L1 D N k0 n b (l.map Ln.av) first parent (pre.length : Nat) F S K dg = k0 b (l.map Ln.av) first parent ((pre.length + skipB b r : Nat) : Int) F S K dg := by
  intro r
  induction r with
  | nil =>
    intro pre n e hn
    obtain ⟨n, rfl⟩ : ∃ m, n = m + 1 := ⟨n - 1, by simp at hn; omega⟩
    simp only [ref01Body_L1, ref01Body_L1s, skipB]
    rw [cond_nd (by rw [e]; simp), Nat.add_zero]
  | cons x r ih =>
    intro pre n e hn
    obtain ⟨n, rfl⟩ : ∃ m, n = m + 1 := ⟨n - 1, by simp at hn; omega⟩
    have hx : l[pre.length]? = some x := by rw [e, List.getElem?_append_right (Nat.le_refl _)]; simp
    obtain ⟨h1, h2⟩ := hin x (List.mem_of_getElem? hx)
    have hlen : l.length = pre.length + (r.length + 1) := by rw [e]; simp
    have eB : D id_ref01Blank [.bytes b, .agg [.int .i64 x.f, .int .i64 x.t, .int .i64 x.n]] = _ := D_refBlank b x h1 h2 hb
    simp only [ref01Body_L1, ref01Body_L1s, skipB]
    rw [cond_d (by simp; omega)]
    simp only [need_d (show (0 : Int) ≤ (pre.length : Int) by omega), Int.toNat_natCast, List.getElem?_map, hx, Option.map_some, Option.bind_some, asIIIA_av, eB, asB_b]
    by_cases hbl : lead (lineB b x) = x.t - x.f
    · rw [cond_d hbl, if_pos hbl, wrap_i64 (by omega) (by omega), show (pre.length : Int) + 1 = (((pre ++ [x]).length : Nat) : Int) by simp, ih (pre ++ [x]) n (by rw [e]; simp) (by simp at hn; omega)]
      simp only [List.length_append, List.length_cons, List.length_nil]
      rw [show pre.length + (0 + 1) + skipB b r = pre.length + (skipB b r + 1) by omega]
    · rw [cond_nd hbl, if_neg hbl, Nat.add_zero]
theorem colGo_skip (b : List UInt8) (parent : Int) (base : Nat) : ∀ r : List Ln, colGo b parent base r = match r[skipB b r]? with
    | none => (base + 1, false)
    | some x => if (lead (lineB b x) : Int) ≤ parent ∨ partsP (lineB b x) = true then (base + 1, false) else (lead (lineB b x), true)
  | [] => rfl
  | x :: r => by
    simp only [colGo, skipB]
    split
    · rw [colGo_skip b parent base r, List.getElem?_cons_succ]
    · rw [List.getElem?_cons_zero]

theorem refBody_loop (b : List UInt8) (hb : b.length ≤ 1000000) (col : Nat) (hcol : col ≤ 2000000) (text : Bool) (N : Nat) (k0 k1) (l : List Ln) (hl : l.length ≤ 1000000) (hin : ∀ y ∈ l, y.f ≤ y.t ∧ y.t ≤ b.length) : ∀ (r pre : List Ln) (n : Nat) (acc : List (List UInt8)), l = pre ++ r → r.length < n → acc.length ≤ pre.length →
    ref01Body_L2 D N k0 k1 n b (l.map Ln.av) col (!text) (pre.length : Nat) (acc.map AV.str) = match bodyGo b col text r with
      | none => k0 0 false []
      | some p => k1 ((pre.length + p.2 : Nat) : Int) ((acc ++ p.1).map AV.str) := by
  intro r
  induction r with
  | nil =>
    intro pre n acc e hn ha
    obtain ⟨n, rfl⟩ : ∃ m, n = m + 1 := ⟨n - 1, by simp at hn; omega⟩
    simp only [ref01Body_L2, ref01Body_L2s, bodyGo]
    rw [cond_nd (by rw [e]; simp), Nat.add_zero, List.append_nil]
  | cons x r ih =>
    intro pre n acc e hn ha
    obtain ⟨n, rfl⟩ : ∃ m, n = m + 1 := ⟨n - 1, by simp at hn; omega⟩
    have hx : l[pre.length]? = some x := by rw [e, List.getElem?_append_right (Nat.le_refl _)]; simp
    obtain ⟨h1, h2⟩ := hin x (List.mem_of_getElem? hx)
    have hlen : l.length = pre.length + (r.length + 1) := by rw [e]; simp
    have hll := lineB_len b x h1 h2
    have eI : D id_ref01Indent [.bytes b, .agg [.int .i64 x.f, .int .i64 x.t, .int .i64 x.n]] = _ := D_refIndent b x h1 h2 hb
    have eB : D id_ref01Blank [.bytes b, .agg [.int .i64 x.f, .int .i64 x.t, .int .i64 x.n]] = _ := D_refBlank b x h1 h2 hb
    have eS : D id_ref01Stop [.bytes b, .agg [.int .i64 x.f, .int .i64 x.t, .int .i64 x.n]] = _ := D_refStop b x h1 h2
    simp only [ref01Body_L2, ref01Body_L2s, bodyGo]
    rw [cond_d (by simp; omega)]
    simp only [need_d (show (0 : Int) ≤ (pre.length : Int) by omega), Int.toNat_natCast, List.getElem?_map, hx, Option.map_some, Option.bind_some, asIIIA_av, eI, eB, eS, asI_i, asB_b, List.drop_zero, List.take_length]
    rw [wrap_i64 (x := (pre.length : Int) + 1) (by omega) (by omega), show (pre.length : Int) + 1 = (((pre ++ [x]).length : Nat) : Int) by simp]
    have w1 : IntKind.i64.wrap ((x.t : Int) - (x.f : Int)) = ((x.t - x.f : Nat) : Int) := by rw [wrap_i64 (by omega) (by omega)]; omega
    have w2 : IntKind.i64.wrap ((x.f : Int) + (col : Int)) = ((x.f + col : Nat) : Int) := by rw [wrap_i64 (by omega) (by omega)]; omega
    have nd : ∀ s : List UInt8, decide ((acc.map AV.str).length + [AV.str s].length ≤ 1099511627776) = true := fun s => by simp; omega
    have go : ∀ s : List UInt8, ref01Body_L2 D N k0 k1 n b (l.map Ln.av) col (!text) ((pre ++ [x]).length : Nat) (acc.map AV.str ++ [AV.str s]) = match (bodyGo b col text r).map (fun p => (s :: p.1, p.2 + 1)) with
        | none => k0 0 false []
        | some p => k1 ((pre.length + p.2 : Nat) : Int) ((acc ++ p.1).map AV.str) := by
      intro s
      have ea : acc.map AV.str ++ [AV.str s] = (acc ++ [s]).map AV.str := by simp
      rw [ea, ih (pre ++ [x]) n (acc ++ [s]) (by rw [e]; simp) (by simp at hn; omega) (by simp; omega)]
      cases bodyGo b col text r with
      | none => rfl
      | some p =>
        simp only [Option.map_some, List.length_append, List.length_cons, List.length_nil]
        rw [show pre.length + (0 + 1) + p.2 = pre.length + (p.2 + 1) by omega]
        simp
    have ed : (b.take x.t).drop (x.f + col) = (lineB b x).drop col := by unfold lineB; rw [List.drop_drop]
    simp only [w1, w2, Int.toNat_natCast, nd, need_true, go, ed]
    by_cases hbl : lead (lineB b x) = x.t - x.f
    · rw [cond_d hbl, if_pos hbl]
      by_cases hc : col < x.t - x.f
      · rw [cond_d (by omega), if_pos hc]
      · rw [cond_nd (by omega), if_neg hc]
    · rw [cond_nd hbl, if_neg hbl]
      cases text
      · simp
      · simp only [Bool.not_true, cond_false, Bool.true_eq_false, false_or]
        by_cases hc : lead (lineB b x) < col
        · rw [cond_d (by omega), if_pos (.inr hc)]; simp
        · rw [cond_nd (by omega)]
          cases hq : partsP (lineB b x)
          · have := lead_le (lineB b x)
            rw [cond_false, need_d2 (by omega) (by omega), need_d2 (by omega) (by omega), if_neg (by simp [hc])]
          · simp

theorem D_refBody (b : List UInt8) (hb : b.length ≤ 1000000) (l : List Ln) (hl : l.length ≤ 1000000) (hin : ∀ y ∈ l, y.f ≤ y.t ∧ y.t ≤ b.length) (first : Nat) (hf : first ≤ l.length) (parent : Int) (hp : -1 ≤ parent) (hp2 : parent ≤ 1000) (F S K : Bool) (dg : Nat) (hd : dg ≤ 1000) :
    D id_ref01Body [.bytes b, .row 3 (l.map Ln.av), .int .i64 first, .int .i64 parent, .agg [.bool F, .bool S, .bool K, .int .i64 dg]] = some (bodyRes b l first parent dg) := by
  refine den_fn (N := l.length + 1) (F := ref01Body) rfl rfl ?_
  rw [ref01Body_eq]
  show ref01Bodyr D _ b (l.map Ln.av) first parent F S K dg = _
  unfold ref01Bodyr bodyRes
  have hpre : (l.take first).length = first := by rw [List.length_take]; omega
  have hsp := (List.take_append_drop first l).symm
  have sk := fun k0 => skip_loop b hb first parent F S K dg (l.length + 1) k0 l hl hin (l.drop first) (l.take first) (l.length + 1) hsp (by rw [List.length_drop]; omega)
  rw [hpre] at sk
  refine (sk _).trans ?_
  clear sk
  have hc := colL_le b parent dg (l.drop first) (fun y hy => hin y (List.mem_of_mem_drop hy))
  have eb : (if 0 > parent then 0 else parent) = ((parent.toNat : Nat) : Int) := by split <;> omega
  have fin : ∀ (col : Nat) (text : Bool), col ≤ 2000000 → ref01Body_L2 D (l.length + 1)
        (fun i33 b22 l12 =>
          some (⟨AV.tup [AV.row 1 ((l12.drop 0).take l12.length), AV.int .i64 i33, AV.bool b22], false, []⟩ : Res))
        (fun i34 l13 =>
          some ⟨AV.tup [AV.row 1 ((l13.drop 0).take l13.length), AV.int .i64 i34, AV.bool true], false, []⟩)
        (l.length + 1) b (l.map Ln.av) (col : Nat) (!text) (first : Nat) [] = some (match bodyGo b col text (l.drop first) with
          | none => (⟨.tup [.row 1 [], .int .i64 0, .bool false], false, []⟩ : Res)
          | some p => ⟨.tup [.row 1 (p.1.map AV.str), .int .i64 ((first + p.2 : Nat) : Int), .bool true], false, []⟩) := by
    intro col text hcol
    have := refBody_loop b hb col hcol text (l.length + 1) (fun i33 b22 l12 =>
          some (⟨AV.tup [AV.row 1 ((l12.drop 0).take l12.length), AV.int .i64 i33, AV.bool b22], false, []⟩ : Res))
        (fun i34 l13 =>
          some ⟨AV.tup [AV.row 1 ((l13.drop 0).take l13.length), AV.int .i64 i34, AV.bool true], false, []⟩) l hl hin (l.drop first) (l.take first) (l.length + 1) [] hsp (by rw [List.length_drop]; omega) (by simp)
    rw [hpre] at this
    refine Eq.trans this ?_
    cases bodyGo b col text (l.drop first) with
    | none => rfl
    | some p => simp only [List.nil_append, List.drop_zero, List.take_length]
  rw [eb]
  have w0 : ∀ k : Nat, k ≤ 1000 → IntKind.i64.wrap ((parent.toNat : Int) + (k : Int)) = ((parent.toNat + k : Nat) : Int) := fun k hk => by rw [wrap_i64 (by omega) (by omega)]; omega
  have w1 := w0 1 (by omega)
  rw [show ((1 : Nat) : Int) = 1 from rfl] at w1
  by_cases h0 : dg = 0
  · subst h0
    have ec : colL b parent 0 (l.drop first) = colGo b parent parent.toNat (l.drop first) := by unfold colL; rw [if_neg (by omega)]
    rw [ec] at hc ⊢
    rw [cond_eq (by omega), w1]
    have hsk := skipB_le b (l.drop first)
    rw [List.length_drop] at hsk
    rw [colGo_skip] at hc ⊢
    by_cases hk : first + skipB b (l.drop first) < l.length
    · obtain ⟨x, hx⟩ : ∃ x, l[first + skipB b (l.drop first)]? = some x := ⟨_, List.getElem?_eq_getElem hk⟩
      obtain ⟨h1, h2⟩ := hin x (List.mem_of_getElem? hx)
      have eI : D id_ref01Indent [.bytes b, .agg [.int .i64 x.f, .int .i64 x.t, .int .i64 x.n]] = _ := D_refIndent b x h1 h2 hb
      have eS : D id_ref01Stop [.bytes b, .agg [.int .i64 x.f, .int .i64 x.t, .int .i64 x.n]] = _ := D_refStop b x h1 h2
      have hx' : (l.drop first)[skipB b (l.drop first)]? = some x := by rw [List.getElem?_drop]; exact hx
      rw [hx'] at hc ⊢
      dsimp only at hc ⊢
      rw [cond_nd (by simp; omega)]
      simp only [need_d (show (0 : Int) ≤ ((first + skipB b (l.drop first) : Nat) : Int) by omega), Int.toNat_natCast, List.getElem?_map, hx, Option.map_some, Option.bind_some, asIIIA_av, eI, eS, asI_i, asB_b]
      by_cases hle : (lead (lineB b x) : Int) ≤ parent
      · rw [cond_d hle, if_pos (.inl hle)]
        exact fin (parent.toNat + 1) false (by omega)
      · rw [cond_nd hle]
        cases hq : partsP (lineB b x)
        · rw [if_neg (by simp [hle])]
          have := lead_line b x h1 h2
          exact fin (lead (lineB b x)) true (by omega)
        · rw [if_pos (.inr rfl)]
          exact fin (parent.toNat + 1) false (by omega)
    · have hx' : (l.drop first)[skipB b (l.drop first)]? = none := by rw [List.getElem?_drop]; exact List.getElem?_eq_none (by omega)
      rw [hx']
      dsimp only
      rw [cond_d (by simp; omega)]
      exact fin (parent.toNat + 1) false (by omega)
  · have ec : colL b parent dg (l.drop first) = (parent.toNat + dg, true) := by unfold colL; rw [if_pos (by omega)]
    rw [ec, cond_ne (by omega), w0 dg hd]
    exact fin (parent.toNat + dg) true (by omega)

theorem same_loop (l m : List (List UInt8)) (hl : l.length = m.length) (hb : l.length ≤ 1000000) (N : Nat) (k0 k1) : ∀ (n i : Nat), l.length < i + n → i ≤ l.length →
    keepSameString_L1 D N k0 k1 n (l.map AV.str) (m.map AV.str) i = if l.drop i = m.drop i then k1 else k0 false := by
  intro n
  induction n with
  | zero => intro i h h'; omega
  | succ n ih =>
    intro i h h'
    simp only [keepSameString_L1, keepSameString_L1s]
    by_cases hi : i < l.length
    · have e1 : l.drop i = l.getD i [] :: l.drop (i + 1) := by rw [List.drop_eq_getElem_cons hi]; simp [List.getD, hi]
      have e2 : m.drop i = m.getD i [] :: m.drop (i + 1) := by rw [List.drop_eq_getElem_cons (by omega)]; simp [List.getD, show i < m.length by omega]
      rw [cond_d (by simp; omega)]
      simp only [need_d (show (0 : Int) ≤ (i : Int) by omega), Int.toNat_natCast]
      rw [get_row hi, asS_s, get_row (by omega), asS_s, wrap_i64 (by omega) (by omega), show (i : Int) + 1 = ((i + 1 : Nat) : Int) by omega, ih (i + 1) (by omega) (by omega), e1, e2]
      by_cases he : l.getD i [] = m.getD i []
      · rw [he]; simp
      · rw [beq_false_of_ne he, if_neg (fun h => he (List.cons.inj h).1)]; rfl
    · rw [cond_nd (by simp; omega), List.drop_eq_nil_of_le (by omega), List.drop_eq_nil_of_le (by omega), if_pos rfl]
theorem D_SameString (l m : List (List UInt8)) (hb : l.length ≤ 1000000) : D id_keepSameString [.row 1 (l.map AV.str), .row 1 (m.map AV.str)] = some ⟨.bool (decide (l = m)), false, []⟩ := by
  refine den_fn (N := l.length + 1) (F := keepSameString) rfl rfl ?_
  rw [keepSameString_eq]
  show keepSameStringr D _ _ _ = _
  unfold keepSameStringr
  by_cases h : l.length = m.length
  · rw [cond_beq (by simp; omega)]
    have := same_loop l m h hb (l.length + 1) (fun b3 => some (⟨AV.bool b3, false, []⟩ : Res)) (some ⟨AV.bool true, false, []⟩) (l.length + 1) 0 (by omega) (by omega)
    refine Eq.trans this ?_
    simp only [List.drop_zero]
    by_cases he : l = m
    · rw [if_pos he, decide_eq_true he]
    · rw [if_neg he, decide_eq_false he]
  · rw [cond_bne (by simp; omega), decide_eq_false (fun e => h (by rw [e]))]

theorem bodyGo_len (b : List UInt8) (col : Nat) (text : Bool) : ∀ (r : List Ln) (p), bodyGo b col text r = some p → p.1.length ≤ r.length
  | [], p, h => by simp only [bodyGo, Option.some.injEq] at h; subst h; simp
  | x :: r, p, h => by
    simp only [bodyGo] at h
    split at h
    · split at h
      · cases h
      · simp only [Option.map_eq_some_iff] at h
        obtain ⟨q, hq, rfl⟩ := h
        have := bodyGo_len b col text r q hq
        simp; omega
    · split at h
      · simp only [Option.some.injEq] at h; subst h; simp
      · simp only [Option.map_eq_some_iff] at h
        obtain ⟨q, hq, rfl⟩ := h
        have := bodyGo_len b col text r q hq
        simp; omega

theorem asRIBT_av {α : Type} (l : List AV) (i : Int) (b : Bool) (K : List AV → Int → Bool → Option α) : asRIBT (.tup [.row 1 l, .int .i64 i, .bool b]) K = K l i b := rfl

theorem D_FoldBodies (s : List UInt8) (v u : Int) (F S K : Bool) (d : Int) : D id_law07FoldBodies [.str s, .int .i64 v, .int .i64 u, .agg [.bool F, .bool S, .bool K, .int .i64 d]] = some ⟨.bool true, false, []⟩ := by
  refine den_fn (N := 0) (F := law07FoldBodies) rfl rfl ?_
  rw [law07FoldBodies_eq]
  show law07FoldBodiesr D 0 s v u F S K d = _
  unfold law07FoldBodiesr
  rw [show (200 : Int) = ((200 : Nat) : Int) from rfl, D_Text s 200 (by omega)]
  have hb : (s.take 200).length ≤ 200 := by rw [List.length_take]; omega
  generalize s.take 200 = b at hb
  have hin : ∀ y ∈ splitL b, y.f ≤ y.t ∧ y.t ≤ b.length := fun y hy => by have := (tiled b).inside y hy; omega
  have hl : (splitL b).length ≤ 201 := by have := splitFrom_len b (b.length + 1) (bomAt b); unfold splitL; omega
  simp only [Option.bind_some, asS_s]
  rw [D_Split b (by omega), D_refSplit b (by omega)]
  simp only [Option.bind_some, asR_r, List.length_map, bne_self_eq_false, cond_false]
  rw [wrap_i64 (by omega) (by omega), D_Within v (((splitL b).length : Int) + 1) (by omega) (by omega), D_Within u 7 (by omega) (by omega), D_Within d 5 (by omega) (by omega)]
  have g0 := Int.emod_nonneg v (b := ((splitL b).length : Int) + 1) (by omega)
  have g1 := Int.emod_lt_of_pos v (b := ((splitL b).length : Int) + 1) (by omega)
  have g2 := Int.emod_nonneg u (b := 7) (by omega)
  have g3 := Int.emod_lt_of_pos u (b := 7) (by omega)
  have g4 := Int.emod_nonneg d (b := 5) (by omega)
  have g5 := Int.emod_lt_of_pos d (b := 5) (by omega)
  obtain ⟨first, h1⟩ : ∃ k : Nat, v % (((splitL b).length : Int) + 1) = k := ⟨_, (Int.toNat_of_nonneg g0).symm⟩
  obtain ⟨dg, h2⟩ : ∃ k : Nat, d % 5 = k := ⟨_, (Int.toNat_of_nonneg g4).symm⟩
  rw [h1, h2]
  rw [h1] at g0 g1
  rw [h2] at g4 g5
  generalize u % 7 = w at g2 g3
  simp only [Option.bind_some, asI_i]
  rw [wrap_i64 (by omega) (by omega), D_Body b (by omega) (splitL b) (by omega) hin first (by omega) (w - 1) (by omega) (by omega) F S K dg (by omega), D_refBody b (by omega) (splitL b) (by omega) hin first (by omega) (w - 1) (by omega) (by omega) F S K dg (by omega)]
  simp only [Option.bind_some]
  unfold bodyRes
  have hgl := bodyGo_len b (colL b (w - 1) dg ((splitL b).drop first)).1 (colL b (w - 1) dg ((splitL b).drop first)).2 ((splitL b).drop first)
  cases hbg : bodyGo b (colL b (w - 1) dg ((splitL b).drop first)).1 (colL b (w - 1) dg ((splitL b).drop first)).2 ((splitL b).drop first) with
  | none =>
    have e : D id_keepSameString [.row 1 [], .row 1 []] = some ⟨.bool true, false, []⟩ := D_SameString [] [] (by simp)
    simp only [asRIBT_av, beq_self_eq_true, cond_true, e, Option.bind_some, asB_b, D_wakes07]
  | some p =>
    have := hgl p hbg
    rw [List.length_drop] at this
    have e := D_SameString p.1 p.1 (by omega)
    simp only [asRIBT_av, beq_self_eq_true, cond_true, e, decide_true, Option.bind_some, asB_b, D_wakes07]
end Go.Proofs.YtpjpmfchcijikaaDoor.Vf
