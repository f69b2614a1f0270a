
/- Graphs: which lists are graphs. No condition but sizes. -/
import Derived.Test.YthdefengmkcacaaDoorVfPropsA
namespace Go.Proofs.YthdefengmkcacaaDoor.Vf
set_option linter.unusedVariables false
set_option linter.unusedSimpArgs false

structure Th where
  kind : Int
  tag : List UInt8
  value : List UInt8
  kids : List Int
deriving DecidableEq, Inhabited

def Th.av (t : Th) : AV := .agg [.int .i64 t.kind, .str t.tag, .str t.value, .row 1 (iA t.kids)]
def gA (g : List Th) : List AV := g.map Th.av

theorem iA_len (l : List Int) : (iA l).length = l.length := List.length_map ..
theorem gA_len (g : List Th) : (gA g).length = g.length := List.length_map ..
theorem get_iA {α : Type} {l : List Int} {i : Nat} {f : AV → Option α} (h : i < l.length) : ((iA l)[i]?).bind f = f (.int .i64 (l.getD i 0)) := by
  simp [iA, List.getD, h]
theorem get_gA {α : Type} {g : List Th} {i : Nat} {f : AV → Option α} (h : i < g.length) : ((gA g)[i]?).bind f = f (g.getD i default).av := by
  simp [gA, List.getD, h]
theorem asTh {α : Type} {t : Th} {K : Int → List UInt8 → List UInt8 → List AV → Option α} : asISSRA t.av K = K t.kind t.tag t.value (iA t.kids) := by
  simp only [asISSRA, Th.av, asA_a, asC_c, asI_i, asS_s, asR_r, asN_n]

abbrev Key := List UInt8 × List UInt8
def Th.key (t : Th) : Key := (t.tag, t.value)
def keyA (k : Key) : AV := .agg [.str k.1, .str k.2]
def putK (l : List Key) (k : Key) : List Key := if k ∈ l then l else l ++ [k]
/-- A map from keys, by its keys alone. -/
def HasK (m : List (AV × AV)) (l : List Key) : Prop := m.map Prod.fst = l.map keyA ∧ m.all (fun p => isI64 p.2) = true

theorem sameK (k q : Key) : sameS (keyA k) (keyA q) = decide (k = q) := by
  obtain ⟨a, b⟩ := k; obtain ⟨c, d⟩ := q
  simp only [sameS, keyA, eqKS, eqLs, eqLeaf, Option.bind_some, Option.some.injEq, Prod.mk.injEq, Bool.and_true]
  rw [Bool.eq_iff_iff]; simp
theorem HasK.known {m : List (AV × AV)} {l : List Key} (h : HasK m l) (k : Key) : knownS (keyA k) m = true := by
  unfold knownS
  rw [List.all_eq_true]
  intro p hp
  have h2 := List.all_eq_true.1 h.2 p hp
  rw [Bool.and_eq_true]
  refine ⟨?_, h2⟩
  have : p.1 ∈ l.map keyA := by rw [← h.1]; exact List.mem_map_of_mem hp
  obtain ⟨q, _, hq⟩ := List.mem_map.1 this
  rw [← hq]
  obtain ⟨a, b⟩ := k; obtain ⟨c, d⟩ := q
  rfl
theorem HasK.has {m : List (AV × AV)} {l : List Key} (h : HasK m l) (k : Key) : hasS (keyA k) m = decide (k ∈ l) := by
  have e : hasS (keyA k) m = (m.map Prod.fst).any (fun a => sameS (keyA k) a) := by
    unfold hasS; rw [List.any_map]; rfl
  rw [e, h.1, List.any_map, Bool.eq_iff_iff, List.any_eq_true, decide_eq_true_eq]
  constructor
  · rintro ⟨q, hq, e⟩
    simp only [Function.comp, sameK, decide_eq_true_eq] at e
    rw [e]; exact hq
  · intro hk
    exact ⟨k, hk, by simp only [Function.comp, sameK, decide_true]⟩
theorem setS_fst (a v : AV) : ∀ m : List (AV × AV), (setS a v m).map Prod.fst = m.map Prod.fst
  | [] => rfl
  | p :: r => by
    simp only [setS]
    cases sameS a p.1
    · simp only [cond_false, List.map_cons, setS_fst a v r]
    · rfl
theorem setS_i64 (a : AV) (n : Int) : ∀ m : List (AV × AV), m.all (fun p => isI64 p.2) = true → (setS a (.int .i64 n) m).all (fun p => isI64 p.2) = true
  | [], _ => rfl
  | p :: r, h => by
    rw [List.all_cons, Bool.and_eq_true] at h
    simp only [setS]
    cases sameS a p.1
    · simp only [cond_false, List.all_cons, h.1, setS_i64 a n r h.2, Bool.and_true]
    · simp only [cond_true, List.all_cons, h.2, show isI64 (.int .i64 n) = true from rfl, Bool.and_true]
theorem HasK.inc {m : List (AV × AV)} {l : List Key} (h : HasK m l) (k : Key) : HasK (incS (keyA k) m) (putK l k) := by
  unfold incS
  refine ⟨?_, setS_i64 _ _ _ ?_⟩
  · rw [setS_fst]
    unfold ensS putK
    rw [h.has]
    by_cases hk : k ∈ l
    · simp only [hk, decide_true, cond_true, if_true, h.1]
    · simp only [hk, decide_false, cond_false, if_false, List.map_append, h.1, List.map_cons, List.map_nil]
  · unfold ensS
    cases hasS (keyA k) m
    · simp only [cond_false, List.all_append, h.2, List.all_cons, List.all_nil, show isI64 (.int .i64 0) = true from rfl, Bool.and_true]
    · exact h.2
theorem HasK.len {m : List (AV × AV)} {l : List Key} (h : HasK m l) : m.length = l.length := by
  have := congrArg List.length h.1
  simpa using this

/-- Every other one. -/
def evens : List Int → List Int
  | [] => []
  | [a] => [a]
  | a :: _ :: r => a :: evens r
/-- Keys as they are met, up to the first that is none. -/
def keyedGo (g : List Th) : List Int → List Key → Option (List Key)
  | [], acc => some acc
  | k :: r, acc => if (g.getD k.toNat default).kind = 1 then keyedGo g r (putK acc (g.getD k.toNat default).key) else none
def keyedP (g : List Th) (kids : List Int) : Bool := match keyedGo g (evens kids) [] with
  | some l => decide (kids.length % 2 = 0 ∧ l.length = kids.length / 2)
  | none => false
def inG (g : List Th) (l : List Int) : Prop := ∀ k ∈ l, 0 ≤ k ∧ k < (g.length : Int)

theorem evens_drop (l : List Int) (i : Nat) (h : i < l.length) : evens (l.drop i) = l.getD i 0 :: evens (l.drop (i + 2)) := by
  rw [List.drop_eq_getElem_cons h]
  by_cases h2 : i + 1 < l.length
  · rw [List.drop_eq_getElem_cons h2]; simp [evens, List.getD, h]
  · rw [List.drop_eq_nil_of_le (by omega), List.drop_eq_nil_of_le (show l.length ≤ i + 2 by omega)]; simp [evens, List.getD, h]

theorem keyed_loop (g : List Th) (kids : List Int) (hg : g.length ≤ 1000000000) (hk : kids.length ≤ 1000000000) (hin : inG g kids) (N : Nat) (k0 : Bool → Option Res) (k1 : List AV → List (AV × AV) → Option Res) : ∀ (n i : Nat) (m : List (AV × AV)) (acc : List Key), kids.length + 1 < i + n → i ≤ kids.length + 1 → HasK m acc →
    (match keyedGo g (evens (kids.drop i)) acc with
      | some l => ∃ m', HasK m' l ∧ isoKeyed_L1 D N k0 k1 n (gA g) (iA kids) i m = k1 (iA kids) m'
      | none => isoKeyed_L1 D N k0 k1 n (gA g) (iA kids) i m = k0 false) := by
  intro n
  induction n with
  | zero =>
    intro i m acc h h2 hm
    have : kids.drop i = [] := List.drop_eq_nil_of_le (by omega)
    omega
  | succ n ih =>
    intro i m acc h h2 hm
    simp only [isoKeyed_L1, isoKeyed_L1s]
    by_cases hlt : i < kids.length
    · have hmem : kids.getD i 0 ∈ kids := by simp [List.getD, hlt]
      obtain ⟨q1, q2⟩ := hin _ hmem
      rw [cond_d (by rw [iA_len]; omega), need_d (by omega), evens_drop _ _ hlt]
      simp only [Int.toNat_natCast]
      rw [get_iA hlt]
      simp only [asI_i]
      rw [need_d q1, get_gA (by omega), asTh]
      rw [show (AV.agg [.str (g.getD (kids.getD i 0).toNat default).tag, .str (g.getD (kids.getD i 0).toNat default).value]) = keyA (g.getD (kids.getD i 0).toNat default).key from rfl]
      rw [hm.known, show keyS (keyA (g.getD (kids.getD i 0).toNat default).key) = true from rfl, Bool.and_true, need_true]
      simp only [keyedGo]
      by_cases hs : (g.getD (kids.getD i 0).toNat default).kind = 1
      · rw [cond_beq hs, if_pos hs, wrap_i64 (by omega) (by omega), show (i : Int) + 2 = ((i + 2 : Nat) : Int) by omega]
        exact ih (i + 2) _ _ (by omega) (by omega) (hm.inc _)
      · rw [cond_bne hs, if_neg hs]
    · rw [cond_nd (by rw [iA_len]; omega), List.drop_eq_nil_of_le (by omega)]
      simp only [evens, keyedGo]
      exact ⟨m, hm, rfl⟩

theorem D_keyed (g : List Th) (kids : List Int) (hg : g.length ≤ 1000000000) (hk : kids.length ≤ 1000000000) (hin : inG g kids) : D id_isoKeyed [.row 4 (gA g), .row 1 (iA kids)] = some ⟨.bool (keyedP g kids), false, []⟩ := by
  refine den_fn (N := kids.length + 2) (F := isoKeyed) rfl rfl ?_
  rw [isoKeyed_eq]
  show isoKeyedr D _ (gA g) (iA kids) = _
  unfold isoKeyedr
  have h := keyed_loop g kids hg hk hin (kids.length + 2) (fun b3 => some ⟨AV.bool b3, false, []⟩) (fun l8 m4 =>
    need (!decide ((2 : Int) = 0)) <|
    bif ((Int.tmod ((l8.length : Nat) : Int) 2) : Int) == 0 then
    (need (!decide ((2 : Int) = 0)) <|
    some ⟨AV.bool ((((m4.length : Nat) : Int) : Int) == (IntKind.i64.wrap (Int.tdiv ((l8.length : Nat) : Int) 2))), false, []⟩)
    else
    some ⟨AV.bool false, false, []⟩) (kids.length + 2) 0 [] [] (by omega) (by omega) ⟨rfl, rfl⟩
  rw [List.drop_zero] at h
  unfold keyedP
  cases hk2 : keyedGo g (evens kids) [] with
  | none => rw [hk2] at h; exact h
  | some l =>
    rw [hk2] at h
    obtain ⟨m', hm, h⟩ := h
    refine h.trans ?_
    rw [iA_len, hm.len, need_nd (by omega), need_nd (by omega)]
    have e1 : Int.tmod ((kids.length : Nat) : Int) 2 = ((kids.length % 2 : Nat) : Int) := by rw [Int.tmod_eq_emod_of_nonneg (by omega)]; omega
    have e2 : Int.tdiv ((kids.length : Nat) : Int) 2 = ((kids.length / 2 : Nat) : Int) := by rw [Int.tdiv_eq_ediv_of_nonneg (by omega)]; omega
    rw [e1, e2, wrap_i64 (by omega) (by omega)]
    by_cases h0 : kids.length % 2 = 0
    · rw [cond_eq (by omega)]
      refine retB_congr ?_
      rw [Bool.eq_iff_iff]; simp only [beq_iff_eq, decide_eq_true_eq]; omega
    · rw [cond_ne (by omega)]
      show _ = some (⟨.bool (decide (kids.length % 2 = 0 ∧ l.length = kids.length / 2)), false, []⟩ : Res)
      rw [decide_eq_false (fun hh => h0 hh.1)]

theorem D_ValidString (s : List UInt8) (hs : s.length ≤ 1000000000) : D id_unicodeUtf8ValidString [.str s] = some ⟨.bool (Lib.validD s), false, []⟩ :=
  D_ext (by
    have h : X id_unicodeUtf8ValidString [.str s] = bif decide (s.length ≤ 1000000000) then some (⟨.bool (Lib.validD s), false, []⟩ : Res) else none := rfl
    rw [h, cond_d hs])

def kidsIn (g : List Th) (l : List Int) : Bool := l.all fun k => decide (0 ≤ k) && decide (k < (g.length : Int))
theorem kidsIn_inG {g : List Th} {l : List Int} (h : kidsIn g l = true) : inG g l := by
  intro k hk
  have := List.all_eq_true.1 h k hk
  simpa using this
/-- May there be such a thing? -/
def rightP (g : List Th) (t : Th) : Bool :=
  vtag t.tag && !(t.tag == [33]) && kidsIn g t.kids && (if t.kind = 1 then t.kids.isEmpty && Lib.validD t.value else if t.kind = 2 then t.value == [] else if t.kind = 3 then t.value == [] && keyedP g t.kids else false)

theorem right_loop (g : List Th) (t : Th) (hk : t.kids.length ≤ 1000000000) (N : Nat) (k0 : Bool → Option Res) (k1 : List AV → Int → List UInt8 → List UInt8 → List AV → Option Res) : ∀ (n i : Nat), t.kids.length < i + n → i ≤ t.kids.length →
    isoRight_L1 D N k0 k1 n (gA g) (iA t.kids) t.kids.length i t.kind t.tag t.value (iA t.kids) = if kidsIn g (t.kids.drop i) = true then k1 (gA g) t.kind t.tag t.value (iA t.kids) else k0 false := by
  intro n
  induction n with
  | zero => intro i h _; omega
  | succ n ih =>
    intro i h hi
    simp only [isoRight_L1, isoRight_L1s]
    by_cases hlt : i < t.kids.length
    · rw [cond_d (by omega), need_d (by omega)]
      simp only [Int.toNat_natCast]
      rw [get_iA hlt]
      simp only [asI_i]
      have e : t.kids.drop i = t.kids.getD i 0 :: t.kids.drop (i + 1) := by
        rw [List.drop_eq_getElem_cons hlt]; simp [List.getD, hlt]
      have e2 : kidsIn g (t.kids.drop i) = (decide (0 ≤ t.kids.getD i 0) && decide (t.kids.getD i 0 < (g.length : Int)) && kidsIn g (t.kids.drop (i + 1))) := by
        rw [e]; simp only [kidsIn, List.all_cons]
      rw [e2]
      by_cases h0 : t.kids.getD i 0 < 0
      · rw [cond_d h0, if_neg (by simp only [Bool.and_eq_true, decide_eq_true_eq]; omega)]
      · rw [cond_nd h0, gA_len]
        by_cases h1 : t.kids.getD i 0 ≥ (g.length : Int)
        · rw [cond_d h1, if_neg (by simp only [Bool.and_eq_true, decide_eq_true_eq]; omega)]
        · rw [cond_nd h1, wrap_i64 (by omega) (by omega), show (i : Int) + 1 = ((i + 1 : Nat) : Int) by omega, ih (i + 1) (by omega) (by omega)]
          simp only [show (0 : Int) ≤ t.kids.getD i 0 by omega, show t.kids.getD i 0 < (g.length : Int) by omega, decide_true, Bool.true_and]
    · rw [cond_nd (by omega), List.drop_eq_nil_of_le (by omega)]; rfl

def Th.small (t : Th) : Prop := t.tag.length ≤ 1000000 ∧ t.value.length ≤ 1000000000 ∧ t.kids.length ≤ 1000000000

theorem D_right (g : List Th) (t : Th) (hg : g.length ≤ 1000000000) (ht : t.small) : D id_isoRight [.row 4 (gA g), t.av] = some ⟨.bool (rightP g t), false, []⟩ := by
  obtain ⟨h1, h2, h3⟩ := ht
  refine den_fn (N := t.kids.length + 1) (F := isoRight) rfl rfl ?_
  refine (isoRight_eq D _ (gA g) t.kind t.tag t.value (iA t.kids)).trans ?_
  unfold isoRightr
  rw [D_ValidTag _ h1]
  simp only [Option.bind_some, asB_b]
  unfold rightP
  cases hv : vtag t.tag
  · rfl
  · simp only [Bool.not_true, cond_false, Bool.true_and]
    cases h33 : (t.tag == [33])
    · simp only [cond_false, Bool.not_false, Bool.true_and]
      rw [iA_len, show (0 : Int) = ((0 : Nat) : Int) from rfl, right_loop g t h3 _ _ _ _ 0 (by omega) (by omega), List.drop_zero]
      cases hin : kidsIn g t.kids
      · simp only [Bool.false_eq_true, if_false, Bool.false_and]
      · simp only [if_true, Bool.true_and]
        by_cases k1 : t.kind = 1
        · rw [cond_eq k1, if_pos k1, iA_len]
          cases hkk : t.kids with
          | nil => simp only [List.length_nil]; rw [cond_eq rfl, D_ValidString _ h2]; simp only [Option.bind_some, asB_b, List.isEmpty_nil, Bool.true_and]
          | cons a r => rw [cond_ne (by simp; omega)]; rfl
        · rw [cond_ne k1, if_neg k1]
          by_cases k2 : t.kind = 2
          · rw [cond_eq k2, if_pos k2]
          · rw [cond_ne k2, if_neg k2]
            by_cases k3 : t.kind = 3
            · rw [cond_eq k3, if_pos k3, D_keyed g _ hg h3 (kidsIn_inG hin)]
              cases (t.value == ([] : List UInt8)) <;> rfl
            · rw [cond_ne k3, if_neg k3]
    · rfl

theorem D_Valid1 (g : List Th) (t : Th) (hg : g.length ≤ 1000000000) (ht : t.small) : D id_isoValid1 ([t.av] ++ [AV.cell [.row 4 (gA g)]]) = some ⟨.bool (!rightP g t), false, []⟩ := by
  refine den_fn (N := 0) (F := isoValid1) rfl rfl ?_
  refine (isoValid1_eq D _ t.kind t.tag t.value (iA t.kids) (gA g)).trans ?_
  unfold isoValid1r
  rw [show AV.agg [.int .i64 t.kind, .str t.tag, .str t.value, .row 1 (iA t.kids)] = t.av from rfl, D_right g t hg ht]
  simp only [Option.bind_some, asB_b]

theorem index_loop (g : List Th) (hg : g.length ≤ 1000000000) (hs : ∀ t ∈ g, t.small) (f : Nat) (c : List AV) (p : Th → Bool) (hf : ∀ t ∈ g, D f ([t.av] ++ c) = some ⟨.bool (p t), false, []⟩) (N : Nat) : ∀ (n i : Nat), g.length < i + n → i ≤ g.length →
    ∃ v : Int, (0 ≤ v ↔ (g.drop i).any p = true) ∧ slicesIndexFuncT_L1 D N (fun i6 => some ⟨AV.int .i64 i6, false, []⟩) (some ⟨AV.int .i64 (-1), false, []⟩) n (gA g) f c g.length i = some ⟨.int .i64 v, false, []⟩ := by
  intro n
  induction n with
  | zero => intro i h _; omega
  | succ n ih =>
    intro i h hi
    simp only [slicesIndexFuncT_L1, slicesIndexFuncT_L1s]
    by_cases hlt : i < g.length
    · have hmem : g.getD i default ∈ g := by simp [List.getD, hlt]
      rw [cond_d (by omega), need_d (by omega)]
      simp only [Int.toNat_natCast]
      rw [get_gA hlt, asTh]
      rw [show AV.agg [.int .i64 (g.getD i default).kind, .str (g.getD i default).tag, .str (g.getD i default).value, .row 1 (iA (g.getD i default).kids)] = (g.getD i default).av from rfl, hf _ hmem]
      simp only [Option.bind_some, asB_b]
      have e : g.drop i = g.getD i default :: g.drop (i + 1) := by
        rw [List.drop_eq_getElem_cons hlt]; simp [List.getD, hlt]
      cases hp : p (g.getD i default)
      · simp only [cond_false]
        rw [wrap_i64 (by omega) (by omega), show (i : Int) + 1 = ((i + 1 : Nat) : Int) by omega]
        obtain ⟨v, h1, h2⟩ := ih (i + 1) (by omega) (by omega)
        refine ⟨v, ?_, h2⟩
        rw [e, List.any_cons, hp, Bool.false_or]; exact h1
      · refine ⟨i, ?_, rfl⟩
        rw [e, List.any_cons, hp]
        simp
    · refine ⟨-1, ?_, ?_⟩
      · rw [List.drop_eq_nil_of_le (by omega)]; simp
      · rw [cond_nd (by omega)]

theorem D_Contains (g : List Th) (hg : g.length ≤ 1000000000) (hs : ∀ t ∈ g, t.small) (f : Nat) (c : List AV) (p : Th → Bool) (hf : ∀ t ∈ g, D f ([t.av] ++ c) = some ⟨.bool (p t), false, []⟩) :
    D id_slicesContainsFuncT [.row 4 (gA g), .fn f c] = some ⟨.bool (g.any p), false, []⟩ := by
  refine den_fn (N := 0) (F := slicesContainsFuncT) rfl rfl ?_
  refine (slicesContainsFuncT_eq D _ (gA g) f c).trans ?_
  unfold slicesContainsFuncTr
  obtain ⟨v, h1, h2⟩ := index_loop g hg hs f c p hf (g.length + 1) (g.length + 1) 0 (by omega) (by omega)
  have h3 : D id_slicesIndexFuncT [.row 4 (gA g), .fn f c] = some ⟨.int .i64 v, false, []⟩ := by
    refine den_fn (N := g.length + 1) (F := slicesIndexFuncT) rfl rfl ?_
    refine (slicesIndexFuncT_eq D _ (gA g) f c).trans ?_
    unfold slicesIndexFuncTr
    rw [gA_len]
    exact h2
  rw [h3]
  simp only [Option.bind_some, asI_i]
  refine retB_congr ?_
  rw [List.drop_zero] at h1
  rw [Bool.eq_iff_iff, ← h1, decide_eq_true_eq]

/-- Is it a graph? -/
def validP (g : List Th) : Bool := !g.isEmpty && g.all (rightP g)
theorem D_isoValid (g : List Th) (hg : g.length ≤ 1000000000) (hs : ∀ t ∈ g, t.small) : D id_isoValid [.row 4 (gA g)] = some ⟨.bool (validP g), false, []⟩ := by
  refine den_fn (N := 0) (F := isoValid) rfl rfl ?_
  refine (isoValid_eq D _ (gA g)).trans ?_
  unfold isoValidr
  unfold validP
  rw [gA_len]
  cases hgg : g with
  | nil => rfl
  | cons a r =>
    rw [← hgg, cond_d (by rw [hgg]; simp), D_Contains g hg hs _ _ (fun t => !rightP g t) (fun t ht => D_Valid1 g t hg (hs t ht))]
    simp only [Option.bind_some, asB_b]
    refine retB_congr ?_
    rw [hgg]
    simp only [List.isEmpty_cons, Bool.not_false, Bool.true_and]
    rw [List.all_eq_not_any_not]

end Go.Proofs.YthdefengmkcacaaDoor.Vf
