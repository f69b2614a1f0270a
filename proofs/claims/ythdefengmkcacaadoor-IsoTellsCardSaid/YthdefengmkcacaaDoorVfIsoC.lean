
/- Graphs: the canonical form and sameness. No condition but sizes. -/
import Derived.Test.YthdefengmkcacaaDoorVfIsoB
namespace Go.Proofs.YthdefengmkcacaaDoor.Vf
set_option linter.unusedVariables false
set_option linter.unusedSimpArgs false

theorem ordGo_inv {g : List Th} (hg : Fine g) : ∀ (n : Nat) (out st : List Nat), out.Nodup → (∀ i ∈ out, i < g.length) → (∀ i ∈ st, i < g.length) → (ordGo g n out st).Nodup ∧ ∀ i ∈ ordGo g n out st, i < g.length
  | 0, out, _, h1, h2, _ => ⟨h1, h2⟩
  | n + 1, out, [], h1, h2, _ => ⟨h1, h2⟩
  | n + 1, out, i :: st, h1, h2, h3 => by
    simp only [ordGo]
    by_cases ho : i ∈ out
    · rw [if_pos ho]; exact ordGo_inv hg n out st h1 h2 fun j hj => h3 j (List.mem_cons_of_mem _ hj)
    · rw [if_neg ho]
      refine ordGo_inv hg n _ _ ?_ ?_ ?_
      · rw [List.nodup_append]
        refine ⟨h1, by simp, ?_⟩
        intro a ha b hb
        simp only [List.mem_singleton] at hb
        subst hb
        rintro rfl
        exact ho ha
      · intro j hj
        rcases List.mem_append.1 hj with hj | hj
        · exact h2 j hj
        · simp only [List.mem_singleton] at hj; subst hj; exact h3 _ List.mem_cons_self
      · intro j hj
        rcases List.mem_append.1 hj with hj | hj
        · exact kd_in hg (h3 i List.mem_cons_self) j hj
        · exact h3 j (List.mem_cons_of_mem _ hj)
theorem orderL_nodup {g : List Th} (hg : Fine g) (h0 : 0 < g.length) : (orderL g).Nodup := (ordGo_inv hg _ [] [0] (by simp) (by simp) (by simpa using h0)).1
theorem orderL_in {g : List Th} (hg : Fine g) (h0 : 0 < g.length) : ∀ i ∈ orderL g, i < g.length := (ordGo_inv hg _ [] [0] (by simp) (by simp) (by simpa using h0)).2
theorem nodup_le : ∀ {l M : List Nat}, l.Nodup → (∀ x ∈ l, x ∈ M) → l.length ≤ M.length
  | [], _, _, _ => Nat.zero_le _
  | a :: r, M, hn, hs => by
    rw [List.nodup_cons] at hn
    have ha : a ∈ M := hs a List.mem_cons_self
    have := nodup_le (l := r) (M := M.erase a) hn.2 fun x hx => by
      have hne : x ≠ a := by rintro rfl; exact hn.1 hx
      exact (List.mem_erase_of_ne hne).2 (hs x (List.mem_cons_of_mem _ hx))
    rw [List.length_erase_of_mem ha] at this
    have : 0 < M.length := List.length_pos_of_mem ha
    simp only [List.length_cons]; omega
theorem orderL_len {g : List Th} (hg : Fine g) (h0 : 0 < g.length) : (orderL g).length ≤ g.length := by
  have := nodup_le (M := List.range g.length) (orderL_nodup hg h0) fun x hx => List.mem_range.2 (orderL_in hg h0 x hx)
  simpa using this

theorem idx_at : ∀ {l : List Nat} {m : Nat} (h : m < l.length), l.Nodup → l.idxOf l[m] = m
  | a :: r, 0, h, hn => by simp
  | a :: r, m + 1, h, hn => by
    rw [List.nodup_cons] at hn
    simp only [List.length_cons] at h
    have hm : r[m]'(by omega) ∈ r := List.getElem_mem _
    have hne : a ≠ r[m]'(by omega) := fun e => hn.1 (by rw [e]; exact hm)
    simp only [List.getElem_cons_succ]
    rw [List.idxOf_cons, show (a == r[m]'(by omega)) = false by simpa using hne, cond_false, idx_at (by omega) hn.2]
/-- A thing's number in the order. -/
def num (l : List Nat) (i : Nat) : Nat := if i ∈ l then l.idxOf i else 0
def numL (g : List Th) (l : List Nat) (m : Nat) : List AV := (List.range g.length).map fun i => AV.int .i64 (((if i ∈ l.take m then l.idxOf i else 0) : Nat) : Int)
theorem numL_set {g : List Th} {l : List Nat} {m : Nat} (hm : m < l.length) (hn : l.Nodup) (hi : l.getD m 0 < g.length) : (numL g l m).set (l.getD m 0) (.int .i64 ((m : Nat) : Int)) = numL g l (m + 1) := by
  have hgd : l.getD m 0 = l[m] := by simp [List.getD, hm]
  apply List.ext_getElem?
  intro j
  unfold numL
  rw [List.getElem?_set]
  simp only [List.length_map, List.length_range]
  have htk : l.take (m + 1) = l.take m ++ [l[m]] := by rw [List.take_succ_eq_append_getElem hm]
  by_cases hj : l.getD m 0 = j
  · rw [if_pos hj, if_pos hi]
    subst hj
    rw [List.getElem?_map, List.getElem?_range hi, htk, hgd]
    simp only [Option.map_some]
    rw [if_pos (show l[m] ∈ l.take m ++ [l[m]] from List.mem_append_right _ (List.mem_singleton.2 rfl)), idx_at hm hn]
  · rw [if_neg hj]
    by_cases hl : j < g.length
    · rw [List.getElem?_map, List.getElem?_map, List.getElem?_range hl]
      simp only [Option.map_some]
      have : (j ∈ l.take (m + 1)) ↔ j ∈ l.take m := by
        rw [htk, List.mem_append, List.mem_singleton]
        constructor
        · rintro (h | h)
          · exact h
          · exact absurd (hgd.trans h.symm) hj
        · exact Or.inl
      simp only [this]
    · rw [List.getElem?_eq_none (by simp; omega), List.getElem?_eq_none (by simp; omega)]
theorem get_nA {α : Type} {l : List Nat} {i : Nat} {f : AV → Option α} (h : i < l.length) : ((nA l)[i]?).bind f = f (.int .i64 ((l.getD i 0 : Nat) : Int)) := by
  simp [nA, List.getD, h]

theorem canon_loop1 (g : List Th) (l : List Nat) (hg : g.length ≤ 1000000000) (hl : l.length ≤ g.length) (hn : l.Nodup) (hin : ∀ i ∈ l, i < g.length) (N : Nat) (k0 : List AV → List AV → Nat → List AV → Option Res) : ∀ (n m : Nat), l.length < m + n → m ≤ l.length →
    isoCanon_L1 D N k0 n (gA g) (nA l) g.length (nA l) l.length m (numL g l m) = k0 (gA g) (nA l) g.length (numL g l l.length) := by
  intro n
  induction n with
  | zero => intro m h _; omega
  | succ n ih =>
    intro m h hm
    simp only [isoCanon_L1, isoCanon_L1s]
    by_cases hlt : m < l.length
    · have hi : l.getD m 0 < g.length := hin _ (by simp [List.getD, hlt])
      rw [cond_d (by omega), need_d (by omega)]
      simp only [Int.toNat_natCast]
      rw [get_nA hlt]
      simp only [asI_i]
      rw [need_d2 (by omega) (by omega)]
      simp only [Int.toNat_natCast, Nat.zero_add]
      have hg2 : (numL g l m)[l.getD m 0]? = some (AV.int .i64 (((if l.getD m 0 ∈ l.take m then l.idxOf (l.getD m 0) else 0) : Nat) : Int)) := by
        unfold numL; rw [List.getElem?_map, List.getElem?_range hi]; rfl
      rw [hg2, Option.bind_some]
      rw [show ∀ (a b : Int) (y : Option Res), needSt (AV.int .i64 a) (AV.int .i64 b) 0 1 y = y from fun _ _ _ => rfl, numL_set hlt hn hi, wrap_i64 (by omega) (by omega), show (m : Int) + 1 = ((m + 1 : Nat) : Int) by omega]
      exact ih (m + 1) (by omega) (by omega)
    · rw [cond_nd (by omega)]
      obtain rfl : m = l.length := by omega
      rfl

/-- A row of kids, of which `m` are numbered. -/
def rowK (l ks : List Nat) (m : Nat) : List Nat := (ks.take m).map (num l) ++ ks.drop m
theorem rowK_set {l ks : List Nat} {m : Nat} (h : m < ks.length) : (nA (rowK l ks m)).set m (.int .i64 ((num l (ks.getD m 0) : Nat) : Int)) = nA (rowK l ks (m + 1)) := by
  have hgd : ks.getD m 0 = ks[m] := by simp [List.getD, h]
  unfold rowK nA
  rw [hgd, List.take_succ_eq_append_getElem h, List.drop_eq_getElem_cons h]
  simp only [List.map_append, List.map_cons, List.map_nil, List.append_assoc, List.cons_append, List.nil_append]
  rw [List.set_append_right _ _ (by simp; omega)]
  simp [List.length_take, Nat.min_eq_left (Nat.le_of_lt h)]
theorem rowK_get {l ks : List Nat} {m : Nat} (h : m < ks.length) : (nA (rowK l ks m))[m]? = some (.int .i64 ((ks.getD m 0 : Nat) : Int)) := by
  unfold rowK nA
  rw [List.getElem?_map, List.getElem?_append_right (by simp; omega)]
  simp [List.length_take, Nat.min_eq_left (Nat.le_of_lt h), List.getD, h]
theorem canon_loop3 (g : List Th) (l ks : List Nat) (hg : g.length ≤ 1000000000) (hk : ks.length ≤ 1000000000) (hin : ∀ i ∈ ks, i < g.length) (N : Nat) (k0 : List AV → Nat → Nat → List AV → Int → Int → List AV → List AV → List AV → Int → List UInt8 → List UInt8 → Nat → Option Res)
    (n8 : Nat) (l28 : List AV) (i15 i16 : Int) (l29 : List AV) (kk : Int) (s5 s6 : List UInt8) : ∀ (n m : Nat), ks.length < m + n → m ≤ ks.length →
    isoCanon_L3 D N k0 n (gA g) g.length n8 l28 i15 i16 ks.length ks.length m l29 (numL g l l.length) (nA (rowK l ks m)) kk s5 s6 ks.length = k0 (gA g) g.length n8 l28 i15 i16 l29 (numL g l l.length) (nA (ks.map (num l))) kk s5 s6 ks.length := by
  intro n
  induction n with
  | zero => intro m h _; omega
  | succ n ih =>
    intro m h hm
    simp only [isoCanon_L3, isoCanon_L3s]
    by_cases hlt : m < ks.length
    · have hi : ks.getD m 0 < g.length := hin _ (by simp [List.getD, hlt])
      rw [cond_d (by omega), need_d2 (by omega) (by omega)]
      simp only [Int.toNat_natCast, Nat.zero_add]
      rw [rowK_get hlt]
      simp only [Option.bind_some, flat0I, asI_i, Int.toNat_natCast]
      rw [need_d2 (by omega) (by omega)]
      have hg2 : (numL g l l.length)[ks.getD m 0]? = some (AV.int .i64 ((num l (ks.getD m 0) : Nat) : Int)) := by
        unfold numL num; rw [List.getElem?_map, List.getElem?_range hi, List.take_length]; rfl
      rw [hg2]
      simp only [Option.bind_some, flat0I, asI_i, Int.toNat_natCast]
      rw [need_d2 (by omega) (by omega)]
      rw [show ∀ (a b : Int) (y : Option Res), needSt (AV.int .i64 a) (AV.int .i64 b) 0 1 y = y from fun _ _ _ => rfl, rowK_set hlt, wrap_i64 (by omega) (by omega), show (m : Int) + 1 = ((m + 1 : Nat) : Int) by omega]
      exact ih (m + 1) (by omega) (by omega)
    · rw [cond_nd (by omega)]
      obtain rfl : m = ks.length := by omega
      rw [show rowK l ks ks.length = ks.map (num l) by unfold rowK; simp]

def canT (g : List Th) (l : List Nat) (i : Nat) : Th := { kind := (g.getD i default).kind, tag := (g.getD i default).tag, value := (g.getD i default).value, kids := (kd g i).map fun k => ((num l k : Nat) : Int) }
def canonL (g : List Th) : List Th := if g.length = 0 then [] else (orderL g).map (canT g (orderL g))
theorem canT_av (g : List Th) (l : List Nat) (i : Nat) : (canT g l i).av = .agg [.int .i64 (g.getD i default).kind, .str (g.getD i default).tag, .str (g.getD i default).value, .row 1 (nA ((kd g i).map (num l)))] := by
  unfold canT Th.av iA nA
  simp only [List.map_map]
  rfl

theorem canon_loop2 (g : List Th) (hg : Fine g) (l : List Nat) (hl : l.length ≤ g.length) (hin : ∀ i ∈ l, i < g.length) (N : Nat) (hN : ∀ i, i < g.length → (kd g i).length < N) (k0 : List AV → Option Res) : ∀ (n m : Nat), l.length < m + n → m ≤ l.length →
    isoCanon_L2 D N k0 n (gA g) g.length (nA l) l.length m (gA ((l.take m).map (canT g l))) (numL g l l.length) = k0 (gA (l.map (canT g l))) := by
  have hs := hg.size
  intro n
  induction n with
  | zero => intro m h _; omega
  | succ n ih =>
    intro m h hm
    simp only [isoCanon_L2, isoCanon_L2s]
    by_cases hlt : m < l.length
    · have hi : l.getD m 0 < g.length := hin _ (by simp [List.getD, hlt])
      have hkA := kd_iA (hg.kids _ (getD_mem hi))
      have hsm := (hg.small _ (getD_mem hi)).2.2
      have hkl : (kd g (l.getD m 0)).length ≤ 1000000000 := by unfold kd; rw [List.length_map]; exact hsm
      rw [cond_d (by omega), need_d (by omega)]
      simp only [Int.toNat_natCast]
      rw [get_nA hlt]
      simp only [asI_i]
      rw [need_d (by omega)]
      simp only [Int.toNat_natCast]
      rw [get_gA hi, asTh, hkA, D_Clone _ (by rw [nA_len]; exact hkl)]
      simp only [Option.bind_some, asR_r, need_true]
      rw [nA_len]
      have h3 := canon_loop3 g l (kd g (l.getD m 0)) (by omega) hkl (kd_in hg hi) N (fun l42 n17 n18 l43 i28 i29 l44 l45 l46 i30 s11 s12 n19 =>
          need (decide (((l44.drop 0).take n18).length + [AV.agg [AV.int .i64 i30, AV.str s11, AV.str s12, AV.row 1 ((l46.drop 0).take n19)]].length ≤ 1099511627776)) <|
          isoCanon_L2 D N k0 n l42 n17 l43 i28 (IntKind.i64.wrap (i29 + 1)) (((l44.drop 0).take n18) ++ [AV.agg [AV.int .i64 i30, AV.str s11, AV.str s12, AV.row 1 ((l46.drop 0).take n19)]]) l45)
        (gA ((l.take m).map (canT g l))).length (nA l) l.length m (gA ((l.take m).map (canT g l))) (g.getD (l.getD m 0) default).kind (g.getD (l.getD m 0) default).tag (g.getD (l.getD m 0) default).value N 0 (by have := hN _ hi; omega) (by omega)
      rw [show nA (rowK l (kd g (l.getD m 0)) 0) = nA (kd g (l.getD m 0)) by unfold rowK; simp] at h3
      refine h3.trans ?_
      have ev : AV.row 1 (((nA ((kd g (l.getD m 0)).map (num l))).drop 0).take (kd g (l.getD m 0)).length) = .row 1 (nA ((kd g (l.getD m 0)).map (num l))) := by
        rw [List.drop_zero, List.take_of_length_le (by rw [nA_len]; simp)]
      rw [ev, ← canT_av, List.drop_zero, List.take_length, need_d (by rw [gA_len]; simp; omega), wrap_i64 (by omega) (by omega), show (m : Int) + 1 = ((m + 1 : Nat) : Int) by omega]
      have e2 : gA ((l.take m).map (canT g l)) ++ [(canT g l (l.getD m 0)).av] = gA ((l.take (m + 1)).map (canT g l)) := by
        rw [List.take_succ_eq_append_getElem hlt, show l.getD m 0 = l[m] by simp [List.getD, hlt]]
        simp only [gA, List.map_append, List.map_cons, List.map_nil]
      rw [e2]
      exact ih (m + 1) (by omega) (by omega)
    · rw [cond_nd (by omega)]
      obtain rfl : m = l.length := by omega
      rw [List.take_length]

theorem kd_lt {g : List Th} {i : Nat} (hi : i < g.length) : (kd g i).length ≤ costOf g [] := by
  have h := sum_drop (f := fun j => (kd g j).length) (i := i) List.nodup_range (List.mem_range.2 hi)
  have e : costOf g [] = ((List.range g.length).map fun j => (kd g j).length).sum := by
    unfold costOf; simp
  rw [e]; omega
theorem D_Canon (g : List Th) (hg : Fine g) : D id_isoCanon [.row 4 (gA g)] = some ⟨.row 4 (gA (canonL g)), true, []⟩ := by
  have hs := hg.size
  refine den_fn (N := g.length + costOf g [] + 1) (F := isoCanon) rfl rfl ?_
  refine (isoCanon_eq D _ (gA g)).trans ?_
  unfold isoCanonr canonL
  rw [gA_len]
  by_cases h0 : g.length = 0
  · rw [cond_eq (by omega), if_pos h0]; rfl
  · have hpos : 0 < g.length := by omega
    have hln := orderL_len hg hpos
    have hin := orderL_in hg hpos
    rw [cond_ne (by omega), if_neg h0, D_order g hg hpos]
    simp only [Option.bind_some, asR_r]
    rw [need_d2 (by omega) (by omega)]
    simp only [Int.toNat_natCast]
    have e : List.replicate g.length (AV.int .i64 0) = numL g (orderL g) 0 := by
      unfold numL
      apply List.ext_getElem?
      intro j
      by_cases hj : j < g.length
      · simp [List.getElem?_range hj, hj]
      · rw [List.getElem?_eq_none (by simp; omega), List.getElem?_eq_none (by simp; omega)]
    rw [e, nA_len]
    refine (canon_loop1 g (orderL g) (by omega) hln (orderL_nodup hg hpos) hin _ _ _ 0 (by omega) (by omega)).trans ?_
    rw [nA_len]
    refine (canon_loop2 g hg (orderL g) hln hin _ (fun i hi => by have := kd_lt (g := g) hi; omega) (fun l49 => some ⟨AV.row 4 ((l49.drop 0).take l49.length), true, []⟩) _ 0 (by omega) (by omega)).trans ?_
    rw [List.drop_zero, List.take_length]

theorem equalI_loop (a b : List Int) (hl : a.length = b.length) (ha : a.length ≤ 1000000000) (N : Nat) (k0 : Bool → Option Res) (k1 : Option Res) : ∀ (n i : Nat), a.length < i + n → i ≤ a.length →
    slicesEqualIntInt_L1 D N k0 k1 n (iA a) (iA b) a.length i = if a.drop i = b.drop i then k1 else k0 false := by
  intro n
  induction n with
  | zero => intro i h _; omega
  | succ n ih =>
    intro i h hi
    simp only [slicesEqualIntInt_L1, slicesEqualIntInt_L1s]
    by_cases hlt : i < a.length
    · rw [cond_d (by omega), need_d (by omega)]
      simp only [Int.toNat_natCast]
      rw [get_iA hlt]
      simp only [asI_i]
      rw [need_d (by omega), get_iA (by omega)]
      simp only [asI_i]
      have ea : a.drop i = a.getD i 0 :: a.drop (i + 1) := by rw [List.drop_eq_getElem_cons hlt]; simp [List.getD, hlt]
      have eb : b.drop i = b.getD i 0 :: b.drop (i + 1) := by rw [List.drop_eq_getElem_cons (by omega)]; simp [List.getD, show i < b.length by omega]
      rw [ea, eb]
      by_cases hx : a.getD i 0 = b.getD i 0
      · rw [cond_beq hx, wrap_i64 (by omega) (by omega), show (i : Int) + 1 = ((i + 1 : Nat) : Int) by omega, ih (i + 1) (by omega) (by omega)]
        simp only [hx, List.cons.injEq, true_and]
      · rw [cond_bne hx, if_neg]
        intro e
        exact hx (List.cons.inj e).1
    · rw [cond_nd (by omega), List.drop_eq_nil_of_le (by omega), List.drop_eq_nil_of_le (by omega)]; rfl
theorem D_EqualI (a b : List Int) (ha : a.length ≤ 1000000000) (hb : b.length ≤ 1000000000) : D id_slicesEqualIntInt [.row 1 (iA a), .row 1 (iA b)] = some ⟨.bool (decide (a = b)), false, []⟩ := by
  refine den_fn (N := a.length + 1) (F := slicesEqualIntInt) rfl rfl ?_
  refine (slicesEqualIntInt_eq D _ (iA a) (iA b)).trans ?_
  unfold slicesEqualIntIntr
  rw [iA_len, iA_len]
  by_cases hl : a.length = b.length
  · rw [cond_beq (by omega), show (0 : Int) = ((0 : Nat) : Int) from rfl, equalI_loop a b hl ha _ _ _ _ 0 (by omega) (by omega)]
    simp only [List.drop_zero]
    by_cases h : a = b
    · rw [if_pos h]; simp [h]
    · rw [if_neg h]; simp [h]
  · rw [cond_bne (by omega)]
    rw [decide_eq_false (fun e => hl (by rw [e]))]

theorem D_Same1 (x y : Th) (hx : x.small) (hy : y.small) : D id_isoSame1 ([x.av, y.av] ++ []) = some ⟨.bool (decide (x = y)), false, []⟩ := by
  refine den_fn (N := 0) (F := isoSame1) rfl rfl ?_
  refine (isoSame1_eq D _ x.kind x.tag x.value (iA x.kids) y.kind y.tag y.value (iA y.kids)).trans ?_
  unfold isoSame1r
  obtain ⟨k, t, v, q⟩ := x
  obtain ⟨k', t', v', q'⟩ := y
  simp only
  by_cases h1 : k = k'
  · rw [cond_eq h1]
    by_cases h2 : t = t'
    · rw [show (t == t') = true by simpa using h2, cond_true]
      by_cases h3 : v = v'
      · rw [show (v == v') = true by simpa using h3, cond_true, D_EqualI _ _ hx.2.2 hy.2.2]
        simp only [Option.bind_some, asB_b]
        refine retB_congr ?_
        rw [Bool.eq_iff_iff]; simp [h1, h2, h3]
      · rw [show (v == v') = false by simpa using h3, cond_false]
        refine retB_congr ?_
        rw [Bool.eq_iff_iff]; simp [h3]
    · rw [show (t == t') = false by simpa using h2, cond_false]
      refine retB_congr ?_
      rw [Bool.eq_iff_iff]; simp [h2]
  · rw [cond_ne h1]
    refine retB_congr ?_
    rw [Bool.eq_iff_iff]; simp [h1]

theorem equalF_loop (a b : List Th) (hl : a.length = b.length) (ha : a.length ≤ 1000000000) (hsa : ∀ t ∈ a, t.small) (hsb : ∀ t ∈ b, t.small) (N : Nat) (k0 : Bool → Option Res) (k1 : Option Res) : ∀ (n i : Nat), a.length < i + n → i ≤ a.length →
    slicesEqualFuncT_L1 D N k0 k1 n (gA b) id_isoSame1 [] (gA a) a.length i = if a.drop i = b.drop i then k1 else k0 false := by
  intro n
  induction n with
  | zero => intro i h _; omega
  | succ n ih =>
    intro i h hi
    simp only [slicesEqualFuncT_L1, slicesEqualFuncT_L1s]
    by_cases hlt : i < a.length
    · rw [cond_d (by omega), need_d (by omega)]
      simp only [Int.toNat_natCast]
      rw [get_gA hlt, asTh, need_d (by omega), get_gA (by omega), asTh]
      rw [show ∀ t : Th, AV.agg [.int .i64 t.kind, .str t.tag, .str t.value, .row 1 (iA t.kids)] = t.av from fun _ => rfl, show ∀ t : Th, AV.agg [.int .i64 t.kind, .str t.tag, .str t.value, .row 1 (iA t.kids)] = t.av from fun _ => rfl, D_Same1 _ _ (hsa _ (getD_mem hlt)) (hsb _ (getD_mem (by omega)))]
      simp only [Option.bind_some, asB_b]
      have ea : a.drop i = a.getD i default :: a.drop (i + 1) := by rw [List.drop_eq_getElem_cons hlt]; simp [List.getD, hlt]
      have eb : b.drop i = b.getD i default :: b.drop (i + 1) := by rw [List.drop_eq_getElem_cons (by omega)]; simp [List.getD, show i < b.length by omega]
      rw [ea, eb]
      by_cases hx : a.getD i default = b.getD i default
      · rw [decide_eq_true hx]
        simp only [Bool.not_true, cond_false]
        rw [wrap_i64 (by omega) (by omega), show (i : Int) + 1 = ((i + 1 : Nat) : Int) by omega, ih (i + 1) (by omega) (by omega)]
        simp only [hx, List.cons.injEq, true_and]
      · rw [decide_eq_false hx]
        simp only [Bool.not_false, cond_true]
        rw [if_neg]
        intro e
        exact hx (List.cons.inj e).1
    · rw [cond_nd (by omega), List.drop_eq_nil_of_le (by omega), List.drop_eq_nil_of_le (by omega)]; rfl
theorem canon_small {g : List Th} (hg : Fine g) : ∀ t ∈ canonL g, t.small := by
  intro t ht
  unfold canonL at ht
  by_cases h0 : g.length = 0
  · rw [if_pos h0] at ht; cases ht
  · rw [if_neg h0] at ht
    obtain ⟨i, hi, rfl⟩ := List.mem_map.1 ht
    have hi2 := orderL_in hg (by omega) i hi
    obtain ⟨h1, h2, h3⟩ := hg.small _ (getD_mem hi2)
    refine ⟨h1, h2, ?_⟩
    unfold canT kd
    simpa using h3
theorem canon_len {g : List Th} (hg : Fine g) : (canonL g).length ≤ g.length := by
  unfold canonL
  by_cases h0 : g.length = 0
  · rw [if_pos h0]; exact Nat.zero_le _
  · rw [if_neg h0, List.length_map]; exact orderL_len hg (by omega)
theorem D_Same (a b : List Th) (ha : Fine a) (hb : Fine b) : D id_isoSame [.row 4 (gA a), .row 4 (gA b)] = some ⟨.bool (decide (canonL a = canonL b)), false, []⟩ := by
  have hsa := ha.size
  have hsb := hb.size
  have la := canon_len ha
  have lb := canon_len hb
  refine den_fn (N := 0) (F := isoSame) rfl rfl ?_
  refine (isoSame_eq D _ (gA a) (gA b)).trans ?_
  unfold isoSamer
  rw [D_Canon a ha]
  simp only [Option.bind_some, asR_r]
  rw [D_Canon b hb]
  simp only [Option.bind_some, asR_r]
  have h3 : D id_slicesEqualFuncT [.row 4 (gA (canonL a)), .row 4 (gA (canonL b)), .fn id_isoSame1 []] = some ⟨.bool (decide (canonL a = canonL b)), false, []⟩ := by
    refine den_fn (N := (canonL a).length + 1) (F := slicesEqualFuncT) rfl rfl ?_
    refine (slicesEqualFuncT_eq D _ (gA (canonL a)) (gA (canonL b)) id_isoSame1 []).trans ?_
    unfold slicesEqualFuncTr
    rw [gA_len, gA_len]
    by_cases hl : (canonL a).length = (canonL b).length
    · rw [cond_beq (by omega), show (0 : Int) = ((0 : Nat) : Int) from rfl, equalF_loop _ _ hl (by omega) (canon_small ha) (canon_small hb) _ _ _ _ 0 (by omega) (by omega)]
      simp only [List.drop_zero]
      by_cases h : canonL a = canonL b
      · rw [if_pos h, decide_eq_true h]
      · rw [if_neg h, decide_eq_false h]
    · rw [cond_bne (by omega)]
      rw [decide_eq_false (fun e => hl (by rw [e]))]
  rw [h3]
  simp only [Option.bind_some, asB_b]

end Go.Proofs.YthdefengmkcacaaDoor.Vf
