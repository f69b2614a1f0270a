
/- A graph whose things are told in another order is the same graph. No condition. -/
import Derived.Test.YtmpjohnbddnehaaDoorVfGood
import Derived.Test.YtmpjohnbddnehaaDoorVfIsoE
namespace Go.Proofs.YtmpjohnbddnehaaDoor.Vf
set_option linter.unusedVariables false
set_option linter.unusedSimpArgs false

/-! Rows and graphs, one for one -/
theorem sameI_loop (a b : List Int) (hl : a.length = b.length) (ha : a.length ≤ 1000000000) (N : Nat) (k0 : Bool → Option Res) (k1 : Option Res) : ∀ (n i : Nat), a.length < i + n → i ≤ a.length →
    keepSameInt_L1 D N k0 k1 n (iA a) (iA b) i = if a.drop i = b.drop i then k1 else k0 false := by
  intro n
  induction n with
  | zero => intro i h _; omega
  | succ n ih =>
    intro i h hi
    simp only [keepSameInt_L1, keepSameInt_L1s]
    rw [iA_len]
    by_cases hlt : i < a.length
    · rw [cond_d (by omega), need_d (by omega)]
      simp only [Int.toNat_natCast]
      rw [get_iA hlt]
      simp only [asI_i]
      rw [need_d (by omega), get_iA (by omega)]
      simp only [asI_i]
      have ea : a.drop i = a.getD i 0 :: a.drop (i + 1) := by rw [List.drop_eq_getElem_cons hlt]; simp [List.getD, hlt]
      have eb : b.drop i = b.getD i 0 :: b.drop (i + 1) := by rw [List.drop_eq_getElem_cons (by omega)]; simp [List.getD, show i < b.length by omega]
      rw [ea, eb]
      by_cases hx : a.getD i 0 = b.getD i 0
      · rw [cond_beq hx, wrap_i64 (by omega) (by omega), show (i : Int) + 1 = ((i + 1 : Nat) : Int) by omega, ih (i + 1) (by omega) (by omega)]
        simp only [hx, List.cons.injEq, true_and]
      · rw [cond_bne hx, if_neg]
        intro e
        exact hx (List.cons.inj e).1
    · rw [cond_nd (by omega), List.drop_eq_nil_of_le (by omega), List.drop_eq_nil_of_le (by omega)]; rfl
theorem D_SameInt (a b : List Int) (ha : a.length ≤ 1000000000) (hb : b.length ≤ 1000000000) : D id_keepSameInt [.row 1 (iA a), .row 1 (iA b)] = some ⟨.bool (decide (a = b)), false, []⟩ := by
  refine den_fn (N := a.length + 1) (F := keepSameInt) rfl rfl ?_
  refine (keepSameInt_eq D _ (iA a) (iA b)).trans ?_
  unfold keepSameIntr
  rw [iA_len, iA_len]
  by_cases hl : a.length = b.length
  · rw [cond_beq (by omega), show (0 : Int) = ((0 : Nat) : Int) from rfl, sameI_loop a b hl ha _ _ _ _ 0 (by omega) (by omega)]
    simp only [List.drop_zero]
    by_cases h : a = b
    · rw [if_pos h]; simp [h]
    · rw [if_neg h]; simp [h]
  · rw [cond_bne (by omega)]
    rw [decide_eq_false (fun e => hl (by rw [e]))]
theorem things_loop (a b : List Th) (hl : a.length = b.length) (ha : a.length ≤ 1000000000) (sa : ∀ t ∈ a, t.small) (sb : ∀ t ∈ b, t.small) (N : Nat) (k0 : Bool → Option Res) (k1 : Option Res) : ∀ (n i : Nat), a.length < i + n → i ≤ a.length →
    keepThings_L1 D N k0 k1 n (gA a) (gA b) a.length i = if a.drop i = b.drop i then k1 else k0 false := by
  intro n
  induction n with
  | zero => intro i h _; omega
  | succ n ih =>
    intro i h hi
    simp only [keepThings_L1, keepThings_L1s]
    by_cases hlt : i < a.length
    · have hltb : i < b.length := by omega
      have ea : a.drop i = a.getD i default :: a.drop (i + 1) := by rw [List.drop_eq_getElem_cons hlt]; simp [List.getD, hlt]
      have eb : b.drop i = b.getD i default :: b.drop (i + 1) := by rw [List.drop_eq_getElem_cons hltb]; simp [List.getD, hltb]
      have ga := getD_mem hlt
      have gb := getD_mem hltb
      have nd : ∀ y : Option Res, need (decide (0 ≤ (i : Int))) y = y := fun y => need_d (by omega)
      rw [cond_d (by omega), ea, eb]
      simp only [nd, Int.toNat_natCast, get_gA hlt, get_gA hltb, asTh]
      have ha' := sa _ ga
      have hb' := sb _ gb
      generalize a.getD i default = x at ha' ⊢
      generalize b.getD i default = y at hb' ⊢
      obtain ⟨k, t, v, q⟩ := x
      obtain ⟨k', t', v', q'⟩ := y
      simp only
      by_cases h1 : k = k'
      · rw [cond_beq h1]
        by_cases h2 : t = t'
        · rw [show (t == t') = true by simpa using h2, Bool.not_true, cond_false]
          by_cases h3 : v = v'
          · rw [show (v == v') = true by simpa using h3, Bool.not_true, cond_false, D_SameInt _ _ ha'.2.2 hb'.2.2]
            simp only [Option.bind_some, asB_b]
            by_cases h4 : q = q'
            · rw [decide_eq_true h4, Bool.not_true, cond_false, wrap_i64 (by omega) (by omega), show (i : Int) + 1 = ((i + 1 : Nat) : Int) by omega, ih (i + 1) (by omega) (by omega)]
              simp [h1, h2, h3, h4]
            · rw [decide_eq_false h4, Bool.not_false, cond_true, if_neg (by simp [h4])]
          · rw [show (v == v') = false by simpa using h3, Bool.not_false, cond_true, if_neg (by simp [h3])]
        · rw [show (t == t') = false by simpa using h2, Bool.not_false, cond_true, if_neg (by simp [h2])]
      · rw [cond_bne h1, if_neg (by simp [h1])]
    · rw [cond_nd (by omega), List.drop_eq_nil_of_le (by omega), List.drop_eq_nil_of_le (by omega)]; rfl
theorem D_Things (a b : List Th) (ha : a.length ≤ 1000000000) (sa : ∀ t ∈ a, t.small) (sb : ∀ t ∈ b, t.small) : D id_keepThings [.row 4 (gA a), .row 4 (gA b)] = some ⟨.bool (decide (a = b)), false, []⟩ := by
  refine den_fn (N := a.length + 1) (F := keepThings) rfl rfl ?_
  refine (keepThings_eq D _ (gA a) (gA b)).trans ?_
  unfold keepThingsr
  rw [gA_len, gA_len]
  by_cases hl : a.length = b.length
  · rw [cond_beq (by omega), show (0 : Int) = ((0 : Nat) : Int) from rfl, things_loop a b hl ha sa sb _ _ _ _ 0 (by omega) (by omega)]
    simp only [List.drop_zero]
    by_cases h : a = b
    · rw [if_pos h]; simp [h]
    · rw [if_neg h]; simp [h]
  · rw [cond_bne (by omega)]
    rw [decide_eq_false (fun e => hl (by rw [e]))]

/-! Small graphs are valid. -/
structure OkT (t : Th) : Prop where
  tag : vtag t.tag = true
  sign : t.tag ≠ [33]
  fit : (t.kind = 1 ∧ t.kids = [] ∧ Lib.validD t.value = true) ∨ ((t.kind = 2 ∨ t.kind = 3) ∧ t.value = [])
theorem pick_all {L : List (List UInt8)} {n : Nat} {P : List UInt8 → Prop} (h : ∀ s ∈ L, P s) (hn : n < L.length) : P (L.getD n []) := by
  apply h; simp [List.getD, hn]
theorem keyT_ok (j : Nat) (hj : j < 26) : OkT (keyT j) := by
  refine ⟨show vtag [33, 33, 115, 116, 114] = true by decide, show ([33, 33, 115, 116, 114] : List UInt8) ≠ [33] by decide, .inl ⟨rfl, rfl, ?_⟩⟩
  have : ∀ k, k < 26 → Lib.validD [UInt8.ofNat (97 + k)] = true := by decide
  exact this j hj
theorem keysN_ok : ∀ (m j : Nat), j + m ≤ 26 → ∀ t ∈ keysN j m, OkT t
  | 0, _, _ => by simp [keysN]
  | m + 1, j, h => by
    intro t ht
    rcases List.mem_cons.1 ht with rfl | ht
    · exact keyT_ok j (by omega)
    · exact keysN_ok m (j + 1) (by omega) t ht
theorem keysN_get : ∀ (m j q : Nat), q < m → (keysN j m).getD q default = keyT (j + q)
  | 0, _, _, h => by omega
  | m + 1, j, 0, _ => rfl
  | m + 1, j, q + 1, h => by
    have := keysN_get m (j + 1) q (by omega)
    simp only [keysN, List.getD_cons_succ]
    rw [this, show j + 1 + q = j + (q + 1) by omega]
theorem thOf_ok (n : Nat) (x : LT) : OkT (thOf n false x) := by
  have hk : kindOf false x = 1 + x.kind % 3 := by unfold kindOf; rw [if_neg (by simp)]
  have hk0 := Int.emod_nonneg x.kind (show (3 : Int) ≠ 0 by omega)
  have hk1 := Int.emod_lt_of_pos x.kind (show (0 : Int) < 3 by omega)
  have m6 := (mod_lt x.tag 6 (by omega)).2
  have m3 := (mod_lt x.tag 3 (by omega)).2
  have m3' : (x.tag % 3).toNat < 3 := m3
  have m6' : (x.tag % 6).toNat < 6 := m6
  have ht : vtag (tag1 (kindOf false x) x) = true ∧ tag1 (kindOf false x) x ≠ [33] := by
    unfold tag1
    split
    · exact pick_all (P := fun s => vtag s = true ∧ s ≠ [33]) (by decide) m6'
    · split
      · exact pick_all (P := fun s => vtag s = true ∧ s ≠ [33]) (by decide) m3'
      · exact pick_all (P := fun s => vtag s = true ∧ s ≠ [33]) (by decide) m3'
  have e2 : tag2 false x (tag1 (kindOf false x) x) = tag1 (kindOf false x) x := by unfold tag2; rw [if_neg (by simp)]
  refine ⟨?_, ?_, ?_⟩
  · simp only [thOf]; rw [e2]; exact ht.1
  · simp only [thOf]; rw [e2]; exact ht.2
  · by_cases h1 : kindOf false x = 1
    · refine .inl ⟨h1, ?_, ?_⟩
      · simp only [thOf, kidsOf]
        rw [if_neg (by simp [h1])]
      · simp only [thOf, val2]
        split
        · decide
        · rename_i h
          cases hv : Lib.validD (val1 (kindOf false x) x)
          · exact absurd ⟨hv, trivial⟩ h
          · rfl
    · refine .inr ⟨by simp only [thOf]; omega, ?_⟩
      simp only [thOf, val1]
      rw [if_neg h1]
      decide
theorem putK_new {l : List Key} {k : Key} (h : k ∉ l) : putK l k = l ++ [k] := by unfold putK; rw [if_neg h]
def upN : Nat → Nat → List Int
  | _, 0 => []
  | n, m + 1 => (n : Int) :: upN (n + 1) m
theorem evens_mix : ∀ (ks : List Int) (n : Nat), evens (mixK n ks) = upN n ks.length
  | [], _ => rfl
  | k :: r, n => by simp only [mixK, evens, List.length_cons, upN, evens_mix r (n + 1)]
theorem keyT_inj {i j : Nat} (hi : i < 100) (hj : j < 100) (h : (keyT i).key = (keyT j).key) : i = j := by
  have h' : UInt8.ofNat (97 + i) = UInt8.ofNat (97 + j) := by simpa [Th.key, keyT] using h
  have := congrArg UInt8.toNat h'
  simp only [UInt8.toNat_ofNat'] at this
  omega
theorem keyed_up (g : List Th) (n0 : Nat) : ∀ (m j : Nat), j + m ≤ 100 → (∀ q, q < m → g.getD (n0 + j + q) default = keyT (j + q)) →
    keyedGo g (upN (n0 + j) m) ((List.range j).map fun q => (keyT q).key) = some ((List.range (j + m)).map fun q => (keyT q).key)
  | 0, _, _, _ => rfl
  | m + 1, j, h, hq => by
    have h0 := hq 0 (by omega)
    simp only [Nat.add_zero] at h0
    simp only [upN, keyedGo, Int.toNat_natCast]
    rw [h0, if_pos (show (keyT j).kind = 1 from rfl), putK_new (by
      intro hm
      obtain ⟨q, hq, e⟩ := List.mem_map.1 hm
      have hq := List.mem_range.1 hq
      have := keyT_inj (by omega) (by omega) e
      omega)]
    have e : ((List.range j).map fun q => (keyT q).key) ++ [(keyT j).key] = (List.range (j + 1)).map fun q => (keyT q).key := by
      rw [List.range_succ, List.map_append]; rfl
    rw [e, show j + (m + 1) = (j + 1) + m by omega, show n0 + j + 1 = n0 + (j + 1) by omega]
    exact keyed_up g n0 m (j + 1) (by omega) fun q hq' => by
      have := hq (q + 1) (by omega)
      rw [show n0 + (j + 1) + q = n0 + j + (q + 1) by omega, show j + 1 + q = j + (q + 1) by omega]
      exact this
theorem evens_map {φ : Int → Int} : ∀ l : List Int, evens (l.map φ) = (evens l).map φ
  | [] => rfl
  | [a] => rfl
  | a :: b :: r => by simp only [List.map_cons, evens, evens_map r]
theorem evens_sub : ∀ (l : List Int), ∀ k ∈ evens l, k ∈ l
  | [], _, h => h
  | [a], _, h => h
  | a :: b :: r, k, h => by
    rcases List.mem_cons.1 h with rfl | h
    · exact List.mem_cons_self
    · exact List.mem_cons_of_mem _ (List.mem_cons_of_mem _ (evens_sub r k h))
theorem keyedGo_map {g h : List Th} {φ : Int → Int} : ∀ (l : List Int) (acc : List Key), (∀ k ∈ l, (h.getD (φ k).toNat default).kind = (g.getD k.toNat default).kind ∧ (h.getD (φ k).toNat default).key = (g.getD k.toNat default).key) → keyedGo h (l.map φ) acc = keyedGo g l acc
  | [], _, _ => rfl
  | k :: r, acc, H => by
    obtain ⟨h1, h2⟩ := H k List.mem_cons_self
    simp only [List.map_cons, keyedGo]
    rw [h1, h2, keyedGo_map r _ fun k hk => H k (List.mem_cons_of_mem _ hk)]
theorem keyedP_map {g h : List Th} {φ : Int → Int} {l : List Int} (H : ∀ k ∈ l, (h.getD (φ k).toNat default).kind = (g.getD k.toNat default).kind ∧ (h.getD (φ k).toNat default).key = (g.getD k.toNat default).key) : keyedP h (l.map φ) = keyedP g l := by
  unfold keyedP
  rw [evens_map, keyedGo_map _ _ fun k hk => H k (evens_sub l k hk), List.length_map]
theorem keyedP_ext {g h : List Th} {l : List Int} (H : ∀ k ∈ l, (h.getD k.toNat default).kind = (g.getD k.toNat default).kind ∧ (h.getD k.toNat default).key = (g.getD k.toNat default).key) : keyedP h l = keyedP g l := by
  have := keyedP_map (φ := id) H
  rw [List.map_id] at this
  exact this
/-- Keys of the mappings told so far. -/
def KeyedAll (g : List Th) (p : Nat → Prop) : Prop := ∀ j, j < g.length → p j → (g.getD j default).kind = 3 → keyedP g (g.getD j default).kids = true
theorem widen_ok {g : List Th} {i : Nat} (hk : (g.getD i default).kids.length ≤ 5) (h : ∀ t ∈ g, OkT t) (hi : i < g.length) : ∀ t ∈ widen g i, OkT t := by
  have hg := h _ (getD_mem hi)
  unfold widen
  split
  · rename_i h3
    intro t ht
    rcases List.mem_or_eq_of_mem_set ht with ht | rfl
    · rcases List.mem_append.1 ht with ht | ht
      · exact h t ht
      · exact keysN_ok _ 0 (by omega) t ht
    · refine ⟨hg.tag, hg.sign, ?_⟩
      rcases hg.fit with f | f
      · have := f.1; omega
      · exact .inr f
  · exact h
theorem widen_keyed {g : List Th} {i n : Nat} (hi : i < n) (hn : n ≤ g.length) (hk : (g.getD i default).kids.length ≤ 5) (hin : ∀ t ∈ g, inG g t.kids) (h : KeyedAll g fun j => j < i ∨ n ≤ j) : KeyedAll (widen g i) fun j => j < i + 1 ∨ n ≤ j := by
  unfold widen
  by_cases h3 : (g.getD i default).kind = 3
  · rw [if_pos h3]
    generalize hm : (g.getD i default).kids.length = m at hk
    have gget : ∀ j, j < g.length → ((g ++ keysN 0 m).set i { g.getD i default with kids := mixK g.length (g.getD i default).kids }).getD j default = if j = i then { g.getD i default with kids := mixK g.length (g.getD i default).kids } else g.getD j default := by
      intro j hj
      rw [List.getD_eq_getElem?_getD, List.getElem?_set]
      by_cases hij : i = j
      · subst hij
        rw [if_pos rfl, if_pos (by rw [List.length_append]; omega), if_pos rfl]; rfl
      · rw [if_neg hij, if_neg (fun e => hij e.symm), List.getElem?_append_left hj, ← List.getD_eq_getElem?_getD]
    have kget : ∀ q, q < m → ((g ++ keysN 0 m).set i { g.getD i default with kids := mixK g.length (g.getD i default).kids }).getD (g.length + q) default = keyT q := by
      intro q hq
      rw [List.getD_eq_getElem?_getD, List.getElem?_set_ne (by omega), List.getElem?_append_right (by omega), ← List.getD_eq_getElem?_getD, show g.length + q - g.length = q by omega, keysN_get m 0 q hq, Nat.zero_add]
    have words : ∀ k, k < g.length → (((g ++ keysN 0 m).set i { g.getD i default with kids := mixK g.length (g.getD i default).kids }).getD k default).kind = (g.getD k default).kind ∧ (((g ++ keysN 0 m).set i { g.getD i default with kids := mixK g.length (g.getD i default).kids }).getD k default).key = (g.getD k default).key := by
      intro k hk
      rw [gget k hk]
      by_cases e : k = i
      · subst e; rw [if_pos rfl]; exact ⟨rfl, rfl⟩
      · rw [if_neg e]; exact ⟨rfl, rfl⟩
    intro j hj hp hj3
    rw [List.length_set, List.length_append, keysN_len] at hj
    by_cases hjg : j < g.length
    · by_cases hji : j = i
      · subst hji
        rw [gget j hjg, if_pos rfl]
        simp only
        generalize (g ++ keysN 0 m).set j { g.getD j default with kids := mixK g.length (g.getD j default).kids } = g' at kget
        unfold keyedP
        rw [evens_mix, hm]
        have := keyed_up g' g.length m 0 (by omega) fun q hq => by rw [Nat.add_zero, Nat.zero_add]; exact kget q hq
        simp only [Nat.add_zero, List.range_zero, List.map_nil, Nat.zero_add] at this
        rw [this]
        simp only [List.length_map, List.length_range, mixK_len, hm, decide_eq_true_eq]
        omega
      · rw [gget j hjg, if_neg hji] at hj3 ⊢
        rw [keyedP_ext (g := g) fun k hk => words k.toNat (by have := hin _ (getD_mem hjg) k hk; omega)]
        exact h j hjg (by omega) hj3
    · have e := kget (j - g.length) (by omega)
      rw [show g.length + (j - g.length) = j by omega] at e
      rw [e] at hj3
      simp [keyT] at hj3
  · rw [if_neg h3]
    intro j hj hp hj3
    by_cases hji : j = i
    · subst hji; exact absurd hj3 h3
    · exact h j hj (by omega) hj3
theorem widenGo_ok (n : Nat) : ∀ (m i : Nat) (g : List Th), i + m = n → n ≤ g.length → (∀ j, i ≤ j → j < n → (g.getD j default).kids.length ≤ 5) → (∀ t ∈ g, GoodT g.length t) → (∀ t ∈ g, OkT t) → KeyedAll g (fun j => j < i ∨ n ≤ j) →
    (∀ t ∈ widenGo m i g, OkT t) ∧ KeyedAll (widenGo m i g) fun _ => True := by
  intro m
  induction m with
  | zero =>
    intro i g hn hl _ _ h1 h2
    exact ⟨h1, fun j hj _ => h2 j hj (by omega)⟩
  | succ m ih =>
    intro i g hn hl hk hgd h1 h2
    have hki := hk i (by omega) (by omega)
    have hw := widen_len g i
    exact ih (i + 1) (widen g i) (by omega) (by omega) (fun j hj hj2 => by
      rw [widen_get g i j (by omega) (by omega)]
      exact hk j (by omega) hj2) (widen_good (by omega) hki hgd) (widen_ok hki h1 (by omega)) (widen_keyed (by omega) hl hki (fun t ht => (hgd t ht).kids) h2)
theorem baseG_ok (l : List LT) : ∀ t ∈ baseG l, OkT t := by
  unfold baseG
  split
  · intro t ht
    simp only [List.mem_singleton] at ht
    subst ht
    exact ⟨by decide, by decide, .inl ⟨rfl, rfl, by decide⟩⟩
  · intro t ht
    obtain ⟨x, _, rfl⟩ := List.mem_map.1 ht
    exact thOf_ok _ x
theorem graph_ok (l : List LT) : (∀ t ∈ graphL l false, OkT t) ∧ KeyedAll (graphL l false) fun _ => True := by
  unfold graphL
  rw [if_neg (by simp)]
  exact widenGo_ok (baseG l).length (baseG l).length 0 (baseG l) (by omega) (Nat.le_refl _) (fun j _ hj => baseG_kids l _ (by simp [List.getD, hj])) (baseG_good l) (baseG_ok l) fun j hj hp => by omega
theorem right_of {g : List Th} {t : Th} (h1 : OkT t) (h2 : inG g t.kids) (h3 : t.kind = 3 → keyedP g t.kids = true) : rightP g t = true := by
  unfold rightP
  have hk : kidsIn g t.kids = true := by
    unfold kidsIn
    rw [List.all_eq_true]
    intro k hk
    have := h2 k hk
    simp [this]
  rw [h1.tag, hk, show (t.tag == [33]) = false by simpa using h1.sign]
  rcases h1.fit with ⟨f1, f2, f3⟩ | ⟨f1, f2⟩
  · simp [f1, f2, f3]
  · rcases f1 with f1 | f1
    · simp [f1, f2]
    · simp [f1, f2, h3 f1]
theorem valid_of {g : List Th} (h0 : 0 < g.length) (h1 : ∀ t ∈ g, OkT t) (h2 : ∀ t ∈ g, inG g t.kids) (h3 : KeyedAll g fun _ => True) : validP g = true := by
  unfold validP
  have e : g.isEmpty = false := by cases g with | nil => simp at h0 | cons _ _ => rfl
  rw [e, Bool.not_false, Bool.true_and, List.all_eq_true]
  intro t ht
  obtain ⟨j, hj, rfl⟩ := List.getElem_of_mem ht
  have e : g.getD j default = g[j] := by simp [List.getD, hj]
  have := h3 j hj trivial
  rw [e] at this
  exact right_of (h1 _ ht) (h2 _ ht) this

/-! Another order -/
def toN (n : Nat) (t : Int) (i : Nat) : Nat := if i = 0 ∨ n < 2 then i else 1 + (i - 1 + (t % ((n : Int) - 1)).toNat) % (n - 1)
theorem rot_is {m x r : Nat} (hx : x < m) (hr : r < m) : (x + r) % m = if x + r < m then x + r else x + r - m := by
  split
  · rename_i h; exact Nat.mod_eq_of_lt h
  · rename_i h
    rw [Nat.mod_eq_sub_mod (by omega)]
    exact Nat.mod_eq_of_lt (by omega)
theorem toN_is {n : Nat} (t : Int) : ∃ r, (r < n - 1 ∨ n < 2) ∧ ∀ i, i < n → toN n t i = if i = 0 ∨ n < 2 then i else if i - 1 + r < n - 1 then i + r else i + r - (n - 1) := by
  refine ⟨(t % ((n : Int) - 1)).toNat, ?_, ?_⟩
  · by_cases h : n < 2
    · exact .inr h
    · have h0 := Int.emod_nonneg t (show (n : Int) - 1 ≠ 0 by omega)
      have h1 := Int.emod_lt_of_pos t (show (0 : Int) < (n : Int) - 1 by omega)
      left; omega
  · intro i hi
    unfold toN
    by_cases h : i = 0 ∨ n < 2
    · rw [if_pos h, if_pos h]
    · rw [if_neg h, if_neg h]
      have h0 := Int.emod_nonneg t (show (n : Int) - 1 ≠ 0 by omega)
      have h1 := Int.emod_lt_of_pos t (show (0 : Int) < (n : Int) - 1 by omega)
      rw [rot_is (by omega) (by omega)]
      split <;> omega
theorem toN_lt {n : Nat} {t : Int} {i : Nat} (hi : i < n) : toN n t i < n := by
  obtain ⟨r, hr, H⟩ := toN_is (n := n) t
  rw [H i hi]
  split
  · exact hi
  · split <;> omega
theorem toN_inj {n : Nat} {t : Int} {i j : Nat} (hi : i < n) (hj : j < n) (h : toN n t i = toN n t j) : i = j := by
  obtain ⟨r, hr, H⟩ := toN_is (n := n) t
  rw [H i hi, H j hj] at h
  by_cases h2 : n < 2
  · omega
  · by_cases hi0 : i = 0 <;> by_cases hj0 : j = 0 <;> simp only [hi0, hj0, h2, or_false, true_or, if_true, if_false] at h ⊢ <;> (repeat' split at h) <;> omega
theorem toN_on {n : Nat} {t : Int} {j : Nat} (hj : j < n) : ∃ i, i < n ∧ toN n t i = j := by
  obtain ⟨r, hr, H⟩ := toN_is (n := n) t
  by_cases h : j = 0 ∨ n < 2
  · exact ⟨j, hj, by rw [H j hj, if_pos h]⟩
  · by_cases hjr : r < j
    · exact ⟨j - r, by omega, by rw [H _ (by omega), if_neg (by omega), if_pos (by omega)]; omega⟩
    · exact ⟨j + (n - 1) - r, by omega, by rw [H _ (by omega), if_neg (by omega), if_neg (by omega)]; omega⟩
theorem D_to (n : Nat) (hn : n ≤ 1000) (t : Int) (i : Nat) (hi : i < n) : D id_law18IsoTurns1 ([.int .i64 (i : Int)] ++ [.cell [.int .i64 (n : Int)], .cell [.int .i64 t]]) = some ⟨.int .i64 ((toN n t i : Nat) : Int), false, []⟩ := by
  refine den_fn (N := 0) (F := law18IsoTurns1) rfl rfl ?_
  refine (law18IsoTurns1_eq D _ i n t).trans ?_
  unfold law18IsoTurns1r
  unfold toN
  by_cases h0 : i = 0
  · rw [cond_eq (by omega), if_pos (.inl h0)]
  · rw [cond_ne (by omega)]
    by_cases h2 : n < 2
    · rw [cond_d (by omega), if_pos (.inr h2)]
    · rw [cond_nd (by omega), if_neg (by omega), wrap_i64 (by omega) (by omega), D_Within _ _ (by omega) (by omega)]
      simp only [Option.bind_some, asI_i]
      have h0' := Int.emod_nonneg t (show (n : Int) - 1 ≠ 0 by omega)
      have h1' := Int.emod_lt_of_pos t (show (0 : Int) < (n : Int) - 1 by omega)
      obtain ⟨r, hr⟩ : ∃ r : Nat, t % ((n : Int) - 1) = r := ⟨(t % ((n : Int) - 1)).toNat, by omega⟩
      rw [hr] at h0' h1' ⊢
      rw [need_nd (by omega), wrap_i64 (x := (i : Int) - 1) (by omega) (by omega), wrap_i64 (x := (i : Int) - 1 + r) (by omega) (by omega)]
      have e : Int.tmod ((i : Int) - 1 + r) ((n : Int) - 1) = (((i - 1 + r) % (n - 1) : Nat) : Int) := by
        rw [show (i : Int) - 1 + r = ((i - 1 + r : Nat) : Int) by omega, show (n : Int) - 1 = ((n - 1 : Nat) : Int) by omega]
        rfl
      have hm := Nat.mod_lt (i - 1 + r) (show 0 < n - 1 by omega)
      rw [e, wrap_i64 (by omega) (by omega), Int.toNat_natCast]
      rw [show (1 : Int) + (((i - 1 + r) % (n - 1) : Nat) : Int) = ((1 + (i - 1 + r) % (n - 1) : Nat) : Int) by omega]
def relT (n : Nat) (t : Int) (x : Th) : Th := { x with kids := x.kids.map fun k => ((toN n t k.toNat : Nat) : Int) }
theorem turn_kids (g : List Th) (n : Nat) (hn : n ≤ 1000) (t : Int) (N : Nat) (hN : 0 < N) (k0 : List AV → Int → Nat → List AV → Nat → Int → Int → Int → List AV → List AV → Int → List UInt8 → List UInt8 → Option Res) (nn : Int) (m : Nat) (a1 a2 a3 : Int) (lg lh : List AV) (kd : Int) (s1 s2 : List UInt8) (ks : List Int) (hk : ks.length ≤ 100000) (hin : ∀ k ∈ ks, 0 ≤ k ∧ k < (n : Int)) : ∀ (f j : Nat) (L : List Int), ks.length < j + f → j ≤ ks.length → L.length ≤ 100000 + j →
    law18IsoTurns_L3 D N k0 f lg nn id_law18IsoTurns1 [.cell [.int .i64 (n : Int)], .cell [.int .i64 t]] m a1 a2 a3 (iA ks) ks.length j lh (iA L) kd s1 s2 = k0 lg nn id_law18IsoTurns1 [.cell [.int .i64 (n : Int)], .cell [.int .i64 t]] m a1 a2 a3 lh (iA (L ++ (ks.drop j).map fun k => ((toN n t k.toNat : Nat) : Int))) kd s1 s2 := by
  intro f
  induction f with
  | zero => intro j L h _ _; omega
  | succ f ih =>
    intro j L h hj hL
    simp only [law18IsoTurns_L3, law18IsoTurns_L3s]
    by_cases hlt : j < ks.length
    · rw [cond_d (by omega)]
      unfold law18IsoTurns_J4
      rw [posN_pos hN, need_d (by omega)]
      simp only [Int.toNat_natCast]
      rw [get_iA hlt]
      simp only [asI_i]
      have hkj := hin (ks.getD j 0) (by simp [List.getD, hlt])
      obtain ⟨k, hk'⟩ : ∃ k : Nat, ks.getD j 0 = k := ⟨(ks.getD j 0).toNat, by omega⟩
      rw [hk'] at hkj ⊢
      rw [D_to n hn t k (by omega)]
      simp only [Option.bind_some, asI_i]
      rw [cut_all, need_d (by rw [iA_len]; simp; omega), wrap_i64 (by omega) (by omega), show (j : Int) + 1 = ((j + 1 : Nat) : Int) by omega]
      rw [show iA L ++ [AV.int .i64 ((toN n t k : Nat) : Int)] = iA (L ++ [((toN n t k : Nat) : Int)]) by rw [iA_app]; rfl]
      rw [ih (j + 1) _ (by omega) (by omega) (by simp; omega), List.drop_eq_getElem_cons hlt, List.map_cons, List.append_assoc]
      have : ks[j] = ((k : Nat) : Int) := by rw [← hk']; simp [List.getD, hlt]
      rw [this]
      rfl
    · rw [cond_nd (by omega), List.drop_eq_nil_of_le (by omega), List.map_nil, List.append_nil]
theorem turn_set (x y : Th) (s1 s2 : List UInt8) (kd : Int) (L : List Int) : AV.agg (putCells x.av.flat 0 (AV.flat (AV.agg [.int .i64 kd, .str s1, .str s2, .row 1 (iA L)]))) = (⟨kd, s1, s2, L⟩ : Th).av := rfl
theorem turn_ns (x : Th) (s1 s2 : List UInt8) (kd : Int) (L : List AV) (y : Option Res) : needSt x.av (AV.agg [.int .i64 kd, .str s1, .str s2, .row 1 L]) 0 4 y = y := rfl
theorem turn_step (g : List Th) (hn : g.length ≤ 1000) (hin : ∀ t ∈ g, inG g t.kids) (hk : ∀ t ∈ g, t.kids.length ≤ 100) (t : Int) (N : Nat) (hN : 200 < N) (k0 : List AV → Int → Nat → List AV → Nat → Int → Int → List AV → Option Res) (i : Nat) (hi : i < g.length) (h : List Th) (hh : h.length = g.length) :
    law18IsoTurns_J2 D N k0 (gA g) g.length id_law18IsoTurns1 [.cell [.int .i64 (g.length : Int)], .cell [.int .i64 t]] g.length g.length i (gA h) = k0 (gA g) g.length id_law18IsoTurns1 [.cell [.int .i64 (g.length : Int)], .cell [.int .i64 t]] g.length g.length ((i + 1 : Nat) : Int) (gA (h.set (toN g.length t i) (relT g.length t (g.getD i default)))) := by
  unfold law18IsoTurns_J2
  rw [posN_pos (by omega)]
  have nd : ∀ y : Option Res, need (decide (0 ≤ (i : Int))) y = y := fun y => need_d (by omega)
  have hx := hk _ (getD_mem hi)
  simp only [nd, Int.toNat_natCast, get_gA hi, asTh, iA_len]
  refine (turn_kids g g.length hn t N (by omega) _ g.length g.length i g.length i (gA g) (gA h) _ _ _ (g.getD i default).kids (by omega) (hin _ (getD_mem hi)) N 0 [] (by omega) (by omega) (by simp)).trans ?_
  have hto := toN_lt (t := t) hi
  rw [D_to g.length hn t i hi, List.drop_zero, List.nil_append]
  simp only [Option.bind_some, asI_i]
  rw [need_d2 (by omega) (by omega)]
  simp only [Int.toNat_natCast, Nat.zero_add]
  rw [get_gA (by omega), cut_all, turn_ns, turn_set _ (g.getD i default), wrap_i64 (by omega) (by omega), show (i : Int) + 1 = ((i + 1 : Nat) : Int) by omega]
  have es : ∀ y : Th, (gA h).set (toN g.length t i) y.av = gA (h.set (toN g.length t i) y) := fun y => by unfold gA; rw [List.map_set]
  rw [es]
  rfl
theorem turn_loop (g : List Th) (hn : g.length ≤ 1000) (hin : ∀ t ∈ g, inG g t.kids) (hk : ∀ t ∈ g, t.kids.length ≤ 100) (t : Int) (N : Nat) (hN : 200 < N) (k0 : List AV → Int → Nat → List AV → Option Res) : ∀ (f i : Nat) (h : List Th), g.length < i + f → i ≤ g.length → h.length = g.length → (∀ j, j < i → h.getD (toN g.length t j) default = relT g.length t (g.getD j default)) →
    ∃ h' : List Th, h'.length = g.length ∧ (∀ j, j < g.length → h'.getD (toN g.length t j) default = relT g.length t (g.getD j default)) ∧
      law18IsoTurns_L1 D N k0 f (gA g) g.length id_law18IsoTurns1 [.cell [.int .i64 (g.length : Int)], .cell [.int .i64 t]] g.length g.length i (gA h) = k0 (gA g) g.length g.length (gA h') := by
  intro f
  induction f with
  | zero => intro i h hf _ _ _; omega
  | succ f ih =>
    intro i h hf hi hh H
    by_cases hlt : i < g.length
    · have hto := toN_lt (t := t) hlt
      obtain ⟨h', e1, e2, e3⟩ := ih (i + 1) (h.set (toN g.length t i) (relT g.length t (g.getD i default))) (by omega) (by omega) (by rw [List.length_set]; exact hh) (fun j hj => by
        rw [List.getD_eq_getElem?_getD, List.getElem?_set]
        by_cases hji : j = i
        · subst hji
          rw [if_pos rfl, if_pos (by omega)]; rfl
        · rw [if_neg (fun e => hji (toN_inj (by omega) hlt e.symm)), ← List.getD_eq_getElem?_getD]
          exact H j (by omega))
      refine ⟨h', e1, e2, ?_⟩
      simp only [law18IsoTurns_L1, law18IsoTurns_L1s]
      rw [cond_d (by omega)]
      exact (turn_step g hn hin hk t N hN _ i hlt h hh).trans e3
    · refine ⟨h, hh, fun j hj => H j (by omega), ?_⟩
      simp only [law18IsoTurns_L1, law18IsoTurns_L1s]
      rw [cond_nd (by omega)]
def seqT : Th := ⟨2, [33, 33, 115, 101, 113], [], [0]⟩
section law
variable {g h : List Th} {t : Int} (hg : Fine g) (h0 : 0 < g.length) (hn : g.length ≤ 900) (hgd : ∀ x ∈ g, GoodT g.length x) (hok : ∀ x ∈ g, OkT x) (hky : KeyedAll g fun _ => True)
  (hh : h.length = g.length) (H : ∀ j, j < g.length → h.getD (toN g.length t j) default = relT g.length t (g.getD j default))
include hh H
theorem turn_all : ∀ x ∈ h, ∃ j, j < g.length ∧ x = relT g.length t (g.getD j default) := by
  intro x hx
  obtain ⟨m, hm, rfl⟩ := List.getElem_of_mem hx
  obtain ⟨j, hj, e⟩ := toN_on (t := t) (show m < g.length by omega)
  refine ⟨j, hj, ?_⟩
  rw [← H j hj, e]
  simp [List.getD, hm]
theorem turn_at (j : Nat) (hj : j < g.length) : (h ++ [seqT]).getD (toN g.length t j) default = relT g.length t (g.getD j default) := by
  have := toN_lt (t := t) hj
  rw [← H j hj, List.getD_eq_getElem?_getD, List.getElem?_append_left (by omega), ← List.getD_eq_getElem?_getD]
include hgd in
theorem turn_good : ∀ x ∈ h ++ [seqT], GoodT (h ++ [seqT]).length x := by
  intro x hx
  rcases List.mem_append.1 hx with hx | hx
  · obtain ⟨j, hj, rfl⟩ := turn_all hh H x hx
    have hx' := hgd _ (getD_mem hj)
    refine ⟨fun k hk => ?_, ?_, hx'.tl, hx'.vl, hx'.kt⟩
    · obtain ⟨q, hq, rfl⟩ := List.mem_map.1 hk
      have hq' := hx'.kids q hq
      have := toN_lt (t := t) (n := g.length) (i := q.toNat) (by omega)
      rw [List.length_append]
      omega
    · simp only [relT, List.length_map]; exact hx'.kl
  · simp only [List.mem_singleton] at hx
    subst hx
    rw [List.length_append]
    refine ⟨fun k hk => ?_, by simp [seqT], by simp [seqT], by simp [seqT], fun _ => by simp [seqT]⟩
    simp only [seqT, List.mem_singleton] at hk
    subst hk
    simp only [List.length_singleton]
    omega
include hgd hok hky in
theorem turn_valid : validP (h ++ [seqT]) = true := by
  have hgood := turn_good hgd hh H
  refine valid_of (by simp) ?_ (fun x hx => (hgood x hx).kids) ?_
  · intro x hx
    rcases List.mem_append.1 hx with hx | hx
    · obtain ⟨j, hj, rfl⟩ := turn_all hh H x hx
      have ho := hok _ (getD_mem hj)
      refine ⟨ho.tag, ho.sign, ?_⟩
      rcases ho.fit with ⟨f1, f2, f3⟩ | f
      · exact .inl ⟨f1, by simp only [relT, f2, List.map_nil], f3⟩
      · exact .inr f
    · simp only [List.mem_singleton] at hx
      subst hx
      exact ⟨by decide, by decide, .inr ⟨.inl rfl, rfl⟩⟩
  · intro m hm _ h3
    by_cases hml : m < h.length
    · obtain ⟨j, hj, e⟩ := toN_on (t := t) (show m < g.length by omega)
      subst e
      rw [turn_at hh H j hj] at h3 ⊢
      show keyedP (h ++ [seqT]) ((g.getD j default).kids.map fun k => ((toN g.length t k.toNat : Nat) : Int)) = true
      rw [keyedP_map (g := g) fun k hk => ?_]
      · exact hky j hj trivial h3
      · have hk' := (hgd _ (getD_mem hj)).kids k hk
        rw [Int.toNat_natCast, turn_at hh H k.toNat (by omega)]
        exact ⟨rfl, rfl⟩
    · rw [List.length_append, List.length_singleton] at hm
      have : (h ++ [seqT]).getD m default = seqT := by
        rw [List.getD_eq_getElem?_getD, List.getElem?_append_right (by omega), show m - h.length = 0 by omega]; rfl
      rw [this] at h3
      simp [seqT] at h3
include hg h0 hn hgd in
theorem turn_canon : canonL (h ++ [seqT]) = canonL g ∧ Fine (h ++ [seqT]) := by
  have hf : Fine (h ++ [seqT]) := fine_good (turn_good hgd hh H) (by rw [List.length_append, List.length_singleton]; omega)
  refine ⟨?_, hf⟩
  have T : Turned g (h ++ [seqT]) (fun i => i < g.length) (toN g.length t) :=
    { root := h0
      root' := by unfold toN; rw [if_pos (.inl rfl)]
      lt := fun _ hi => hi
      lt' := fun i hi => by have := toN_lt (t := t) hi; rw [List.length_append]; omega
      step := fun i hi => kd_in hg hi
      inj := fun i j hi hj e => toN_inj hi hj e
      kids := fun i hi => by
        unfold kd
        rw [turn_at hh H i hi]
        simp only [relT, List.map_map]
        apply List.map_congr_left
        intro k _
        simp }
  exact turned_canon hg hf T fun i hi => by
    rw [turn_at hh H i hi]; exact ⟨rfl, rfl, rfl⟩
end law
theorem D_IsoTurns (l : List LT) (v : Int) : D id_law18IsoTurns [.row 5 (ltA l), .int .i64 v] = some ⟨.bool true, false, []⟩ := by
  have hg := graph_fine l
  have h0 := graph_pos l
  have hgd := (graph_good l).1
  have hlen := (graph_good l).2.2
  obtain ⟨hok, hky⟩ := graph_ok l
  refine den_fn (N := 300) (F := law18IsoTurns) rfl rfl ?_
  refine (law18IsoTurns_eq D _ (ltA l) v).trans ?_
  unfold law18IsoTurnsr
  rw [D_Graph]
  simp only [Option.bind_some, asR_r]
  generalize graphL l false = g at hg h0 hgd hlen hok hky ⊢
  rw [gA_len, wrap_i64 (by omega) (by omega), show (decide (0 ≤ ((g.length : Nat) : Int)) && decide (((g.length : Nat) : Int) ≤ ((g.length : Nat) : Int) + 1) && decide (((g.length : Nat) : Int) + 1 ≤ 1099511627776)) = true by rw [decide_eq_true (by omega), decide_eq_true (by omega), decide_eq_true (by omega)]; rfl, need_true]
  rw [Int.toNat_natCast, show List.replicate g.length (AV.agg [AV.int .i64 0, AV.str [], AV.str [], AV.row 1 []]) = gA (List.replicate g.length ⟨0, [], [], []⟩) by unfold gA; rw [List.map_replicate]; rfl]
  obtain ⟨h, hh, H, e⟩ := turn_loop g (by omega) hg.kids (fun t ht => by have := (hgd t ht).kl; omega) v 300 (by omega) _ 300 0 (List.replicate g.length ⟨0, [], [], []⟩) (by omega) (by omega) (by simp) (fun j hj => by omega)
  refine e.trans ?_
  have eh : ((gA h).drop 0).take g.length = gA h := by rw [List.drop_zero, List.take_of_length_le (by rw [gA_len]; omega)]
  have es : gA h ++ [AV.agg [AV.int .i64 2, AV.str ([33, 33, 115, 101, 113] : List UInt8), AV.str [], AV.row 1 [AV.int .i64 0]]] = gA (h ++ [seqT]) := by unfold gA; rw [List.map_append]; rfl
  obtain ⟨ec, hf⟩ := turn_canon hg h0 (by omega) hgd hh H
  have hv := turn_valid hgd hok hky hh H
  have hc := canon_fine hg
  have hcl := canon_len hg
  have hsz := hg.size
  rw [eh, es, cut_all, need_d (by rw [gA_len, hh]; simp; omega), D_Canon _ hg]
  simp only [Option.bind_some, asR_r]
  rw [D_isoValid _ (by rw [List.length_append]; simp; omega) hf.small, hv]
  simp only [Option.bind_some, asB_b, cond_true]
  rw [D_Same _ _ hg hf, ec]
  simp only [Option.bind_some, asB_b, decide_true, cond_true]
  rw [D_Canon _ hf, ec]
  simp only [Option.bind_some, asR_r]
  rw [D_Things _ _ (by have := hc.size; omega) hc.small hc.small]
  simp only [Option.bind_some, asB_b, decide_true, cond_true]
  rw [D_Canon _ hc, canon_canon hg h0]
  simp only [Option.bind_some, asR_r]
  rw [D_Things _ _ (by have := hc.size; omega) hc.small hc.small]
  simp only [Option.bind_some, asB_b, decide_true, cond_true]
  rw [gA_len, cond_d (by omega), D_wakes18]
  rfl
end Go.Proofs.YtmpjohnbddnehaaDoor.Vf
