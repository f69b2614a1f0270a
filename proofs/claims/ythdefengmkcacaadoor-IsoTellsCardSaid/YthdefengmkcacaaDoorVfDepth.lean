
/- How deep a graph is, as a plain function on lists. No condition but sizes. -/
import Derived.Test.YthdefengmkcacaaDoorVfShared
namespace Go.Proofs.YthdefengmkcacaaDoor.Vf
set_option linter.unusedVariables false
set_option linter.unusedSimpArgs false

abbrev DS := List Nat × List Nat
def kidsI (rec : Nat → DS → Bool × DS) (a : Nat) : List Nat → DS → Bool × DS
  | [], s => (true, s)
  | k :: r, s => if (rec k s).1 = true then kidsI rec a r ((rec k s).2.1, (rec k s).2.2.set a (max ((rec k s).2.2.getD a 0) ((rec k s).2.2.getD k 0))) else (false, (rec k s).2)
/-- Depths from a thing on, as they are known: 0 not met, 1 on the way, 2 known. -/
def depI (c : List Th) : Nat → Nat → DS → Bool × DS
  | 0, _, s => (false, s)
  | f + 1, a, s =>
    if s.1.getD a 0 = 1 then (false, s) else if s.1.getD a 0 = 2 then (true, s)
    else if (kidsI (depI c f) a (kd c a) (s.1.set a 1, s.2)).1 = true then
      (true, ((kidsI (depI c f) a (kd c a) (s.1.set a 1, s.2)).2.1.set a 2, if (c.getD a default).kind ≠ 1 then (kidsI (depI c f) a (kd c a) (s.1.set a 1, s.2)).2.2.set a ((kidsI (depI c f) a (kd c a) (s.1.set a 1, s.2)).2.2.getD a 0 + 1) else (kidsI (depI c f) a (kd c a) (s.1.set a 1, s.2)).2.2))
    else (false, (kidsI (depI c f) a (kd c a) (s.1.set a 1, s.2)).2)
structure OkD (c : List Th) (s : DS) : Prop where
  l1 : s.1.length = c.length
  l2 : s.2.length = c.length
  two : ∀ x ∈ s.1, x ≤ 2
  low : ∀ x ∈ s.2, x ≤ s.1.count 2
/-- What is met stays as it is; no more is unmet; no less is known. -/
structure Goes (s s' : DS) : Prop where
  kept : ∀ x, s.1.getD x 0 ≠ 0 → s'.1.getD x 0 = s.1.getD x 0
  zeros : s'.1.count 0 ≤ s.1.count 0
  twos : s.1.count 2 ≤ s'.1.count 2
theorem Goes.refl (s : DS) : Goes s s := ⟨fun _ _ => rfl, Nat.le_refl _, Nat.le_refl _⟩
theorem Goes.trans {a b c : DS} (h : Goes a b) (h' : Goes b c) : Goes a c :=
  ⟨fun x hx => by rw [h'.kept x (by rw [h.kept x hx]; exact hx), h.kept x hx], Nat.le_trans h'.zeros h.zeros, Nat.le_trans h.twos h'.twos⟩
theorem getD_set {l : List Nat} {a v x : Nat} (h : a < l.length) : (l.set a v).getD x 0 = if x = a then v else l.getD x 0 := by
  simp only [List.getD_eq_getElem?_getD, List.getElem?_set]
  by_cases hx : a = x
  · subst hx; simp [h]
  · simp [hx, show ¬ x = a from fun e => hx e.symm]
theorem getD_in {l : List Nat} {a : Nat} (h : a < l.length) : l.getD a 0 ∈ l := by simp [List.getD, h]
theorem mem_set {l : List Nat} {a v x : Nat} (h : x ∈ l.set a v) : x = v ∨ x ∈ l := by
  rcases List.mem_or_eq_of_mem_set h with h | h
  · exact .inr h
  · exact .inl h
theorem count_set' {l : List Nat} {a v b : Nat} (h : a < l.length) : (l.set a v).count b + (if l.getD a 0 = b then 1 else 0) = l.count b + if v = b then 1 else 0 := by
  induction l generalizing a with
  | nil => simp at h
  | cons y r ih =>
    cases a with
    | zero =>
      simp only [List.set_cons_zero, List.count_cons, List.getD_cons_zero, beq_iff_eq]
      split <;> split <;> omega
    | succ a =>
      simp only [List.set_cons_succ, List.count_cons, List.getD_cons_succ]
      have := ih (a := a) (by simpa using h)
      omega
theorem OkD.set2 {c : List Th} {s : DS} (h : OkD c s) {a v : Nat} (hv : v ≤ s.1.count 2) : OkD c (s.1, s.2.set a v) :=
  ⟨h.l1, by simpa using h.l2, h.two, fun x hx => by
    rcases mem_set hx with rfl | hx
    · exact hv
    · exact h.low x hx⟩
theorem low_getD {c : List Th} {s : DS} (h : OkD c s) (k : Nat) : s.2.getD k 0 ≤ s.1.count 2 := by
  by_cases hk : k < s.2.length
  · exact h.low _ (getD_in hk)
  · simp [List.getD, List.getElem?_eq_none (show s.2.length ≤ k by omega)]
theorem kidsI_ok {c : List Th} {f a : Nat} (H : ∀ k s, OkD c s → k < c.length → s.1.count 0 < f → OkD c (depI c f k s).2 ∧ Goes s (depI c f k s).2) : ∀ (ks : List Nat) (s : DS), (∀ k ∈ ks, k < c.length) → OkD c s → s.1.count 0 < f →
    OkD c (kidsI (depI c f) a ks s).2 ∧ Goes s (kidsI (depI c f) a ks s).2
  | [], s, _, h, _ => ⟨h, Goes.refl s⟩
  | k :: r, s, hk, h, hz => by
    obtain ⟨h1, h2⟩ := H k s h (hk k List.mem_cons_self) hz
    simp only [kidsI]
    split
    · have hm : max ((depI c f k s).2.2.getD a 0) ((depI c f k s).2.2.getD k 0) ≤ (depI c f k s).2.1.count 2 := by
        have := low_getD h1 a
        have := low_getD h1 k
        omega
      obtain ⟨g1, g2⟩ := kidsI_ok H r ((depI c f k s).2.1, (depI c f k s).2.2.set a (max ((depI c f k s).2.2.getD a 0) ((depI c f k s).2.2.getD k 0))) (fun q hq => hk q (List.mem_cons_of_mem _ hq)) (h1.set2 hm) (by have := h2.zeros; simp only; omega)
      exact ⟨g1, h2.trans ⟨g2.kept, g2.zeros, g2.twos⟩⟩
    · exact ⟨h1, h2⟩
theorem OkD.now {c : List Th} {s : DS} (h : OkD c s) {a : Nat} (ha : a < c.length) (h0 : s.1.getD a 0 ≠ 1) (h2 : s.1.getD a 0 ≠ 2) : s.1.getD a 0 = 0 ∧ OkD c (s.1.set a 1, s.2) ∧ Goes s (s.1.set a 1, s.2) ∧ (s.1.set a 1).count 0 + 1 = s.1.count 0 := by
  have hl := h.l1
  have hz : s.1.getD a 0 = 0 := by
    have := h.two _ (getD_in (show a < s.1.length by omega))
    omega
  have c0 := count_set' (l := s.1) (a := a) (v := 1) (b := 0) (by omega)
  have c2 := count_set' (l := s.1) (a := a) (v := 1) (b := 2) (by omega)
  rw [hz] at c0 c2
  simp only [if_true, show ¬ (1 : Nat) = 0 from by omega, show ¬ (0 : Nat) = 2 from by omega, show ¬ (1 : Nat) = 2 from by omega, if_false, Nat.add_zero] at c0 c2
  refine ⟨hz, ⟨by simpa using h.l1, h.l2, fun x hx => ?_, fun x hx => by have := h.low x hx; simp only; omega⟩, ⟨fun x hx => ?_, by simp only; omega, by simp only; omega⟩, by omega⟩
  · rcases mem_set hx with rfl | hx
    · omega
    · exact h.two x hx
  · rw [getD_set (by omega)]
    split
    · rename_i e; subst e; exact absurd hz hx
    · rfl
theorem depI_ok {c : List Th} (hc : Fine c) : ∀ (f a : Nat) (s : DS), OkD c s → a < c.length → s.1.count 0 < f → OkD c (depI c f a s).2 ∧ Goes s (depI c f a s).2 := by
  intro f
  induction f with
  | zero => intro a s _ _ h; omega
  | succ f ih =>
    intro a s h ha hz
    simp only [depI]
    by_cases h1 : s.1.getD a 0 = 1
    · rw [if_pos h1]; exact ⟨h, Goes.refl s⟩
    rw [if_neg h1]
    by_cases h2 : s.1.getD a 0 = 2
    · rw [if_pos h2]; exact ⟨h, Goes.refl s⟩
    rw [if_neg h2]
    obtain ⟨hz0, n1, n2, n3⟩ := h.now ha h1 h2
    obtain ⟨g1, g2⟩ := kidsI_ok (a := a) ih (kd c a) (s.1.set a 1, s.2) (kd_in hc ha) n1 (by simp only; omega)
    have g3 := n2.trans g2
    generalize hr : kidsI (depI c f) a (kd c a) (s.1.set a 1, s.2) = r at g1 g2 g3 ⊢
    split
    · have hl := g1.l1
      have h1' : r.2.1.getD a 0 = 1 := by
        have := g2.kept a (by rw [getD_set (by have := h.l1; omega)]; simp)
        rw [this, getD_set (by have := h.l1; omega)]; simp
      have c0 := count_set' (l := r.2.1) (a := a) (v := 2) (b := 0) (by omega)
      have c2 := count_set' (l := r.2.1) (a := a) (v := 2) (b := 2) (by omega)
      rw [h1'] at c0 c2
      simp only [if_true, show ¬ (1 : Nat) = 0 from by omega, show ¬ (2 : Nat) = 0 from by omega, show ¬ (1 : Nat) = 2 from by omega, if_false, Nat.add_zero] at c0 c2
      have hge : Goes s (r.2.1.set a 2, if (c.getD a default).kind ≠ 1 then r.2.2.set a (r.2.2.getD a 0 + 1) else r.2.2) := by
        refine ⟨fun x hx => ?_, by have := g3.zeros; simp only; omega, by have := g3.twos; simp only; omega⟩
        simp only
        rw [getD_set (by omega)]
        split
        · rename_i e; subst e; exact absurd hz0 hx
        · exact g3.kept x hx
      refine ⟨⟨by simpa using g1.l1, ?_, fun x hx => ?_, fun x hx => ?_⟩, hge⟩
      · simp only
        split
        · simpa using g1.l2
        · exact g1.l2
      · rcases mem_set hx with rfl | hx
        · omega
        · exact g1.two x hx
      · simp only at hx ⊢
        have := low_getD g1 a
        split at hx
        · rcases mem_set hx with rfl | hx
          · omega
          · have := g1.low x hx; omega
        · have := g1.low x hx; omega
    · exact ⟨g1, g3⟩

theorem nA_get {l : List Nat} {k : Nat} (h : k < l.length) : (nA l)[k]? = some (.int .i64 ((l.getD k 0 : Nat) : Int)) := by simp [nA, List.getD, h]
theorem nA_set {l : List Nat} {k v : Nat} : (nA l).set k (.int .i64 ((v : Nat) : Int)) = nA (l.set k v) := by unfold nA; rw [List.map_set]
theorem max_int (x y : Nat) : (if ((y : Nat) : Int) > ((x : Nat) : Int) then ((y : Nat) : Int) else ((x : Nat) : Int)) = ((max x y : Nat) : Int) := by
  split <;> omega
theorem count_len {l : List Nat} (b : Nat) : l.count b ≤ l.length := List.count_le_length
theorem beqn (n : Nat) : Nat.beq n n = true := Nat.beq_refl n
def depR (x : Bool × DS) : Option Res := some ⟨.bool x.1, false, [.ref (.row 1 (nA x.2.1)), .ref (.row 1 (nA x.2.2))]⟩
theorem depths_loop (c : List Th) (hc : Fine c) (f : Nat) (H : ∀ k s, OkD c s → k < c.length → s.1.count 0 < f → D id_isoDepths [.row 4 (gA c), .int .i64 ((k : Nat) : Int), .ref (.row 1 (nA s.1)), .ref (.row 1 (nA s.2))] = depR (depI c f k s)) (a : Nat) (ha : a < c.length)
    (ks : List Nat) (hk : ∀ k ∈ ks, k < c.length) (hkl : ks.length ≤ 1000000000) (N : Nat) (k0 : Bool → List AV → List AV → Option Res) (k1 : List AV → Int → Nat → Nat → List AV → List AV → Option Res) : ∀ (n j : Nat) (s : DS), ks.length < j + n → j ≤ ks.length → OkD c s → s.1.count 0 < f →
    isoDepths_L1 D N k0 k1 n (gA c) a c.length c.length (nA ks) ks.length j (nA s.1) (nA s.2) = if (kidsI (depI c f) a (ks.drop j) s).1 = true then k1 (gA c) a c.length c.length (nA (kidsI (depI c f) a (ks.drop j) s).2.1) (nA (kidsI (depI c f) a (ks.drop j) s).2.2) else k0 false (nA (kidsI (depI c f) a (ks.drop j) s).2.1) (nA (kidsI (depI c f) a (ks.drop j) s).2.2) := by
  intro n
  induction n with
  | zero => intro j s h _ _ _; omega
  | succ n ih =>
    intro j s h hj hs hz
    simp only [isoDepths_L1, isoDepths_L1s]
    by_cases hlt : j < ks.length
    · have hkm : ks.getD j 0 < c.length := hk _ (getD_in hlt)
      obtain ⟨o1, o2⟩ := depI_ok hc f (ks.getD j 0) s hs hkm hz
      rw [cond_d (by omega), need_d (by omega)]
      simp only [Int.toNat_natCast]
      rw [get_nA hlt]
      simp only [asI_i]
      rw [nA_len, nA_len, hs.l1, hs.l2, beqn, need_true, need_true]
      obtain ⟨r, hr⟩ : ∃ r, depI c f (ks.getD j 0) s = r := ⟨_, rfl⟩
      have HH := H _ s hs hkm hz
      rw [hr] at o1 o2 HH
      rw [HH]
      have e : ks.drop j = ks.getD j 0 :: ks.drop (j + 1) := by
        rw [List.drop_eq_getElem_cons hlt]; simp [List.getD, hlt]
      rw [e]
      simp only [kidsI, hr, depR, Option.bind_some, asC_c, asRf, asR_r, asN_n, asB_b]
      obtain ⟨b, s'⟩ := r
      simp only at o1 o2 ⊢
      rw [nA_len, nA_len, o1.l1, o1.l2, beqn, need_true, need_true]
      cases b
      · simp only [Bool.not_false, cond_true, Bool.false_eq_true, if_false]
      · simp only [Bool.not_true, cond_false, if_true]
        have hl2 := o1.l2
        rw [need_d2 (by omega) (by omega)]
        simp only [Int.toNat_natCast, Nat.zero_add]
        rw [nA_get (show a < s'.2.length by omega)]
        simp only [Option.bind_some, flat0I, asI_i]
        rw [need_d2 (by omega) (by omega), nA_get (show ks.getD j 0 < s'.2.length by omega)]
        simp only [Option.bind_some, flat0I, asI_i]
        rw [need_d2 (by omega) (by omega), show ∀ (a b : Int) (y : Option Res), needSt (AV.int .i64 a) (AV.int .i64 b) 0 1 y = y from fun _ _ _ => rfl, max_int, nA_set, wrap_i64 (by omega) (by omega), show (j : Int) + 1 = ((j + 1 : Nat) : Int) by omega]
        have hm : max (s'.2.getD a 0) (s'.2.getD (ks.getD j 0) 0) ≤ s'.1.count 2 := by
          have := low_getD o1 a
          have := low_getD o1 (ks.getD j 0)
          omega
        exact ih (j + 1) (s'.1, s'.2.set a (max (s'.2.getD a 0) (s'.2.getD (ks.getD j 0) 0))) (by omega) (by omega) (o1.set2 hm) (by have := o2.zeros; simp only; omega)
    · rw [cond_nd (by omega), List.drop_eq_nil_of_le (by omega)]
      simp only [kidsI, if_true]
theorem D_depths (c : List Th) (hc : Fine c) : ∀ (f a : Nat) (s : DS), OkD c s → a < c.length → s.1.count 0 < f →
    D id_isoDepths [.row 4 (gA c), .int .i64 ((a : Nat) : Int), .ref (.row 1 (nA s.1)), .ref (.row 1 (nA s.2))] = depR (depI c f a s) := by
  have hsz := hc.size
  intro f
  induction f with
  | zero => intro a s _ _ h; omega
  | succ f ih =>
    intro a s h ha hz
    have hl1 := h.l1
    have hl2 := h.l2
    have hkm := kids_cost (getD_mem ha)
    refine den_fn (N := costOf c [] + 1) (F := isoDepths) rfl rfl ?_
    refine (isoDepths_eq D _ (gA c) ((a : Nat) : Int) (nA s.1) (nA s.2)).trans ?_
    unfold isoDepthsr
    rw [nA_len, nA_len, need_d2 (by omega) (by omega)]
    simp only [Int.toNat_natCast, Nat.zero_add]
    rw [nA_get (show a < s.1.length by omega)]
    simp only [Option.bind_some, flat0I, asI_i]
    simp only [depI]
    by_cases h1 : s.1.getD a 0 = 1
    · rw [cond_eq (by omega), if_pos h1]
    rw [cond_ne (by omega), if_neg h1, need_d2 (by omega) (by omega)]
    by_cases h2 : s.1.getD a 0 = 2
    · rw [cond_eq (by omega), if_pos h2]
    rw [cond_ne (by omega), if_neg h2, need_d2 (by omega) (by omega)]
    obtain ⟨hz0, n1, n2, n3⟩ := h.now ha h1 h2
    obtain ⟨g1, g2⟩ := kidsI_ok (a := a) (fun k s h1 h2 h3 => depI_ok hc f k s h1 h2 h3) (kd c a) (s.1.set a 1, s.2) (kd_in hc ha) n1 (by simp only; omega)
    have hkA := kd_iA (hc.kids _ (getD_mem ha))
    have hkl : (kd c a).length = (c.getD a default).kids.length := by simp [kd]
    rw [show ∀ (a b : Int) (y : Option Res), needSt (AV.int .i64 a) (AV.int .i64 b) 0 1 y = y from fun _ _ _ => rfl, need_d (by omega), get_gA ha, asTh, hkA, show (1 : Int) = ((1 : Nat) : Int) from rfl, nA_set, nA_len, hl1, hl2]
    refine (depths_loop c hc f ih a ha (kd c a) (kd_in hc ha) (by omega) _ _ _ _ 0 (s.1.set a 1, s.2) (by omega) (by omega) n1 (by simp only; omega)).trans ?_
    rw [List.drop_zero]
    generalize kidsI (depI c f) a (kd c a) (s.1.set a 1, s.2) = r at g1 g2 ⊢
    obtain ⟨b, s'⟩ := r
    simp only at g1 g2 ⊢
    cases b
    · simp only [Bool.false_eq_true, if_false]
    · simp only [if_true]
      have q1 := g1.l1
      have q2 := g1.l2
      have q3 := low_getD g1 a
      have q4 := @count_len s'.1 2
      rw [need_d (by omega)]
      simp only [Int.toNat_natCast, Nat.zero_add]
      rw [get_gA ha, asTh]
      by_cases hk1 : (c.getD a default).kind = 1
      · rw [cond_beq (by exact hk1), need_d2 (by omega) (by omega), nA_get (show a < s'.1.length by omega)]
        simp only [Option.bind_some]
        rw [show ∀ (a b : Int) (y : Option Res), needSt (AV.int .i64 a) (AV.int .i64 b) 0 1 y = y from fun _ _ _ => rfl, show (2 : Int) = ((2 : Nat) : Int) from rfl, nA_set]
        rw [if_neg (show ¬ (c.getD a default).kind ≠ ((1 : Nat) : Int) from fun h => h hk1)]
      · rw [cond_bne (by exact hk1), need_d2 (by omega) (by omega), nA_get (show a < s'.2.length by omega)]
        simp only [Option.bind_some, flat0I, asI_i]
        rw [need_d2 (by omega) (by omega), show ∀ (a b : Int) (y : Option Res), needSt (AV.int .i64 a) (AV.int .i64 b) 0 1 y = y from fun _ _ _ => rfl, need_d2 (by omega) (by omega), nA_get (show a < s'.1.length by omega)]
        simp only [Option.bind_some]
        rw [show ∀ (a b : Int) (y : Option Res), needSt (AV.int .i64 a) (AV.int .i64 b) 0 1 y = y from fun _ _ _ => rfl, show (2 : Int) = ((2 : Nat) : Int) from rfl, nA_set, wrap_i64 (by omega) (by omega), show ((s'.2.getD a 0 : Nat) : Int) + ((1 : Nat) : Int) = ((s'.2.getD a 0 + 1 : Nat) : Int) by omega, nA_set]
        rw [if_pos (show (c.getD a default).kind ≠ ((1 : Nat) : Int) from hk1)]
/-- How deep; no circle. -/
def zerosD (c : List Th) : DS := (List.replicate c.length 0, List.replicate c.length 0)
def depthL (c : List Th) : Nat × Bool := if (depI c (c.length + 1) 0 (zerosD c)).1 = true then ((depI c (c.length + 1) 0 (zerosD c)).2.2.getD 0 0, true) else (0, false)
theorem zerosD_ok (c : List Th) : OkD c (zerosD c) := ⟨by simp [zerosD], by simp [zerosD], fun x hx => by simp [zerosD] at hx; omega, fun x hx => by simp [zerosD] at hx; omega⟩
theorem D_Depth (g : List Th) (hg : Fine g) (h0 : 0 < g.length) : D id_isoDepth [.row 4 (gA g)] = some ⟨.tup [.int .i64 ((depthL (canonL g)).1 : Nat), .bool (depthL (canonL g)).2], false, []⟩ := by
  have hc := canon_fine hg
  have hs := hc.size
  have hne := canonL_ne h0
  have hok := zerosD_ok (canonL g)
  have hz : (zerosD (canonL g)).1.count 0 < (canonL g).length + 1 := by simp [zerosD]
  obtain ⟨o1, o2⟩ := depI_ok hc ((canonL g).length + 1) 0 (zerosD (canonL g)) hok hne hz
  refine den_fn (N := 0) (F := isoDepth) rfl rfl ?_
  refine (isoDepth_eq D _ (gA g)).trans ?_
  unfold isoDepthr
  rw [D_Canon g hg]
  simp only [Option.bind_some, asR_r]
  rw [gA_len, cond_ne (by omega), need_d2 (by omega) (by omega), need_d2 (by omega) (by omega)]
  simp only [Int.toNat_natCast, List.length_replicate]
  rw [beqn, need_true, need_true]
  have e : List.replicate (canonL g).length (AV.int .i64 0) = nA (List.replicate (canonL g).length 0) := by unfold nA; rw [List.map_replicate]; rfl
  rw [e]
  have hd := D_depths (canonL g) hc ((canonL g).length + 1) 0 (zerosD (canonL g)) hok hne hz
  rw [show ((0 : Nat) : Int) = 0 from rfl] at hd
  rw [show (zerosD (canonL g)).1 = List.replicate (canonL g).length 0 from rfl, show (zerosD (canonL g)).2 = List.replicate (canonL g).length 0 from rfl] at hd
  rw [hd]
  unfold depthL
  generalize depI (canonL g) ((canonL g).length + 1) 0 (zerosD (canonL g)) = r at o1 o2 ⊢
  obtain ⟨b, s'⟩ := r
  simp only at o1 o2 ⊢
  have q2 := o1.l2
  simp only [depR, Option.bind_some, asC_c, asRf, asR_r, asN_n, asB_b]
  rw [nA_len, nA_len, o1.l1, o1.l2, beqn, need_true, need_true]
  cases b
  · simp only [Bool.not_false, cond_true, Bool.false_eq_true, if_false]; rfl
  · simp only [Bool.not_true, cond_false, if_true]
    rw [need_d2 (by omega) (by omega)]
    simp only [Int.toNat_zero, Nat.zero_add]
    rw [nA_get (show 0 < s'.2.length by omega)]
    simp only [Option.bind_some, flat0I, asI_i]
end Go.Proofs.YthdefengmkcacaaDoor.Vf
