
/- How deep a graph is, as a plain function on lists. No condition but sizes. -/
import Derived.Test.YtmpjohnbddnehaaDoorVfShared
namespace Go.Proofs.YtmpjohnbddnehaaDoor.Vf
set_option linter.unusedVariables false
set_option linter.unusedSimpArgs false

abbrev DS := List Nat × List Nat
def kidsI (rec : Nat → DS → Bool × DS) (a : Nat) : List Nat → DS → Bool × DS
  | [], s => (true, s)
  | k :: r, s => if (rec k s).1 = true then kidsI rec a r ((rec k s).2.1, (rec k s).2.2.set a (max ((rec k s).2.2.getD a 0) ((rec k s).2.2.getD k 0))) else (false, (rec k s).2)
/-- Depths from a thing on, as they are known: 0 not met, 1 on the way, 2 known. -/
def depI (c : List Th) : Nat → Nat → DS → Bool × DS
  | 0, _, s => (false, s)
  | f + 1, a, s =>
    if s.1.getD a 0 = 1 then (false, s) else if s.1.getD a 0 = 2 then (true, s)
    else if (kidsI (depI c f) a (kd c a) (s.1.set a 1, s.2)).1 = true then
      (true, ((kidsI (depI c f) a (kd c a) (s.1.set a 1, s.2)).2.1.set a 2, if (c.getD a default).kind ≠ 1 then (kidsI (depI c f) a (kd c a) (s.1.set a 1, s.2)).2.2.set a ((kidsI (depI c f) a (kd c a) (s.1.set a 1, s.2)).2.2.getD a 0 + 1) else (kidsI (depI c f) a (kd c a) (s.1.set a 1, s.2)).2.2))
    else (false, (kidsI (depI c f) a (kd c a) (s.1.set a 1, s.2)).2)
structure OkD (c : List Th) (s : DS) : Prop where
  l1 : s.1.length = c.length
  l2 : s.2.length = c.length
  two : ∀ x ∈ s.1, x ≤ 2
  low : ∀ x ∈ s.2, x ≤ s.1.count 2
/-- What is met stays as it is; no more is unmet; no less is known. -/
structure Goes (s s' : DS) : Prop where
  kept : ∀ x, s.1.getD x 0 ≠ 0 → s'.1.getD x 0 = s.1.getD x 0
  zeros : s'.1.count 0 ≤ s.1.count 0
  twos : s.1.count 2 ≤ s'.1.count 2
theorem Goes.refl (s : DS) : Goes s s := ⟨fun _ _ => rfl, Nat.le_refl _, Nat.le_refl _⟩
theorem Goes.trans {a b c : DS} (h : Goes a b) (h' : Goes b c) : Goes a c :=
  ⟨fun x hx => by rw [h'.kept x (by rw [h.kept x hx]; exact hx), h.kept x hx], Nat.le_trans h'.zeros h.zeros, Nat.le_trans h.twos h'.twos⟩
theorem getD_set {l : List Nat} {a v x : Nat} (h : a < l.length) : (l.set a v).getD x 0 = if x = a then v else l.getD x 0 := by
  simp only [List.getD_eq_getElem?_getD, List.getElem?_set]
  by_cases hx : a = x
  · subst hx; simp [h]
  · simp [hx, show ¬ x = a from fun e => hx e.symm]
theorem getD_in {l : List Nat} {a : Nat} (h : a < l.length) : l.getD a 0 ∈ l := by simp [List.getD, h]
theorem mem_set {l : List Nat} {a v x : Nat} (h : x ∈ l.set a v) : x = v ∨ x ∈ l := by
  rcases List.mem_or_eq_of_mem_set h with h | h
  · exact .inr h
  · exact .inl h
theorem count_set' {l : List Nat} {a v b : Nat} (h : a < l.length) : (l.set a v).count b + (if l.getD a 0 = b then 1 else 0) = l.count b + if v = b then 1 else 0 := by
  induction l generalizing a with
  | nil => simp at h
  | cons y r ih =>
    cases a with
    | zero =>
      simp only [List.set_cons_zero, List.count_cons, List.getD_cons_zero, beq_iff_eq]
      split <;> split <;> omega
    | succ a =>
      simp only [List.set_cons_succ, List.count_cons, List.getD_cons_succ]
      have := ih (a := a) (by simpa using h)
      omega
theorem OkD.set2 {c : List Th} {s : DS} (h : OkD c s) {a v : Nat} (hv : v ≤ s.1.count 2) : OkD c (s.1, s.2.set a v) :=
  ⟨h.l1, by simpa using h.l2, h.two, fun x hx => by
    rcases mem_set hx with rfl | hx
    · exact hv
    · exact h.low x hx⟩
theorem low_getD {c : List Th} {s : DS} (h : OkD c s) (k : Nat) : s.2.getD k 0 ≤ s.1.count 2 := by
  by_cases hk : k < s.2.length
  · exact h.low _ (getD_in hk)
  · simp [List.getD, List.getElem?_eq_none (show s.2.length ≤ k by omega)]
theorem kidsI_ok {c : List Th} {f a : Nat} (H : ∀ k s, OkD c s → k < c.length → s.1.count 0 < f → OkD c (depI c f k s).2 ∧ Goes s (depI c f k s).2) : ∀ (ks : List Nat) (s : DS), (∀ k ∈ ks, k < c.length) → OkD c s → s.1.count 0 < f →
    OkD c (kidsI (depI c f) a ks s).2 ∧ Goes s (kidsI (depI c f) a ks s).2
  | [], s, _, h, _ => ⟨h, Goes.refl s⟩
  | k :: r, s, hk, h, hz => by
    obtain ⟨h1, h2⟩ := H k s h (hk k List.mem_cons_self) hz
    simp only [kidsI]
    split
    · have hm : max ((depI c f k s).2.2.getD a 0) ((depI c f k s).2.2.getD k 0) ≤ (depI c f k s).2.1.count 2 := by
        have := low_getD h1 a
        have := low_getD h1 k
        omega
      obtain ⟨g1, g2⟩ := kidsI_ok H r ((depI c f k s).2.1, (depI c f k s).2.2.set a (max ((depI c f k s).2.2.getD a 0) ((depI c f k s).2.2.getD k 0))) (fun q hq => hk q (List.mem_cons_of_mem _ hq)) (h1.set2 hm) (by have := h2.zeros; simp only; omega)
      exact ⟨g1, h2.trans ⟨g2.kept, g2.zeros, g2.twos⟩⟩
    · exact ⟨h1, h2⟩
theorem OkD.now {c : List Th} {s : DS} (h : OkD c s) {a : Nat} (ha : a < c.length) (h0 : s.1.getD a 0 ≠ 1) (h2 : s.1.getD a 0 ≠ 2) : s.1.getD a 0 = 0 ∧ OkD c (s.1.set a 1, s.2) ∧ Goes s (s.1.set a 1, s.2) ∧ (s.1.set a 1).count 0 + 1 = s.1.count 0 := by
  have hl := h.l1
  have hz : s.1.getD a 0 = 0 := by
    have := h.two _ (getD_in (show a < s.1.length by omega))
    omega
  have c0 := count_set' (l := s.1) (a := a) (v := 1) (b := 0) (by omega)
  have c2 := count_set' (l := s.1) (a := a) (v := 1) (b := 2) (by omega)
  rw [hz] at c0 c2
  simp only [if_true, show ¬ (1 : Nat) = 0 from by omega, show ¬ (0 : Nat) = 2 from by omega, show ¬ (1 : Nat) = 2 from by omega, if_false, Nat.add_zero] at c0 c2
  refine ⟨hz, ⟨by simpa using h.l1, h.l2, fun x hx => ?_, fun x hx => by have := h.low x hx; simp only; omega⟩, ⟨fun x hx => ?_, by simp only; omega, by simp only; omega⟩, by omega⟩
  · rcases mem_set hx with rfl | hx
    · omega
    · exact h.two x hx
  · rw [getD_set (by omega)]
    split
    · rename_i e; subst e; exact absurd hz hx
    · rfl
theorem depI_ok {c : List Th} (hc : Fine c) : ∀ (f a : Nat) (s : DS), OkD c s → a < c.length → s.1.count 0 < f → OkD c (depI c f a s).2 ∧ Goes s (depI c f a s).2 := by
  intro f
  induction f with
  | zero => intro a s _ _ h; omega
  | succ f ih =>
    intro a s h ha hz
    simp only [depI]
    by_cases h1 : s.1.getD a 0 = 1
    · rw [if_pos h1]; exact ⟨h, Goes.refl s⟩
    rw [if_neg h1]
    by_cases h2 : s.1.getD a 0 = 2
    · rw [if_pos h2]; exact ⟨h, Goes.refl s⟩
    rw [if_neg h2]
    obtain ⟨hz0, n1, n2, n3⟩ := h.now ha h1 h2
    obtain ⟨g1, g2⟩ := kidsI_ok (a := a) ih (kd c a) (s.1.set a 1, s.2) (kd_in hc ha) n1 (by simp only; omega)
    have g3 := n2.trans g2
    generalize hr : kidsI (depI c f) a (kd c a) (s.1.set a 1, s.2) = r at g1 g2 g3 ⊢
    split
    · have hl := g1.l1
      have h1' : r.2.1.getD a 0 = 1 := by
        have := g2.kept a (by rw [getD_set (by have := h.l1; omega)]; simp)
        rw [this, getD_set (by have := h.l1; omega)]; simp
      have c0 := count_set' (l := r.2.1) (a := a) (v := 2) (b := 0) (by omega)
      have c2 := count_set' (l := r.2.1) (a := a) (v := 2) (b := 2) (by omega)
      rw [h1'] at c0 c2
      simp only [if_true, show ¬ (1 : Nat) = 0 from by omega, show ¬ (2 : Nat) = 0 from by omega, show ¬ (1 : Nat) = 2 from by omega, if_false, Nat.add_zero] at c0 c2
      have hge : Goes s (r.2.1.set a 2, if (c.getD a default).kind ≠ 1 then r.2.2.set a (r.2.2.getD a 0 + 1) else r.2.2) := by
        refine ⟨fun x hx => ?_, by have := g3.zeros; simp only; omega, by have := g3.twos; simp only; omega⟩
        simp only
        rw [getD_set (by omega)]
        split
        · rename_i e; subst e; exact absurd hz0 hx
        · exact g3.kept x hx
      refine ⟨⟨by simpa using g1.l1, ?_, fun x hx => ?_, fun x hx => ?_⟩, hge⟩
      · simp only
        split
        · simpa using g1.l2
        · exact g1.l2
      · rcases mem_set hx with rfl | hx
        · omega
        · exact g1.two x hx
      · simp only at hx ⊢
        have := low_getD g1 a
        split at hx
        · rcases mem_set hx with rfl | hx
          · omega
          · have := g1.low x hx; omega
        · have := g1.low x hx; omega
    · exact ⟨g1, g3⟩

theorem nA_get {l : List Nat} {k : Nat} (h : k < l.length) : (nA l)[k]? = some (.int .i64 ((l.getD k 0 : Nat) : Int)) := by simp [nA, List.getD, h]
theorem nA_set {l : List Nat} {k v : Nat} : (nA l).set k (.int .i64 ((v : Nat) : Int)) = nA (l.set k v) := by unfold nA; rw [List.map_set]
theorem max_int (x y : Nat) : (if ((y : Nat) : Int) > ((x : Nat) : Int) then ((y : Nat) : Int) else ((x : Nat) : Int)) = ((max x y : Nat) : Int) := by
  split <;> omega
theorem count_len {l : List Nat} (b : Nat) : l.count b ≤ l.length := List.count_le_length
theorem beqn (n : Nat) : Nat.beq n n = true := Nat.beq_refl n
def depR (x : Bool × DS) : Option Res := some ⟨.bool x.1, false, [.ref (.row 1 (nA x.2.1)), .ref (.row 1 (nA x.2.2))]⟩
/-- How deep; no circle. -/
def zerosD (c : List Th) : DS := (List.replicate c.length 0, List.replicate c.length 0)
def depthL (c : List Th) : Nat × Bool := if (depI c (c.length + 1) 0 (zerosD c)).1 = true then ((depI c (c.length + 1) 0 (zerosD c)).2.2.getD 0 0, true) else (0, false)
theorem zerosD_ok (c : List Th) : OkD c (zerosD c) := ⟨by simp [zerosD], by simp [zerosD], fun x hx => by simp [zerosD] at hx; omega, fun x hx => by simp [zerosD] at hx; omega⟩
end Go.Proofs.YtmpjohnbddnehaaDoor.Vf
