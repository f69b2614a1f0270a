
/- Graphs that are alike but for the order of their things have the same canonical form; a canonical form is its own. No condition but sizes. -/
import Derived.Test.YtmpjohnbddnehaaDoorVfIsoD
namespace Go.Proofs.YtmpjohnbddnehaaDoor.Vf
set_option linter.unusedVariables false
set_option linter.unusedSimpArgs false

theorem ordGo_fuel {g : List Th} (hg : Fine g) : ∀ (n m : Nat) (out st : List Nat), st.length + costOf g out < n → n ≤ m → (∀ i ∈ st, i < g.length) → ordGo g m out st = ordGo g n out st := by
  intro n
  induction n with
  | zero => intro m out st h; omega
  | succ n ih =>
    intro m out st h hm hst
    obtain ⟨m, rfl⟩ : ∃ k, m = k + 1 := ⟨m - 1, by omega⟩
    cases st with
    | nil => rfl
    | cons i st =>
      simp only [List.length_cons] at h
      have hi := hst i List.mem_cons_self
      simp only [ordGo]
      by_cases ho : i ∈ out
      · rw [if_pos ho, if_pos ho]
        exact ih m out st (by omega) (by omega) fun j hj => hst j (List.mem_cons_of_mem _ hj)
      · rw [if_neg ho, if_neg ho]
        have hc := cost_met hi ho
        exact ih m _ _ (by rw [List.length_append]; omega) (by omega) fun j hj => by
          rcases List.mem_append.1 hj with hj | hj
          · exact kd_in hg hi j hj
          · exact hst j (List.mem_cons_of_mem _ hj)
/-- The same things, told by other numbers. -/
structure Turned (g h : List Th) (S : Nat → Prop) (φ : Nat → Nat) : Prop where
  root : S 0
  root' : φ 0 = 0
  lt : ∀ i, S i → i < g.length
  lt' : ∀ i, S i → φ i < h.length
  step : ∀ i, S i → ∀ k ∈ kd g i, S k
  inj : ∀ i j, S i → S j → φ i = φ j → i = j
  kids : ∀ i, S i → kd h (φ i) = (kd g i).map φ
theorem turned_go {g h : List Th} {S : Nat → Prop} {φ : Nat → Nat} (t : Turned g h S φ) : ∀ (n : Nat) (out st : List Nat), (∀ i ∈ out, S i) → (∀ i ∈ st, S i) →
    ordGo h n (out.map φ) (st.map φ) = (ordGo g n out st).map φ ∧ ∀ i ∈ ordGo g n out st, S i
  | 0, out, _, h1, _ => ⟨rfl, h1⟩
  | _ + 1, out, [], h1, _ => ⟨rfl, h1⟩
  | n + 1, out, i :: st, h1, h2 => by
    have hi := h2 i List.mem_cons_self
    have hmem : φ i ∈ out.map φ ↔ i ∈ out := by
      constructor
      · intro hh
        obtain ⟨j, hj, e⟩ := List.mem_map.1 hh
        rw [← t.inj j i (h1 j hj) hi e]; exact hj
      · intro hh; exact List.mem_map_of_mem hh
    simp only [ordGo, List.map_cons, hmem]
    by_cases ho : i ∈ out
    · rw [if_pos ho, if_pos ho]
      exact turned_go t n out st h1 fun j hj => h2 j (List.mem_cons_of_mem _ hj)
    · rw [if_neg ho, if_neg ho]
      have := turned_go t n (out ++ [i]) (kd g i ++ st) (fun j hj => by
        rcases List.mem_append.1 hj with hj | hj
        · exact h1 j hj
        · simp only [List.mem_singleton] at hj; subst hj; exact hi) (fun j hj => by
        rcases List.mem_append.1 hj with hj | hj
        · exact t.step i hi j hj
        · exact h2 j (List.mem_cons_of_mem _ hj))
      rw [List.map_append, List.map_append, List.map_cons, List.map_nil, ← t.kids i hi] at this
      exact this
theorem turned_order {g h : List Th} {S : Nat → Prop} {φ : Nat → Nat} (hg : Fine g) (hh : Fine h) (t : Turned g h S φ) : orderL h = (orderL g).map φ ∧ ∀ i ∈ orderL g, S i := by
  have h0 := t.lt 0 t.root
  have h0' : 0 < h.length := by have := t.lt' 0 t.root; rw [t.root'] at this; exact this
  have e1 := ordGo_fuel hg (costOf g [] + 2) (costOf g [] + 2 + costOf h []) [] [0] (by simp only [List.length_singleton]; omega) (by omega) (by simpa using h0)
  have e2 := ordGo_fuel hh (costOf h [] + 2) (costOf g [] + 2 + costOf h []) [] [0] (by simp only [List.length_singleton]; omega) (by omega) (by simpa using h0')
  have := turned_go t (costOf g [] + 2 + costOf h []) [] [0] (by simp) (by simpa using t.root)
  simp only [List.map_nil, List.map_cons, t.root'] at this
  unfold orderL
  rw [← e1, ← e2]
  exact this
theorem num_map {S : Nat → Prop} {φ : Nat → Nat} (inj : ∀ i j, S i → S j → φ i = φ j → i = j) {l : List Nat} (hl : ∀ i ∈ l, S i) {k : Nat} (hk : k ∈ l) : num (l.map φ) (φ k) = num l k := by
  unfold num
  rw [if_pos (List.mem_map_of_mem hk), if_pos hk]
  have hS := hl k hk
  clear hk
  induction l with
  | nil => rfl
  | cons a r ih =>
    rw [List.map_cons, List.idxOf_cons, List.idxOf_cons]
    by_cases ha : a = k
    · subst ha; simp
    · have hφ : φ a ≠ φ k := fun e => ha (inj a k (hl a List.mem_cons_self) hS e)
      rw [show (φ a == φ k) = false by simpa using hφ, show (a == k) = false by simpa using ha, cond_false, cond_false, ih fun i hi => hl i (List.mem_cons_of_mem _ hi)]
/-- .. and the same words on them. -/
theorem turned_canon {g h : List Th} {S : Nat → Prop} {φ : Nat → Nat} (hg : Fine g) (hh : Fine h) (t : Turned g h S φ)
    (hw : ∀ i, S i → (h.getD (φ i) default).kind = (g.getD i default).kind ∧ (h.getD (φ i) default).tag = (g.getD i default).tag ∧ (h.getD (φ i) default).value = (g.getD i default).value) : canonL h = canonL g := by
  have h0 := t.lt 0 t.root
  have h0' : 0 < h.length := by have := t.lt' 0 t.root; rw [t.root'] at this; exact this
  obtain ⟨e, hS⟩ := turned_order hg hh t
  rw [canonL_pos h0, canonL_pos h0', e, List.map_map]
  apply List.map_congr_left
  intro i hi
  have hSi := hS i hi
  obtain ⟨w1, w2, w3⟩ := hw i hSi
  show canT h ((orderL g).map φ) (φ i) = canT g (orderL g) i
  unfold canT
  rw [w1, w2, w3, t.kids i hSi, List.map_map]
  congr 1
  apply List.map_congr_left
  intro k hk
  show ((num ((orderL g).map φ) (φ k) : Nat) : Int) = _
  rw [num_map t.inj hS (orderL_closed hg h0 i hi k hk)]

/-! A canonical form -/
theorem canon_get {g : List Th} (h0 : 0 < g.length) {m : Nat} (hm : m < (orderL g).length) : (canonL g).getD m default = canT g (orderL g) (orderL g)[m] := by
  rw [canonL_pos h0]
  simp [List.getD, hm]
theorem canon_turned {g : List Th} (hg : Fine g) (h0 : 0 < g.length) : Turned g (canonL g) (fun i => i ∈ orderL g) (num (orderL g)) where
  root := orderL_zero hg h0
  root' := by
    obtain ⟨r, hr⟩ := orderL_head g
    have := num_at (orderL_nodup hg h0) (m := 0) (by rw [hr]; simp)
    simpa [hr] using this
  lt := orderL_in hg h0
  lt' := fun i hi => by rw [canonL_pos h0, List.length_map]; exact num_lt hi
  step := orderL_closed hg h0
  inj := fun i j hi hj e => num_inj hi hj e
  kids := fun i hi => by rw [canon_kd h0 (num_lt hi), num_get hi]
theorem canon_canon {g : List Th} (hg : Fine g) (h0 : 0 < g.length) : canonL (canonL g) = canonL g := by
  refine turned_canon hg (canon_fine hg) (canon_turned hg h0) fun i hi => ?_
  rw [canon_get h0 (num_lt hi), num_get hi]
  exact ⟨rfl, rfl, rfl⟩
end Go.Proofs.YtmpjohnbddnehaaDoor.Vf
