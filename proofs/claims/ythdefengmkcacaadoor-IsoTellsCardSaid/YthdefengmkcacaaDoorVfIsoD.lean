
/- The order of a walk: it is closed, it begins at the root, each thing but the root has a thing that leads to it; the canonical form is fine. No condition but sizes. -/
import Derived.Test.YthdefengmkcacaaDoorVfIsoC
namespace Go.Proofs.YthdefengmkcacaaDoor.Vf
set_option linter.unusedVariables false
set_option linter.unusedSimpArgs false

theorem ordGo_all {g : List Th} (hg : Fine g) : ∀ (n : Nat) (out st : List Nat), st.length + costOf g out < n → (∀ i ∈ out, i < g.length) → (∀ i ∈ st, i < g.length) → (∀ i ∈ out, ∀ k ∈ kd g i, k ∈ out ∨ k ∈ st) →
    (∀ i, i ∈ out ∨ i ∈ st → i ∈ ordGo g n out st) ∧ (∀ i ∈ ordGo g n out st, ∀ k ∈ kd g i, k ∈ ordGo g n out st) := by
  intro n
  induction n with
  | zero => intro out st h; omega
  | succ n ih =>
    intro out st h h1 h2 h3
    cases st with
    | nil =>
      simp only [ordGo]
      refine ⟨fun i hi => by simpa using hi, fun i hi k hk => by simpa using h3 i hi k hk⟩
    | cons i st =>
      simp only [ordGo]
      simp only [List.length_cons] at h
      have hi := h2 i List.mem_cons_self
      by_cases ho : i ∈ out
      · rw [if_pos ho]
        obtain ⟨g1, g2⟩ := ih out st (by omega) h1 (fun j hj => h2 j (List.mem_cons_of_mem _ hj)) fun j hj k hk => by
          rcases h3 j hj k hk with q | q
          · exact .inl q
          · rcases List.mem_cons.1 q with rfl | q
            · exact .inl ho
            · exact .inr q
        refine ⟨fun j hj => ?_, g2⟩
        rcases hj with hj | hj
        · exact g1 j (.inl hj)
        · rcases List.mem_cons.1 hj with rfl | hj
          · exact g1 j (.inl ho)
          · exact g1 j (.inr hj)
      · rw [if_neg ho]
        have hc := cost_met hi ho
        obtain ⟨g1, g2⟩ := ih (out ++ [i]) (kd g i ++ st) (by rw [List.length_append]; omega) (fun j hj => by
            rcases List.mem_append.1 hj with hj | hj
            · exact h1 j hj
            · simp only [List.mem_singleton] at hj; subst hj; exact hi) (fun j hj => by
            rcases List.mem_append.1 hj with hj | hj
            · exact kd_in hg hi j hj
            · exact h2 j (List.mem_cons_of_mem _ hj)) fun j hj k hk => by
          rcases List.mem_append.1 hj with hj | hj
          · rcases h3 j hj k hk with q | q
            · exact .inl (List.mem_append_left _ q)
            · rcases List.mem_cons.1 q with rfl | q
              · exact .inl (List.mem_append_right _ (List.mem_singleton.2 rfl))
              · exact .inr (List.mem_append_right _ q)
          · simp only [List.mem_singleton] at hj
            subst hj
            exact .inr (List.mem_append_left _ hk)
        refine ⟨fun j hj => ?_, g2⟩
        rcases hj with hj | hj
        · exact g1 j (.inl (List.mem_append_left _ hj))
        · rcases List.mem_cons.1 hj with rfl | hj
          · exact g1 j (.inl (List.mem_append_right _ (List.mem_singleton.2 rfl)))
          · exact g1 j (.inr (List.mem_append_right _ hj))
theorem orderL_closed {g : List Th} (hg : Fine g) (h0 : 0 < g.length) : ∀ i ∈ orderL g, ∀ k ∈ kd g i, k ∈ orderL g :=
  (ordGo_all hg _ [] [0] (by simp only [List.length_singleton]; omega) (by simp) (by simpa using h0) (by simp)).2
/-- What is met stays where it is. -/
theorem ordGo_pre {g : List Th} : ∀ (n : Nat) (out st : List Nat), ∃ r, ordGo g n out st = out ++ r
  | 0, out, _ => ⟨[], by simp [ordGo]⟩
  | _ + 1, out, [] => ⟨[], by simp [ordGo]⟩
  | n + 1, out, i :: st => by
    simp only [ordGo]
    split
    · exact ordGo_pre n out st
    · obtain ⟨r, hr⟩ := ordGo_pre n (out ++ [i]) (kd g i ++ st)
      exact ⟨i :: r, by rw [hr]; simp⟩
theorem orderL_head (g : List Th) : ∃ r, orderL g = 0 :: r := by
  unfold orderL
  rw [show costOf g [] + 2 = (costOf g [] + 1) + 1 from rfl]
  simp only [ordGo]
  rw [if_neg (by simp)]
  obtain ⟨r, hr⟩ := ordGo_pre (g := g) (costOf g [] + 1) ([] ++ [0]) (kd g 0 ++ [])
  exact ⟨r, by rw [hr]; rfl⟩
/-! The canonical form -/
theorem num_lt {l : List Nat} {k : Nat} (h : k ∈ l) : num l k < l.length := by
  unfold num; rw [if_pos h]; exact List.idxOf_lt_length_iff.2 h
theorem canonL_pos {g : List Th} (h0 : 0 < g.length) : canonL g = (orderL g).map (canT g (orderL g)) := by
  unfold canonL; rw [if_neg (by omega)]
theorem canonL_ne {g : List Th} (h0 : 0 < g.length) : 0 < (canonL g).length := by
  rw [canonL_pos h0, List.length_map]
  obtain ⟨r, hr⟩ := orderL_head g
  rw [hr]; simp
theorem cost_all (g : List Th) : costOf g [] = (g.map fun t => t.kids.length).sum := by
  unfold costOf
  have : (List.range g.length).map (fun i => if i ∈ ([] : List Nat) then 0 else (kd g i).length) = g.map fun t => t.kids.length := by
    apply List.ext_getElem
    · simp
    · intro i h1 h2
      simp only [List.length_map, List.length_range] at h1
      simp [kd, List.getD, h1]
  rw [this]
theorem sum_sub {f : Nat → Nat} : ∀ {l M : List Nat}, l.Nodup → (∀ x ∈ l, x ∈ M) → (l.map f).sum ≤ (M.map f).sum
  | [], _, _, _ => by simp
  | a :: r, M, hn, hs => by
    rw [List.nodup_cons] at hn
    have ha : a ∈ M := hs a List.mem_cons_self
    have ih := sum_sub (f := f) (l := r) (M := M.erase a) hn.2 fun x hx => (List.mem_erase_of_ne (by rintro rfl; exact hn.1 hx)).2 (hs x (List.mem_cons_of_mem _ hx))
    have hp : (M.map f).sum = f a + ((M.erase a).map f).sum := by
      have := (List.perm_cons_erase ha).map f
      rw [this.sum_nat, List.map_cons, List.sum_cons]
    simp only [List.map_cons, List.sum_cons]
    omega
theorem canon_fine {g : List Th} (hg : Fine g) : Fine (canonL g) := by
  by_cases h0 : g.length = 0
  · have : canonL g = [] := by unfold canonL; rw [if_pos h0]
    rw [this]
    exact ⟨by simp, by simp [costOf], by simp⟩
  · have hpos : 0 < g.length := by omega
    have hnd := orderL_nodup hg hpos
    have hin := orderL_in hg hpos
    refine ⟨?_, ?_, canon_small hg⟩
    · intro t ht k hk
      rw [canonL_pos hpos] at ht ⊢
      obtain ⟨i, hi, rfl⟩ := List.mem_map.1 ht
      simp only [canT, List.mem_map] at hk
      obtain ⟨k', hk', rfl⟩ := hk
      have := num_lt (orderL_closed hg hpos i hi k' hk')
      rw [List.length_map]
      omega
    · have h1 := canon_len hg
      have h2 : costOf (canonL g) [] ≤ costOf g [] := by
        rw [cost_all, canonL_pos hpos, List.map_map]
        have e : (orderL g).map ((fun t : Th => t.kids.length) ∘ canT g (orderL g)) = (orderL g).map fun i => (kd g i).length := by
          apply List.map_congr_left
          intro i _
          simp [canT]
        rw [e]
        have e2 : costOf g [] = ((List.range g.length).map fun i => (kd g i).length).sum := by unfold costOf; simp
        rw [e2]
        exact sum_sub hnd fun x hx => List.mem_range.2 (hin x hx)
      have := hg.size
      omega
end Go.Proofs.YthdefengmkcacaaDoor.Vf
