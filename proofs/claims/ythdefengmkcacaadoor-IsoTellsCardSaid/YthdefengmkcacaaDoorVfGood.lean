
/- Graphs of small numbers are fine. No condition. -/
import Derived.Test.YthdefengmkcacaaDoorVfGraph
import Derived.Test.YthdefengmkcacaaDoorVfLawsIA
import Derived.Test.YthdefengmkcacaaDoorVfIsoD
namespace Go.Proofs.YthdefengmkcacaaDoor.Vf
set_option linter.unusedVariables false
set_option linter.unusedSimpArgs false

structure GoodT (m : Nat) (t : Th) : Prop where
  kids : ∀ k ∈ t.kids, 0 ≤ k ∧ k < (m : Int)
  kl : t.kids.length ≤ 10
  tl : t.tag.length ≤ 100
  vl : t.value.length ≤ 1000
  kt : t.kind ≠ 1 → t.tag.length ≤ 5
theorem GoodT.mono {m m' : Nat} {t : Th} (h : GoodT m t) (hm : m ≤ m') : GoodT m' t :=
  ⟨fun k hk => by have := h.kids k hk; omega, h.kl, h.tl, h.vl, h.kt⟩
theorem pick_len {L : List (List UInt8)} {n b : Nat} (h : ∀ s ∈ L, s.length ≤ b) : (L.getD n []).length ≤ b := by
  by_cases hn : n < L.length
  · have : L.getD n [] ∈ L := by simp [List.getD, hn]
    exact h _ this
  · simp [List.getD, List.getElem?_eq_none (show L.length ≤ n by omega)]
theorem most_pos {n : Nat} (h : 0 < n) : 0 < most n := by unfold most; split <;> omega
theorem rawG_good (l : List LT) : ∀ t ∈ rawG l false, GoodT (rawG l false).length t := by
  intro t ht
  have hlen : (rawG l false).length = most l.length := by unfold rawG most; simp; split <;> omega
  obtain ⟨x, hx, rfl⟩ := List.mem_map.1 ht
  have hpos : 0 < l.length := List.length_pos_of_mem (List.mem_of_mem_take hx)
  have hm := most_pos hpos
  refine ⟨?_, ?_, ?_, ?_, ?_⟩
  · intro k hk
    rw [hlen]
    simp only [thOf, kidsOf] at hk
    split at hk
    · obtain ⟨z, _, rfl⟩ := List.mem_map.1 hk
      unfold kidOf
      rw [if_pos (.inl rfl)]
      exact ⟨Int.emod_nonneg _ (by omega), Int.emod_lt_of_pos _ (by omega)⟩
    · cases hk
  · have := kidsOf_len l.length false x (kindOf false x)
    simp only [thOf]; omega
  · simp only [thOf, tag2, Bool.false_eq_true, false_and, if_false, tag1]
    split
    · exact pick_len (by decide)
    · split
      · exact pick_len (by decide)
      · exact pick_len (by decide)
  · have := val1_len (kindOf false x) x
    simp only [thOf, val2]
    split
    · simp
    · omega
  · intro hk
    have hk' : kindOf false x ≠ 1 := hk
    simp only [thOf, tag2, Bool.false_eq_true, false_and, if_false, tag1, hk']
    split
    · exact pick_len (by decide)
    · exact pick_len (by decide)
theorem baseG_good (l : List LT) : ∀ t ∈ baseG l, GoodT (baseG l).length t := by
  unfold baseG
  split
  · intro t ht
    simp only [List.mem_singleton] at ht
    subst ht
    exact ⟨by simp, by simp, by simp, by simp, fun h => absurd rfl h⟩
  · exact rawG_good l
theorem keysN_good : ∀ (m j q : Nat), ∀ t ∈ keysN j m, GoodT q t
  | 0, _, _ => by simp [keysN]
  | m + 1, j, q => by
    intro t ht
    rcases List.mem_cons.1 ht with rfl | ht
    · exact ⟨by simp [keyT], by simp [keyT], by simp [keyT], by simp [keyT], fun h => absurd rfl h⟩
    · exact keysN_good m (j + 1) q t ht
theorem mixK_in : ∀ (ks : List Int) (n m : Nat), n + ks.length ≤ m → (∀ k ∈ ks, 0 ≤ k ∧ k < (m : Int)) → ∀ k ∈ mixK n ks, 0 ≤ k ∧ k < (m : Int)
  | [], _, _, _, _ => by simp [mixK]
  | q :: r, n, m, h, hk => by
    intro k hk'
    simp only [List.length_cons] at h
    simp only [mixK, List.mem_cons] at hk'
    rcases hk' with rfl | rfl | hk'
    · omega
    · exact hk _ List.mem_cons_self
    · exact mixK_in r (n + 1) m (by omega) (fun k h => hk k (List.mem_cons_of_mem _ h)) k hk'
theorem widen_good {g : List Th} {i : Nat} (hi : i < g.length) (hk : (g.getD i default).kids.length ≤ 5) (h : ∀ t ∈ g, GoodT g.length t) : ∀ t ∈ widen g i, GoodT (widen g i).length t := by
  have hg := h _ (getD_mem hi)
  have hl := widen_len g i
  unfold widen at hl ⊢
  split at hl
  · rename_i h3
    rw [if_pos h3]
    rw [List.length_set] at hl ⊢
    have hlen : (g ++ keysN 0 (g.getD i default).kids.length).length = g.length + (g.getD i default).kids.length := by rw [List.length_append, keysN_len]
    intro t ht
    rcases List.mem_or_eq_of_mem_set ht with ht | rfl
    · rcases List.mem_append.1 ht with ht | ht
      · exact (h t ht).mono (by omega)
      · exact keysN_good _ _ _ t ht
    · refine ⟨?_, ?_, hg.tl, hg.vl, hg.kt⟩
      · exact mixK_in _ _ _ (by omega) fun k hk => by have := hg.kids k hk; omega
      · simp only
        rw [mixK_len]; omega
  · rename_i h3
    rw [if_neg h3]
    exact h
theorem widenGo_good (n : Nat) : ∀ (m i : Nat) (g : List Th), i + m = n → n ≤ g.length → (∀ j, i ≤ j → j < n → (g.getD j default).kids.length ≤ 5) → (∀ t ∈ g, GoodT g.length t) →
    (∀ t ∈ widenGo m i g, GoodT (widenGo m i g).length t) ∧ g.length ≤ (widenGo m i g).length ∧ (widenGo m i g).length ≤ g.length + 5 * m := by
  intro m
  induction m with
  | zero => intro i g _ _ _ h; exact ⟨h, Nat.le_refl _, Nat.le_refl _⟩
  | succ m ih =>
    intro i g hn hl hk h
    have hki := hk i (by omega) (by omega)
    have hw := widen_len g i
    obtain ⟨h1, h2, h3⟩ := ih (i + 1) (widen g i) (by omega) (by omega) (fun j hj hj2 => by
      rw [widen_get g i j (by omega) (by omega)]
      exact hk j (by omega) hj2) (widen_good (by omega) hki h)
    exact ⟨h1, by simp only [widenGo]; omega, by simp only [widenGo]; omega⟩
theorem graph_good (l : List LT) : (∀ t ∈ graphL l false, GoodT (graphL l false).length t) ∧ 1 ≤ (graphL l false).length ∧ (graphL l false).length ≤ 54 := by
  have hb := baseG_len l
  obtain ⟨h1, h2, h3⟩ := widenGo_good (baseG l).length (baseG l).length 0 (baseG l) (by omega) (Nat.le_refl _) (fun j _ hj => baseG_kids l _ (by simp [List.getD, hj])) (baseG_good l)
  unfold graphL
  rw [if_neg (by simp)]
  exact ⟨h1, by omega, by omega⟩
theorem sum_le {f : Th → Nat} {b : Nat} : ∀ {g : List Th}, (∀ t ∈ g, f t ≤ b) → (g.map f).sum ≤ b * g.length
  | [], _ => by simp
  | t :: r, h => by
    have h1 := h t List.mem_cons_self
    have h2 := sum_le (f := f) (b := b) (g := r) fun t ht => h t (List.mem_cons_of_mem _ ht)
    simp only [List.map_cons, List.sum_cons, List.length_cons]
    rw [Nat.mul_add]; omega
theorem fine_good {g : List Th} (h : ∀ t ∈ g, GoodT g.length t) (hl : g.length ≤ 1000) : Fine g := by
  refine ⟨fun t ht => (h t ht).kids, ?_, fun t ht => ⟨by have := (h t ht).tl; omega, by have := (h t ht).vl; omega, by have := (h t ht).kl; omega⟩⟩
  rw [cost_all]
  have := sum_le (f := fun t : Th => t.kids.length) (b := 10) fun t ht => (h t ht).kl
  omega
theorem graph_fine (l : List LT) : Fine (graphL l false) := fine_good (graph_good l).1 (by have := (graph_good l).2.2; omega)
theorem graph_pos (l : List LT) : 0 < (graphL l false).length := (graph_good l).2.1

end Go.Proofs.YthdefengmkcacaaDoor.Vf
