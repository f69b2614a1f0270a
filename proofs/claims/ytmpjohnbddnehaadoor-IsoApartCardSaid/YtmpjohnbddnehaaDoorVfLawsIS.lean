
/- Without shared things a graph is a tree. No condition. -/
import Derived.Test.YtmpjohnbddnehaaDoorVfGraph
import Derived.Test.YtmpjohnbddnehaaDoorVfDepth
import Derived.Test.YtmpjohnbddnehaaDoorVfLawsIA
namespace Go.Proofs.YtmpjohnbddnehaaDoor.Vf
set_option linter.unusedVariables false
set_option linter.unusedSimpArgs false

/-! Graphs of small numbers are fine. -/
structure GoodT (m : Nat) (t : Th) : Prop where
  kids : ∀ k ∈ t.kids, 0 ≤ k ∧ k < (m : Int)
  kl : t.kids.length ≤ 10
  tl : t.tag.length ≤ 100
  vl : t.value.length ≤ 1000
  kt : t.kind ≠ 1 → t.tag.length ≤ 5
theorem GoodT.mono {m m' : Nat} {t : Th} (h : GoodT m t) (hm : m ≤ m') : GoodT m' t :=
  ⟨fun k hk => by have := h.kids k hk; omega, h.kl, h.tl, h.vl, h.kt⟩
theorem pick_len {L : List (List UInt8)} {n b : Nat} (h : ∀ s ∈ L, s.length ≤ b) : (L.getD n []).length ≤ b := by
  by_cases hn : n < L.length
  · have : L.getD n [] ∈ L := by simp [List.getD, hn]
    exact h _ this
  · simp [List.getD, List.getElem?_eq_none (show L.length ≤ n by omega)]
theorem most_pos {n : Nat} (h : 0 < n) : 0 < most n := by unfold most; split <;> omega
theorem rawG_good (l : List LT) : ∀ t ∈ rawG l false, GoodT (rawG l false).length t := by
  intro t ht
  have hlen : (rawG l false).length = most l.length := by unfold rawG most; simp; split <;> omega
  obtain ⟨x, hx, rfl⟩ := List.mem_map.1 ht
  have hpos : 0 < l.length := List.length_pos_of_mem (List.mem_of_mem_take hx)
  have hm := most_pos hpos
  refine ⟨?_, ?_, ?_, ?_, ?_⟩
  · intro k hk
    rw [hlen]
    simp only [thOf, kidsOf] at hk
    split at hk
    · obtain ⟨z, _, rfl⟩ := List.mem_map.1 hk
      unfold kidOf
      rw [if_pos (.inl rfl)]
      exact ⟨Int.emod_nonneg _ (by omega), Int.emod_lt_of_pos _ (by omega)⟩
    · cases hk
  · have := kidsOf_len l.length false x (kindOf false x)
    simp only [thOf]; omega
  · simp only [thOf, tag2, Bool.false_eq_true, false_and, if_false, tag1]
    split
    · exact pick_len (by decide)
    · split
      · exact pick_len (by decide)
      · exact pick_len (by decide)
  · have := val1_len (kindOf false x) x
    simp only [thOf, val2]
    split
    · simp
    · omega
  · intro hk
    have hk' : kindOf false x ≠ 1 := hk
    simp only [thOf, tag2, Bool.false_eq_true, false_and, if_false, tag1, hk']
    split
    · exact pick_len (by decide)
    · exact pick_len (by decide)
theorem baseG_good (l : List LT) : ∀ t ∈ baseG l, GoodT (baseG l).length t := by
  unfold baseG
  split
  · intro t ht
    simp only [List.mem_singleton] at ht
    subst ht
    exact ⟨by simp, by simp, by simp, by simp, fun h => absurd rfl h⟩
  · exact rawG_good l
theorem keysN_good : ∀ (m j q : Nat), ∀ t ∈ keysN j m, GoodT q t
  | 0, _, _ => by simp [keysN]
  | m + 1, j, q => by
    intro t ht
    rcases List.mem_cons.1 ht with rfl | ht
    · exact ⟨by simp [keyT], by simp [keyT], by simp [keyT], by simp [keyT], fun h => absurd rfl h⟩
    · exact keysN_good m (j + 1) q t ht
theorem mixK_in : ∀ (ks : List Int) (n m : Nat), n + ks.length ≤ m → (∀ k ∈ ks, 0 ≤ k ∧ k < (m : Int)) → ∀ k ∈ mixK n ks, 0 ≤ k ∧ k < (m : Int)
  | [], _, _, _, _ => by simp [mixK]
  | q :: r, n, m, h, hk => by
    intro k hk'
    simp only [List.length_cons] at h
    simp only [mixK, List.mem_cons] at hk'
    rcases hk' with rfl | rfl | hk'
    · omega
    · exact hk _ List.mem_cons_self
    · exact mixK_in r (n + 1) m (by omega) (fun k h => hk k (List.mem_cons_of_mem _ h)) k hk'
theorem widen_good {g : List Th} {i : Nat} (hi : i < g.length) (hk : (g.getD i default).kids.length ≤ 5) (h : ∀ t ∈ g, GoodT g.length t) : ∀ t ∈ widen g i, GoodT (widen g i).length t := by
  have hg := h _ (getD_mem hi)
  have hl := widen_len g i
  unfold widen at hl ⊢
  split at hl
  · rename_i h3
    rw [if_pos h3]
    rw [List.length_set] at hl ⊢
    have hlen : (g ++ keysN 0 (g.getD i default).kids.length).length = g.length + (g.getD i default).kids.length := by rw [List.length_append, keysN_len]
    intro t ht
    rcases List.mem_or_eq_of_mem_set ht with ht | rfl
    · rcases List.mem_append.1 ht with ht | ht
      · exact (h t ht).mono (by omega)
      · exact keysN_good _ _ _ t ht
    · refine ⟨?_, ?_, hg.tl, hg.vl, hg.kt⟩
      · exact mixK_in _ _ _ (by omega) fun k hk => by have := hg.kids k hk; omega
      · simp only
        rw [mixK_len]; omega
  · rename_i h3
    rw [if_neg h3]
    exact h
theorem widenGo_good (n : Nat) : ∀ (m i : Nat) (g : List Th), i + m = n → n ≤ g.length → (∀ j, i ≤ j → j < n → (g.getD j default).kids.length ≤ 5) → (∀ t ∈ g, GoodT g.length t) →
    (∀ t ∈ widenGo m i g, GoodT (widenGo m i g).length t) ∧ g.length ≤ (widenGo m i g).length ∧ (widenGo m i g).length ≤ g.length + 5 * m := by
  intro m
  induction m with
  | zero => intro i g _ _ _ h; exact ⟨h, Nat.le_refl _, Nat.le_refl _⟩
  | succ m ih =>
    intro i g hn hl hk h
    have hki := hk i (by omega) (by omega)
    have hw := widen_len g i
    obtain ⟨h1, h2, h3⟩ := ih (i + 1) (widen g i) (by omega) (by omega) (fun j hj hj2 => by
      rw [widen_get g i j (by omega) (by omega)]
      exact hk j (by omega) hj2) (widen_good (by omega) hki h)
    exact ⟨h1, by simp only [widenGo]; omega, by simp only [widenGo]; omega⟩
theorem graph_good (l : List LT) : (∀ t ∈ graphL l false, GoodT (graphL l false).length t) ∧ 1 ≤ (graphL l false).length ∧ (graphL l false).length ≤ 54 := by
  have hb := baseG_len l
  obtain ⟨h1, h2, h3⟩ := widenGo_good (baseG l).length (baseG l).length 0 (baseG l) (by omega) (Nat.le_refl _) (fun j _ hj => baseG_kids l _ (by simp [List.getD, hj])) (baseG_good l)
  unfold graphL
  rw [if_neg (by simp)]
  exact ⟨h1, by omega, by omega⟩
theorem sum_le {f : Th → Nat} {b : Nat} : ∀ {g : List Th}, (∀ t ∈ g, f t ≤ b) → (g.map f).sum ≤ b * g.length
  | [], _ => by simp
  | t :: r, h => by
    have h1 := h t List.mem_cons_self
    have h2 := sum_le (f := f) (b := b) (g := r) fun t ht => h t (List.mem_cons_of_mem _ ht)
    simp only [List.map_cons, List.sum_cons, List.length_cons]
    rw [Nat.mul_add]; omega
theorem fine_good {g : List Th} (h : ∀ t ∈ g, GoodT g.length t) (hl : g.length ≤ 1000) : Fine g := by
  refine ⟨fun t ht => (h t ht).kids, ?_, fun t ht => ⟨by have := (h t ht).tl; omega, by have := (h t ht).vl; omega, by have := (h t ht).kl; omega⟩⟩
  rw [cost_all]
  have := sum_le (f := fun t : Th => t.kids.length) (b := 10) fun t ht => (h t ht).kl
  omega
theorem graph_fine (l : List LT) : Fine (graphL l false) := fine_good (graph_good l).1 (by have := (graph_good l).2.2; omega)
theorem graph_pos (l : List LT) : 0 < (graphL l false).length := (graph_good l).2.1

/-! Counting -/
theorem allK_in {c : List Th} (hc : Fine c) : ∀ x ∈ allK c, x < c.length := by
  intro x hx
  obtain ⟨t, ht, hx⟩ := List.mem_flatMap.1 hx
  obtain ⟨z, hz, rfl⟩ := List.mem_map.1 hx
  have := hc.kids t ht z hz
  omega
theorem allK_kd {c : List Th} {k : Nat} : k ∈ allK c ↔ ∃ i, i < c.length ∧ k ∈ kd c i := by
  unfold allK
  rw [List.mem_flatMap]
  constructor
  · rintro ⟨t, ht, hk⟩
    obtain ⟨i, hi, rfl⟩ := List.getElem_of_mem ht
    exact ⟨i, hi, by unfold kd; simpa [List.getD, hi] using hk⟩
  · rintro ⟨i, hi, hk⟩
    exact ⟨c.getD i default, getD_mem hi, hk⟩
theorem sum_ind (m x : Nat) : ((List.range m).map fun k => if x = k then 1 else 0).sum = if x < m then 1 else 0 := by
  induction m with
  | zero => simp
  | succ m ih =>
    rw [List.range_succ, List.map_append, List.sum_append, ih]
    simp only [List.map_cons, List.map_nil, List.sum_cons, List.sum_nil, Nat.add_zero]
    split <;> split <;> split <;> omega
theorem sum_add (m : Nat) (f h : Nat → Nat) : ((List.range m).map fun k => f k + h k).sum = ((List.range m).map f).sum + ((List.range m).map h).sum := by
  induction m with
  | zero => simp
  | succ m ih => simp only [List.range_succ, List.map_append, List.sum_append, List.map_cons, List.map_nil, List.sum_cons, List.sum_nil, ih]; omega
theorem sum_count {m : Nat} : ∀ (L : List Nat), (∀ x ∈ L, x < m) → ((List.range m).map fun k => L.count k).sum = L.length
  | [], _ => by
    have : ((List.range m).map fun k => ([] : List Nat).count k) = (List.range m).map fun _ => 0 := List.map_congr_left fun k _ => by simp
    rw [this]
    have z : ∀ n : Nat, ((List.range n).map fun _ => 0).sum = 0 := fun n => by
      induction n with
      | zero => rfl
      | succ n ih => rw [List.range_succ, List.map_append, List.sum_append, ih]; rfl
    rw [z]; rfl
  | x :: r, h => by
    have e : ((List.range m).map fun k => (x :: r).count k) = (List.range m).map fun k => r.count k + if x = k then 1 else 0 := List.map_congr_left fun k _ => by
      rw [List.count_cons]
      by_cases hk : x = k
      · subst hk; simp
      · simp [hk]
    rw [e, sum_add, sum_count r fun y hy => h y (List.mem_cons_of_mem _ hy), sum_ind, if_pos (h x List.mem_cons_self)]
    rfl
theorem ones_sum : ∀ L : List Nat, (∀ x ∈ L, 1 ≤ x) → L.length ≤ L.sum ∧ (L.sum = L.length ↔ ∀ x ∈ L, x ≤ 1)
  | [], _ => by simp
  | x :: r, h => by
    have h1 := h x List.mem_cons_self
    obtain ⟨h2, h3⟩ := ones_sum r fun y hy => h y (List.mem_cons_of_mem _ hy)
    simp only [List.sum_cons, List.length_cons, List.mem_cons, forall_eq_or_imp]
    refine ⟨by omega, ?_⟩
    constructor
    · intro e
      exact ⟨by omega, h3.1 (by omega)⟩
    · rintro ⟨e1, e2⟩
      have := h3.2 e2
      omega
theorem canon_cnt {g : List Th} (hg : Fine g) (h0 : 0 < g.length) : ∀ k, k < (canonL g).length → 1 ≤ cntAt (canonL g) (canonL g).length k := by
  intro k hk
  unfold cntAt
  by_cases hk0 : k = 0
  · rw [if_pos ⟨by omega, hk0⟩]; omega
  have hl : (canonL g).length = (orderL g).length := by rw [canonL_pos h0, List.length_map]
  have hnd := orderL_nodup hg h0
  have hkl : k < (orderL g).length := by omega
  have hne : (orderL g)[k] ≠ 0 := by
    intro e
    obtain ⟨r, hr⟩ := orderL_head g
    have h1 : num (orderL g) 0 = 0 := by
      have := num_at hnd (m := 0) (by omega)
      simpa [hr] using this
    have h2 := num_at hnd hkl
    rw [e, h1] at h2
    exact hk0 h2.symm
  rcases orderL_led (orderL g)[k] (List.getElem_mem hkl) with h | ⟨i, hi, hki⟩
  · exact absurd h hne
  · have him := num_lt hi
    have : k ∈ allK (canonL g) := by
      refine allK_kd.2 ⟨num (orderL g) i, by omega, ?_⟩
      rw [canon_kd h0 him, num_get hi]
      exact List.mem_map.2 ⟨_, hki, num_at hnd hkl⟩
    rw [List.take_length]
    have := List.count_pos_iff.2 this
    omega
theorem shared_nil {g : List Th} (hg : Fine g) (h0 : 0 < g.length) : sharedL (canonL g) = [] ↔ (allK (canonL g)).length + 1 = (canonL g).length := by
  have hc := canon_fine hg
  have hpos := canonL_ne h0
  have hcnt := canon_cnt hg h0
  have hsum : ((List.range (canonL g).length).map fun k => cntAt (canonL g) (canonL g).length k).sum = 1 + (allK (canonL g)).length := by
    have e : (fun k => cntAt (canonL g) (canonL g).length k) = fun k => (if 0 = k then 1 else 0) + (allK (canonL g)).count k := by
      funext k
      unfold cntAt
      rw [List.take_length]
      by_cases hk : k = 0
      · subst hk; simp [hpos]
      · simp [hk, show ¬ 0 = k from fun e => hk e.symm]
    rw [e, sum_add, sum_ind, if_pos hpos, sum_count _ (allK_in hc)]
  have ho := ones_sum ((List.range (canonL g).length).map fun k => cntAt (canonL g) (canonL g).length k) (by
    intro x hx
    obtain ⟨k, hk, rfl⟩ := List.mem_map.1 hx
    exact hcnt k (List.mem_range.1 hk))
  rw [hsum, List.length_map, List.length_range] at ho
  have e1 : sharedL (canonL g) = [] ↔ ∀ x ∈ (List.range (canonL g).length).map fun k => cntAt (canonL g) (canonL g).length k, x ≤ 1 := by
    unfold sharedL
    rw [List.filter_eq_nil_iff]
    constructor
    · intro h x hx
      obtain ⟨k, hk, rfl⟩ := List.mem_map.1 hx
      have := h k hk
      simp only [decide_eq_true_eq] at this
      omega
    · intro h k hk
      have := h _ (List.mem_map.2 ⟨k, hk, rfl⟩)
      simp only [decide_eq_true_eq]
      omega
  rw [e1, ← ho.2]
  omega

/-! Without shared things there is no circle. -/
theorem kd_cons0 (t : Th) (r : List Th) : kd (t :: r) 0 = t.kids.map Int.toNat := rfl
theorem kd_consS (t : Th) (r : List Th) (i : Nat) : kd (t :: r) (i + 1) = kd r i := rfl
theorem led_once : ∀ {c : List Th}, (allK c).Nodup → ∀ {y z k : Nat}, y < c.length → z < c.length → k ∈ kd c y → k ∈ kd c z → y = z
  | [], _, y, _, _, h, _, _, _ => by simp at h
  | t :: r, hn, y, z, k, hy, hz, h1, h2 => by
    have e : allK (t :: r) = t.kids.map Int.toNat ++ allK r := rfl
    rw [e, List.nodup_append] at hn
    obtain ⟨_, n2, n3⟩ := hn
    have inr : ∀ {i : Nat}, i + 1 < (t :: r).length → k ∈ kd (t :: r) (i + 1) → k ∈ allK r := fun hi hk => allK_kd.2 ⟨_, by simpa using hi, hk⟩
    cases y with
    | zero =>
      cases z with
      | zero => rfl
      | succ z => exact absurd rfl (n3 k h1 k (inr hz h2))
    | succ y =>
      cases z with
      | zero => exact absurd rfl (n3 k h2 k (inr hy h1))
      | succ z => rw [led_once n2 (by simpa using hy) (by simpa using hz) h1 h2]
theorem kd_nodup : ∀ {c : List Th}, (allK c).Nodup → ∀ {y : Nat}, y < c.length → (kd c y).Nodup
  | [], _, y, h => by simp at h
  | t :: r, hn, y, hy => by
    have e : allK (t :: r) = t.kids.map Int.toNat ++ allK r := rfl
    rw [e, List.nodup_append] at hn
    cases y with
    | zero => exact hn.1
    | succ y => exact kd_nodup hn.2.1 (by simpa using hy)
def ClosedD (c : List Th) (S : List Nat) : Prop := ∀ y, y < c.length → ∀ k ∈ kd c y, S.getD k 0 ≠ 0 → S.getD y 0 ≠ 0
theorem depI_tree {c : List Th} (hc : Fine c) (hn : (allK c).Nodup) : ∀ (f a : Nat) (s : DS), OkD c s → a < c.length → s.1.count 0 < f → s.1.getD a 0 = 0 → ClosedD c s.1 → (∀ y, y < c.length → a ∈ kd c y → s.1.getD y 0 ≠ 0) →
    (depI c f a s).1 = true ∧ ClosedD c (depI c f a s).2.1 ∧ ∀ x, (depI c f a s).2.1.getD x 0 ≠ 0 → s.1.getD x 0 ≠ 0 ∨ x = a ∨ ∃ y, y < c.length ∧ x ∈ kd c y ∧ s.1.getD y 0 = 0 ∧ (depI c f a s).2.1.getD y 0 ≠ 0 := by
  intro f
  induction f with
  | zero => intro a s _ _ h; omega
  | succ f ih =>
    intro a s h ha hz h0 hcl hpar
    have hl1 := h.l1
    obtain ⟨_, n1, n2, n3⟩ := h.now ha (by omega) (by omega)
    have hself : a ∉ kd c a := fun hh => hpar a ha hh h0
    have hcl1 : ClosedD c (s.1.set a 1) := by
      intro y hy k hk hne
      rw [getD_set (by omega)] at hne ⊢
      by_cases hya : y = a
      · rw [if_pos hya]; omega
      · rw [if_neg hya]
        by_cases hka : k = a
        · exact hpar y hy (hka ▸ hk)
        · rw [if_neg hka] at hne
          exact hcl y hy k hk hne
    have loop : ∀ (ks : List Nat) (q : DS), ks.Nodup → (∀ k ∈ ks, k ∈ kd c a) → OkD c q → q.1.count 0 < f → (∀ k ∈ ks, q.1.getD k 0 = 0) → q.1.getD a 0 ≠ 0 → ClosedD c q.1 →
        (kidsI (depI c f) a ks q).1 = true ∧ ClosedD c (kidsI (depI c f) a ks q).2.1 ∧ ∀ x, (kidsI (depI c f) a ks q).2.1.getD x 0 ≠ 0 → q.1.getD x 0 ≠ 0 ∨ x ∈ ks ∨ ∃ y, y < c.length ∧ x ∈ kd c y ∧ q.1.getD y 0 = 0 ∧ (kidsI (depI c f) a ks q).2.1.getD y 0 ≠ 0 := by
      intro ks
      induction ks with
      | nil => intro q _ _ _ _ _ _ hq; exact ⟨rfl, hq, fun x hx => .inl hx⟩
      | cons k r ihr =>
        intro q hnd hin hok hqz hks hqa hqc
        rw [List.nodup_cons] at hnd
        have hka := hin k List.mem_cons_self
        have hkl := kd_in hc ha k hka
        obtain ⟨r1, r2, r3⟩ := ih k q hok hkl hqz (hks k List.mem_cons_self) hqc (fun y hy hky => by
          rw [led_once hn hy ha hky hka]; exact hqa)
        obtain ⟨o1, o2⟩ := depI_ok hc f k q hok hkl hqz
        simp only [kidsI]
        rw [if_pos r1]
        generalize depI c f k q = d at r1 r2 r3 o1 o2 ⊢
        have hm : max (d.2.2.getD a 0) (d.2.2.getD k 0) ≤ d.2.1.count 2 := by
          have := low_getD o1 a
          have := low_getD o1 k
          omega
        have hda : d.2.1.getD a 0 ≠ 0 := by rw [o2.kept a hqa]; exact hqa
        obtain ⟨t1, t2, t3⟩ := ihr (d.2.1, d.2.2.set a (max (d.2.2.getD a 0) (d.2.2.getD k 0))) hnd.2 (fun x hx => hin x (List.mem_cons_of_mem _ hx)) (o1.set2 hm) (by have := o2.zeros; simp only; omega) (fun x hx => by
          cases hx0 : d.2.1.getD x 0 with
          | zero => rfl
          | succ m =>
            exfalso
            rcases r3 x (by omega) with e | e | ⟨y, hy, hxy, hy0, _⟩
            · exact e (hks x (List.mem_cons_of_mem _ hx))
            · subst e; exact hnd.1 hx
            · rw [led_once hn hy ha hxy (hin x (List.mem_cons_of_mem _ hx))] at hy0
              exact hqa hy0) hda r2
        obtain ⟨p1, p2⟩ := kidsI_ok (a := a) (fun k s h1 h2 h3 => depI_ok hc f k s h1 h2 h3) r (d.2.1, d.2.2.set a (max (d.2.2.getD a 0) (d.2.2.getD k 0))) (fun x hx => kd_in hc ha x (hin x (List.mem_cons_of_mem _ hx))) (o1.set2 hm) (by have := o2.zeros; simp only; omega)
        refine ⟨t1, t2, fun x hx => ?_⟩
        rcases t3 x hx with e | e | ⟨y, hy, hxy, hy0, hy1⟩
        · rcases r3 x e with e | rfl | ⟨y, hy, hxy, hy0, hy1⟩
          · exact .inl e
          · exact .inr (.inl List.mem_cons_self)
          · refine .inr (.inr ⟨y, hy, hxy, hy0, ?_⟩)
            rw [p2.kept y hy1]; exact hy1
        · exact .inr (.inl (List.mem_cons_of_mem _ e))
        · refine .inr (.inr ⟨y, hy, hxy, ?_, hy1⟩)
          cases hq0 : q.1.getD y 0 with
          | zero => rfl
          | succ m =>
            exfalso
            have := o2.kept y (by omega)
            simp only at hy0
            omega
    obtain ⟨l1, l2, l3⟩ := loop (kd c a) (s.1.set a 1, s.2) (kd_nodup hn ha) (fun k hk => hk) n1 (by simp only; omega) (fun k hk => by
      simp only
      rw [getD_set (by omega)]
      have hne : k ≠ a := fun e => hself (e ▸ hk)
      rw [if_neg hne]
      cases hk0 : s.1.getD k 0 with
      | zero => rfl
      | succ m => exact absurd h0 (hcl a ha k hk (by omega))) (by simp only; rw [getD_set (by omega), if_pos rfl]; omega) hcl1
    obtain ⟨g1, g2⟩ := kidsI_ok (a := a) (fun k s h1 h2 h3 => depI_ok hc f k s h1 h2 h3) (kd c a) (s.1.set a 1, s.2) (kd_in hc ha) n1 (by simp only; omega)
    simp only [depI]
    rw [if_neg (by omega), if_neg (by omega), if_pos l1]
    generalize kidsI (depI c f) a (kd c a) (s.1.set a 1, s.2) = r at l1 l2 l3 g1 g2 ⊢
    have hrl := g1.l1
    have set0 : ∀ x, (r.2.1.set a 2).getD x 0 ≠ 0 ↔ (x = a ∨ r.2.1.getD x 0 ≠ 0) := by
      intro x
      rw [getD_set (by omega)]
      by_cases hx : x = a
      · simp [hx]
      · simp [hx]
    refine ⟨rfl, ?_, ?_⟩
    · intro y hy k hk hne
      simp only at hne ⊢
      rw [set0] at hne ⊢
      rcases hne with rfl | hne
      · right
        have hy0 := hpar y hy hk
        have hya : y ≠ k := fun e => by subst e; exact hy0 h0
        have := g2.kept y (by rw [getD_set (by omega), if_neg hya]; exact hy0)
        rw [this]; simp only; rw [getD_set (by omega), if_neg hya]; exact hy0
      · exact .inr (l2 y hy k hk hne)
    · intro x hx
      simp only at hx ⊢
      rw [set0] at hx
      rcases hx with rfl | hx
      · exact .inr (.inl rfl)
      · rcases l3 x hx with e | e | ⟨y, hy, hxy, hy0, hy1⟩
        · simp only at e
          rw [getD_set (by omega)] at e
          by_cases hxa : x = a
          · exact .inr (.inl hxa)
          · rw [if_neg hxa] at e; exact .inl e
        · exact .inr (.inr ⟨a, ha, e, h0, (set0 a).2 (.inl rfl)⟩)
        · simp only at hy0
          rw [getD_set (by omega)] at hy0
          by_cases hya : y = a
          · rw [if_pos hya] at hy0; omega
          · rw [if_neg hya] at hy0
            exact .inr (.inr ⟨y, hy, hxy, hy0, (set0 y).2 (.inr hy1)⟩)
theorem depth_tree {g : List Th} (hg : Fine g) (h0 : 0 < g.length) (hs : sharedL (canonL g) = []) : (depthL (canonL g)).2 = true := by
  have hc := canon_fine hg
  have hpos := canonL_ne h0
  have hcnt : ∀ k, k < (canonL g).length → cntAt (canonL g) (canonL g).length k ≤ 1 := by
    intro k hk
    unfold sharedL at hs
    rw [List.filter_eq_nil_iff] at hs
    have := hs k (List.mem_range.2 hk)
    simp only [decide_eq_true_eq] at this
    omega
  have hnd : (allK (canonL g)).Nodup := by
    rw [List.nodup_iff_count]
    intro k
    by_cases hk : k ∈ allK (canonL g)
    · have := hcnt k (allK_in hc k hk)
      unfold cntAt at this
      rw [List.take_length] at this
      omega
    · rw [List.count_eq_zero.2 hk]; omega
  have hroot : 0 ∉ allK (canonL g) := by
    intro hk
    have := hcnt 0 hpos
    unfold cntAt at this
    rw [List.take_length, if_pos ⟨hpos, rfl⟩] at this
    have := List.count_pos_iff.2 hk
    omega
  have hz : ∀ x, (zerosD (canonL g)).1.getD x 0 = 0 := by
    intro x
    unfold zerosD
    simp only [List.getD_eq_getElem?_getD, List.getElem?_replicate]
    split <;> rfl
  have := (depI_tree hc hnd ((canonL g).length + 1) 0 (zerosD (canonL g)) (zerosD_ok _) hpos (by simp [zerosD]) (hz 0) (fun y _ k _ h => absurd (hz k) h) (fun y hy h => absurd (allK_kd.2 ⟨y, hy, h⟩) hroot)).1
  unfold depthL
  rw [if_pos this]

/-! The law -/
end Go.Proofs.YtmpjohnbddnehaaDoor.Vf
