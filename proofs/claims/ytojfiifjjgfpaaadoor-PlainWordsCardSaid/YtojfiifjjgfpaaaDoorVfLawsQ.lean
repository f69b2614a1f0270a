
/- The laws PlainParts and PlainWords come to true, whatever the input. No condition but the words' kind. -/
import Derived.Test.YtojfiifjjgfpaaaDoorVfLawsP
namespace Go.Proofs.YtojfiifjjgfpaaaDoor.Vf
set_option linter.unusedVariables false
set_option linter.unusedSimpArgs false

theorem contains_of {l : List UInt8} {c : UInt8} (h : l.contains c = true) : c ∈ l := by simpa using h
theorem brk_ind (c : UInt8) (h : brk c = true) : ind c = true := by
  simp only [brk, List.contains_cons, List.contains_nil, Bool.or_false, Bool.or_eq_true, beq_iff_eq] at h
  rcases h with rfl | rfl | rfl | rfl | rfl <;> rfl
theorem ind35 (c : UInt8) (h : c.toNat = 35) : ind c = true := by
  have : c = 35 := UInt8.toNat_inj.1 h
  rw [this]; rfl

theorem starts_ne {b : List UInt8} {flow : Bool} (h : starts b flow = true) : b ≠ [] := by
  rintro rfl; simp [starts] at h
theorem starts_blank {b : List UInt8} {flow : Bool} (h : starts b flow = true) : blank (b.getD 0 0) = false := by
  unfold starts at h
  rw [if_neg (starts_ne (flow := flow) (by unfold starts; exact h))] at h
  simp only [Bool.and_eq_true, Bool.not_eq_true'] at h
  exact h.1.1.1
theorem starts_tail {b : List UInt8} {flow : Bool} (h : starts b flow = true) : (if sgn (b.getD 0 0) = true then !endsAt b 1 flow else !ind (b.getD 0 0)) = true := by
  unfold starts at h
  rw [if_neg (starts_ne (flow := flow) (by unfold starts; exact h))] at h
  simp only [Bool.and_eq_true] at h
  exact h.2
theorem starts_stop {b : List UInt8} {flow : Bool} (h : starts b flow = true) : stopAt b 0 flow = false := by
  have hb := starts_blank h
  have ht := starts_tail h
  have h9 : (b.getD 0 0).toNat ≠ 9 := by
    intro e; simp only [blank, e] at hb; exact absurd hb (by decide)
  unfold stopAt
  rw [if_neg h9]
  by_cases h58 : (b.getD 0 0).toNat = 58
  · rw [if_pos h58]
    have : sgn (b.getD 0 0) = true := by
      have e : b.getD 0 0 = 58 := UInt8.toNat_inj.1 h58
      rw [e]; rfl
    rw [if_pos this] at ht; simpa using ht
  rw [if_neg h58]
  by_cases h35 : (b.getD 0 0).toNat = 35
  · rw [if_pos h35]; rfl
  rw [if_neg h35]
  cases flow
  · rfl
  · simp only [Bool.true_and]
    cases hbr : brk (b.getD 0 0)
    · rfl
    · have hi := brk_ind _ hbr
      have hs : sgn (b.getD 0 0) = false := by
        cases e : sgn (b.getD 0 0)
        · rfl
        · rw [sgn_not_ind _ e] at hi; cases hi
      rw [hs, hi] at ht; simp at ht

theorem runTo_ge (b : List UInt8) (flow : Bool) : ∀ k i, i ≤ runTo b flow k i
  | 0, i => Nat.le_refl _
  | k + 1, i => by
    simp only [runTo]; split
    · have := runTo_ge b flow k (i + 1); omega
    · exact Nat.le_refl _
theorem runTo_go (b : List UInt8) (flow : Bool) : ∀ k i j, i ≤ j → j < runTo b flow k i → stopAt b j flow = false ∧ j < b.length
  | 0, i, j, h, h' => by simp [runTo] at h'; omega
  | k + 1, i, j, h, h' => by
    simp only [runTo] at h'
    split at h'
    · rename_i hc
      by_cases e : i = j
      · subst e; exact ⟨hc.2, hc.1⟩
      · exact runTo_go b flow k (i + 1) j (by omega) h'
    · omega
/-- It goes as far as nothing stops it. -/
theorem runTo_eq (b : List UInt8) (flow : Bool) : ∀ k i m, i ≤ m → m < i + k → m ≤ b.length → (∀ j, i ≤ j → j < m → stopAt b j flow = false) → (m = b.length ∨ stopAt b m flow = true) → runTo b flow k i = m
  | 0, i, m, h, h', _, _, _ => by omega
  | k + 1, i, m, h, h', hl, hg, he => by
    simp only [runTo]
    by_cases e : i = m
    · subst e
      rw [if_neg (by rintro ⟨a, c⟩; rcases he with he | he; omega; rw [he] at c; cases c)]
    · rw [if_pos ⟨by omega, hg i (Nat.le_refl _) (by omega)⟩]
      exact runTo_eq b flow k (i + 1) m (by omega) (by omega) hl (fun j h1 h2 => hg j (by omega) h2) he
theorem trimTo_last (b : List UInt8) : ∀ n, 0 < trimTo b n → (b.getD (trimTo b n - 1) 0).toNat ≠ 32
  | 0, h => by simp [trimTo] at h
  | n + 1, h => by
    simp only [trimTo] at h ⊢
    split at h
    · rename_i hc; rw [if_pos hc]; exact trimTo_last b n h
    · rename_i hc; rw [if_neg hc]; simpa using hc
theorem trimTo_mono (b : List UInt8) : ∀ n m, n ≤ m → trimTo b n ≤ trimTo b m := by
  intro n m
  induction m with
  | zero => intro h; have : n = 0 := by omega
            subst this; exact Nat.le_refl _
  | succ m ih =>
    intro h
    by_cases e : n = m + 1
    · subst e; exact Nat.le_refl _
    · have := ih (by omega)
      simp only [trimTo]; split
      · exact this
      · have := trimTo_le b n; omega
theorem trimTo_back (b : List UInt8) (n k : Nat) (h : ∀ j, n ≤ j → j < n + k → (b.getD j 0).toNat = 32) (hn : n = 0 ∨ (b.getD (n - 1) 0).toNat ≠ 32) : trimTo b (n + k) = n := by
  induction k with
  | zero =>
    cases n with
    | zero => rfl
    | succ n =>
      simp only [Nat.add_zero, trimTo]
      rw [if_neg (by rcases hn with hn | hn; omega; simpa using hn)]
  | succ k ih =>
    rw [show n + (k + 1) = (n + k) + 1 from rfl]
    simp only [trimTo]
    rw [if_pos (h _ (by omega) (by omega))]
    exact ih fun j h1 h2 => h j h1 (by omega)
theorem trimTo_self (b : List UInt8) (n : Nat) (hn : n = 0 ∨ (b.getD (n - 1) 0).toNat ≠ 32) : trimTo b n = n := trimTo_back b n 0 (fun j h1 h2 => by omega) hn

theorem plen_le (b : List UInt8) (flow : Bool) : plen b flow ≤ b.length := by
  unfold plen; split
  · exact Nat.le_trans (trimTo_le b _) (runTo_le b flow _ 0 (by omega))
  · omega
theorem plen_pos (b : List UInt8) (flow : Bool) : 0 < plen b flow ↔ starts b flow = true := by
  constructor
  · intro h; unfold plen at h; split at h
    · assumption
    · omega
  · intro h
    have hb := length_pos_of (starts_ne h)
    have h0 : (b.getD 0 0).toNat ≠ 32 := by
      intro e; have := starts_blank h; simp only [blank, e] at this; exact absurd this (by decide)
    unfold plen
    rw [if_pos h]
    have h1 : 1 ≤ runTo b flow (b.length + 1) 0 := by
      simp only [runTo]; rw [if_pos ⟨hb, starts_stop h⟩]; exact runTo_ge b flow _ 1
    have := trimTo_mono b 1 _ h1
    have e1 : trimTo b 1 = 1 := trimTo_self b 1 (.inr h0)
    omega
theorem endsAt_flow (b : List UInt8) (i : Nat) (flow : Bool) (h : endsAt b i true = false) : endsAt b i flow = false := by
  unfold endsAt at h ⊢
  split at h
  · cases h
  · rename_i hc; rw [if_neg hc]; cases flow
    · simp only [Bool.or_eq_false_iff] at h ⊢; exact ⟨h.1, rfl⟩
    · exact h
theorem stopAt_flow (b : List UInt8) (i : Nat) (flow : Bool) (h : stopAt b i true = false) : stopAt b i flow = false := by
  unfold stopAt at h ⊢
  split
  · rename_i hc; rw [if_pos hc] at h; cases h
  rename_i hc; rw [if_neg hc] at h
  split
  · rename_i hd; rw [if_pos hd] at h; exact endsAt_flow _ _ _ h
  rename_i hd; rw [if_neg hd] at h
  split
  · rename_i he; rw [if_pos he] at h; exact h
  rename_i he; rw [if_neg he] at h
  cases flow
  · rfl
  · exact h
theorem runTo_flow (b : List UInt8) : ∀ k i, runTo b true k i ≤ runTo b false k i
  | 0, i => Nat.le_refl _
  | k + 1, i => by
    simp only [runTo]
    by_cases h : i < b.length ∧ stopAt b i true = false
    · rw [if_pos h, if_pos ⟨h.1, stopAt_flow _ _ _ h.2⟩]; exact runTo_flow b k (i + 1)
    · rw [if_neg h]; split
      · have := runTo_ge b false k (i + 1); omega
      · exact Nat.le_refl _
theorem starts_flow (b : List UInt8) (h : starts b true = true) : starts b false = true := by
  have hne := starts_ne h
  unfold starts at h ⊢
  rw [if_neg hne] at h ⊢
  simp only [Bool.and_eq_true] at h ⊢
  refine ⟨h.1, ?_⟩
  have := h.2
  split
  · rename_i hs
    rw [if_pos hs] at this
    have := endsAt_flow b 1 false (by simpa using this)
    rw [this]; rfl
  · rename_i hs; rw [if_neg hs] at this; exact this
theorem plen_flow (b : List UInt8) : plen b true ≤ plen b false := by
  unfold plen
  split
  · rename_i h; rw [if_pos (starts_flow b h)]; exact trimTo_mono b _ _ (runTo_flow b _ 0)
  · omega
theorem getD_take {b : List UInt8} {n i : Nat} (h : i < n) : (b.take n).getD i 0 = b.getD i 0 := by
  simp only [List.getD, List.getElem?_take, if_pos h]

/-- What is taken of a plain scalar is one by itself. -/
theorem plen_alone (b : List UInt8) (flow : Bool) (h : 0 < plen b flow) (h1 : ¬ (plen b flow = 1 ∧ sgn (b.getD 0 0) = true)) (h2 : (b.getD (plen b flow - 1) 0).toNat ≠ 58) :
    plen (b.take (plen b flow)) flow = plen b flow := by
  have hs := (plen_pos b flow).1 h
  have hle := plen_le b flow
  have hrun : plen b flow ≤ runTo b flow (b.length + 1) 0 := by
    conv => lhs; unfold plen
    rw [if_pos hs]; exact trimTo_le b _
  have hlast : (b.getD (plen b flow - 1) 0).toNat ≠ 32 := by
    have e : plen b flow = trimTo b (runTo b flow (b.length + 1) 0) := by
      conv => lhs; unfold plen
      rw [if_pos hs]
    rw [e]; exact trimTo_last b _ (by rw [← e]; exact h)
  generalize hn : plen b flow = n at *
  have hl : (b.take n).length = n := by rw [List.length_take]; omega
  have hends : ∀ i, i < n → endsAt (b.take n) i flow = endsAt b i flow := by
    intro i hi
    unfold endsAt
    rw [hl, if_neg (by omega), if_neg (by omega), getD_take hi]
  have hst : starts (b.take n) flow = true := by
    have hne : b.take n ≠ [] := by intro e; rw [e] at hl; simp at hl; omega
    have hb := hs
    unfold starts at hs ⊢
    rw [if_neg (starts_ne hb)] at hs
    rw [if_neg hne]
    rw [getD_take h]
    simp only [Bool.and_eq_true] at hs ⊢
    have ht : ∀ x y z : UInt8, (!(b.take 3 == [x, y, z])) = true → (!((b.take n).take 3 == [x, y, z])) = true := by
      intro x y z h3
      by_cases h3n : 3 ≤ n
      · rw [List.take_take, Nat.min_eq_left h3n]; exact h3
      · rw [take3_short (by omega)]; rfl
    refine ⟨⟨⟨hs.1.1.1, ht _ _ _ hs.1.1.2⟩, ht _ _ _ hs.1.2⟩, ?_⟩
    have h4 := hs.2
    by_cases hg : sgn (b.getD 0 0) = true
    · rw [if_pos hg] at h4 ⊢
      rw [hends 1 (by have : n ≠ 1 := fun e => h1 ⟨e, hg⟩
                      omega)]
      exact h4
    · rw [if_neg hg] at h4 ⊢; exact h4
  have hgo : ∀ j, 0 ≤ j → j < n → stopAt (b.take n) j flow = false := by
    intro j _ hj
    have := (runTo_go b flow (b.length + 1) 0 j (by omega) (by omega)).1
    unfold stopAt at this ⊢
    rw [getD_take hj]
    split
    · rename_i hc; rw [if_pos hc] at this; exact this
    rename_i hc; rw [if_neg hc] at this
    split
    · rename_i hd; rw [if_pos hd] at this
      rw [hends (j + 1) (by have : j ≠ n - 1 := fun e => h2 (by rw [← e]; exact hd)
                            omega)]
      exact this
    rename_i hd; rw [if_neg hd] at this
    split
    · rename_i he; rw [if_pos he] at this
      rw [getD_take (by omega)]; exact this
    rename_i he; rw [if_neg he] at this
    exact this
  have hr := runTo_eq (b.take n) flow ((b.take n).length + 1) 0 n (by omega) (by omega) (by omega) hgo (.inl (by omega))
  unfold plen
  rw [if_pos hst, hr]
  exact trimTo_self _ n (.inr (by rw [getD_take (by omega)]; exact hlast))

theorem pvalid_flow (s : List UInt8) (h : pvalid s true = true) : pvalid s false = true := by
  unfold pvalid at h ⊢
  simp only [Bool.and_eq_true, decide_eq_true_eq] at h ⊢
  have := plen_flow s
  have := plen_le s false
  exact ⟨h.1, by omega⟩

theorem parts_loop (N : Nat) (k0 k1 : Bool → Option Res) (flow : Bool) (xs : List (List UInt8)) (hx : ∀ x ∈ xs, x.length ≤ 1000000 ∧ pvalid x flow = false) (hl : xs.length ≤ 1000) : ∀ (n i : Nat), xs.length < i + n → i ≤ xs.length →
    law04PlainParts_L1 D N k0 k1 n flow (xs.map AV.str) xs.length i = k1 flow := by
  intro n
  induction n with
  | zero => intro i h h'; omega
  | succ n ih =>
    intro i h h'
    simp only [law04PlainParts_L1, law04PlainParts_L1s]
    by_cases hi : i < xs.length
    · rw [cond_d (by omega), need_d (by omega)]
      have hm : xs[i] ∈ xs := List.getElem_mem hi
      simp only [Int.toNat_natCast, List.getElem?_map, List.getElem?_eq_getElem hi, Option.map_some, Option.bind_some, asS_s]
      rw [D_Valid _ (hx _ hm).1, (hx _ hm).2]
      simp only [Option.bind_some, asB_b, cond_false]
      rw [wrap_i64 (by omega) (by omega), show (i : Int) + 1 = ((i + 1 : Nat) : Int) by omega, ih (i + 1) (by omega) (by omega)]
    · rw [cond_nd (by omega)]

def partsL : List (List UInt8) := [[], [45, 32, 97], [63, 32, 97], [58, 32, 97], [45], [35, 97], [38, 97], [42, 97], [33, 97], [124], [62], [39, 97, 39], [34, 97, 34], [37, 97], [64, 97], [96, 97], [91, 97], [123, 97], [93], [125], [44, 97], [45, 45, 45, 32, 97], [46, 46, 46], [97, 58, 32, 98], [97, 32, 35, 98], [32, 97], [97, 32], [97, 9, 98], [97, 58], [97, 10, 98]]
theorem partsL_no (flow : Bool) : ∀ x ∈ partsL, x.length ≤ 1000000 ∧ pvalid x flow = false := by
  cases flow <;> decide
theorem parts_at (N : Nat) (hN : 31 ≤ N) (k0 k1 : Bool → Option Res) (flow : Bool) : law04PlainParts_L1 D N k0 k1 N flow (partsL.map AV.str) 30 0 = k1 flow :=
  parts_loop N k0 k1 flow partsL (partsL_no flow) (by decide) N 0 (by show 30 < 0 + N; omega) (by omega)

set_option maxHeartbeats 4000000 in
theorem D_PlainParts (s : List UInt8) (flow : Bool) : D id_law04PlainParts [.str s, .bool flow] = some ⟨.bool true, false, []⟩ := by
  refine den_fn (N := 31) (F := law04PlainParts) rfl rfl ?_
  rw [law04PlainParts_eq]
  show law04PlainPartsr D 31 s flow = _
  unfold law04PlainPartsr
  rw [show (80 : Int) = ((80 : Nat) : Int) from rfl, D_Text s 80 (by omega)]
  have hs : (s.take 80).length ≤ 80 := by simp; omega
  generalize s.take 80 = s at hs
  have tail : ∀ (k0 k1 : Bool → Option Res), law04PlainParts_L1 D 31 k0 k1 31 flow (partsL.map AV.str) 30 0 = k1 flow := fun k0 k1 => parts_at 31 (by omega) k0 k1 flow
  have v1 : pvalid [45, 97] flow = true := by cases flow <;> decide
  have v2 : pvalid [97, 58, 98] flow = true := by cases flow <;> decide
  have v3 : pvalid [97, 35, 98] flow = true := by cases flow <;> decide
  have v4 : pvalid [97, 44, 32, 98] false = true := by decide
  have v5 : pvalid [97, 44, 32, 98] true = false := by decide
  have hle := plen_le s flow
  have hfl := plen_flow s
  have hpos := plen_pos s flow
  have hst : (decide (((plen s flow : Nat) : Int) > 0) == starts s flow) = true := by
    rw [beq_iff_eq, Bool.eq_iff_iff, decide_eq_true_eq, ← hpos]; omega
  generalize hL : ([AV.str ([] : List UInt8), AV.str ([45, 32, 97] : List UInt8), AV.str ([63, 32, 97] : List UInt8), AV.str ([58, 32, 97] : List UInt8), AV.str ([45] : List UInt8), AV.str ([35, 97] : List UInt8), AV.str ([38, 97] : List UInt8), AV.str ([42, 97] : List UInt8), AV.str ([33, 97] : List UInt8), AV.str ([124] : List UInt8), AV.str ([62] : List UInt8), AV.str ([39, 97, 39] : List UInt8), AV.str ([34, 97, 34] : List UInt8), AV.str ([37, 97] : List UInt8), AV.str ([64, 97] : List UInt8), AV.str ([96, 97] : List UInt8), AV.str ([91, 97] : List UInt8), AV.str ([123, 97] : List UInt8), AV.str ([93] : List UInt8), AV.str ([125] : List UInt8), AV.str ([44, 97] : List UInt8), AV.str ([45, 45, 45, 32, 97] : List UInt8), AV.str ([46, 46, 46] : List UInt8), AV.str ([97, 58, 32, 98] : List UInt8), AV.str ([97, 32, 35, 98] : List UInt8), AV.str ([32, 97] : List UInt8), AV.str ([97, 32] : List UInt8), AV.str ([97, 9, 98] : List UInt8), AV.str ([97, 58] : List UInt8), AV.str ([97, 10, 98] : List UInt8)] : List AV) = L
  have e30 : ∀ k0 k1 : Bool → Option Res, law04PlainParts_L1 D 31 k0 k1 31 flow L ((L.length : Nat) : Int) 0 = k1 flow := by subst hL; exact tail
  have dd : ∀ (x : List UInt8) (f v : Bool), x.length ≤ 1000 → pvalid x f = v → D id_plainValid [.str x, .bool f] = some ⟨.bool v, false, []⟩ := fun x f v h e => by rw [D_Valid x (by omega) f, e]
  have d1 := dd _ _ _ (by decide) v1
  have d2 := dd _ _ _ (by decide) v2
  have d3 := dd _ _ _ (by decide) v3
  have d4 := dd _ _ _ (by decide) v4
  have d5 := dd _ _ _ (by decide) v5
  have d6 := dd s true _ (by omega) rfl
  have d7 := dd s false _ (by omega) rfl
  simp only [Option.bind_some, asS_s]
  rw [D_Length s (by omega) flow]
  simp only [Option.bind_some, asI_i]
  rw [cond_nd (by omega), cond_nd (by omega), D_Starts]
  simp only [Option.bind_some, asB_b]
  rw [hst, D_Length s (by omega) true, D_Length s (by omega) false]
  simp only [Option.bind_some, asI_i, Bool.not_true, cond_false]
  rw [cond_nd (by omega)]
  clear hst
  have hv := pvalid_flow s
  have z0 : Int.toNat 0 = 0 := rfl
  have hw : IntKind.i64.wrap ((plen s flow : Int) - 1) = (plen s flow : Int) - 1 := wrap_i64 (by omega) (by omega)
  have ht1 : Int.toNat ((plen s flow : Int) - 1) = plen s flow - 1 := by omega
  have hb1 : blank (s.getD 0 0) = false ∨ plen s flow = 0 := by
    by_cases h : 0 < plen s flow
    · exact .inl (starts_blank (hpos.1 h))
    · exact .inr (by omega)
  have last : 0 < plen s flow → ((s.getD (plen s flow - 1) 0).toNat : Int) ≠ 32 := by
    intro h
    have hs1 := hpos.1 h
    have e : plen s flow = trimTo s (runTo s flow (s.length + 1) 0) := by
      conv => lhs; unfold plen
      rw [if_pos hs1]
    rw [e]
    have := trimTo_last s _ (by rw [← e]; exact h)
    omega
  by_cases h0 : plen s flow = 0
  · have c1 : (plen s flow : Int) ≠ 1 := by omega
    rw [cond_ne c1]
    cases hvt : pvalid s true
    · simp (disch := omega) only [cond_ne, cond_nd, d6, hvt, Option.bind_some, asB_b, cond_true, cond_false, e30, d1, d2, d3, d4, d5, D_wakes04, Bool.not_true, Bool.not_false]
    · simp (disch := omega) only [cond_ne, cond_nd, d6, d7, hvt, hv hvt, Option.bind_some, asB_b, cond_true, cond_false, e30, d1, d2, d3, d4, d5, D_wakes04, Bool.not_true, Bool.not_false]
  have l0 := last (by omega)
  have al := plen_alone s flow (by omega)
  have pl : 0 < s.length := by omega
  have d8 : ¬ (plen s flow = 1 ∧ sgn (s.getD 0 0) = true) → (s.getD (plen s flow - 1) 0).toNat ≠ 58 → D id_plainLength [.bytes ((s.take (plen s flow)).drop 0), .bool flow] = some ⟨.int .i64 (plen s flow : Nat), false, []⟩ := fun h1 h2 => by
    rw [List.drop_zero, D_Length _ (by rw [List.length_take]; omega) flow, al h1 h2]
  have nn : ¬ ((plen s flow : Int) = (plen s flow : Int)) → False := fun h => h rfl
  have cond_neq : ∀ {a b : Int} {x y : Option Res}, a ≠ b → (bif !(a == b) then x else y) = x := by
    intro a b x y h; rw [beq_false_of_ne h]; rfl
  have cond_neqf : ∀ {a b : Int} {x y : Option Res}, a = b → (bif !(a == b) then x else y) = y := by
    intro a b x y h; subst h; simp
  by_cases h1 : plen s flow = 1
  · rw [cond_eq (by omega)]
    have z1 : plen s flow - 1 = 0 := by omega
    rw [z1] at l0 d8
    have w0 : IntKind.i64.wrap ((plen s flow : Int) - 1) = ((0 : Nat) : Int) := by rw [hw]; omega
    by_cases g45 : (s.getD 0 0).toNat = 45
    · cases hvt : pvalid s true
      · simp (disch := omega) only [need_d, need_d2, z0, get_bn, cond_eq, cond_ne, cond_bne, cond_beq, cond_neq, cond_neqf, cond_d, cond_nd, Int.toNat_natCast, hvt, Option.bind_some, asB_b, asI_i, cond_true, cond_false, e30, d1, d2, d3, d4, d5, d6, d7, D_wakes04, Bool.not_true, Bool.not_false, w0]
      · simp (disch := omega) only [need_d, need_d2, z0, get_bn, cond_eq, cond_ne, cond_bne, cond_beq, cond_neq, cond_neqf, cond_d, cond_nd, Int.toNat_natCast, hvt, Option.bind_some, asB_b, asI_i, cond_true, cond_false, e30, d1, d2, d3, d4, d5, d6, d7, D_wakes04, Bool.not_true, Bool.not_false, hv hvt, w0]
    by_cases g63 : (s.getD 0 0).toNat = 63
    · cases hvt : pvalid s true
      · simp (disch := omega) only [need_d, need_d2, z0, get_bn, cond_eq, cond_ne, cond_bne, cond_beq, cond_neq, cond_neqf, cond_d, cond_nd, Int.toNat_natCast, hvt, Option.bind_some, asB_b, asI_i, cond_true, cond_false, e30, d1, d2, d3, d4, d5, d6, d7, D_wakes04, Bool.not_true, Bool.not_false, w0]
      · simp (disch := omega) only [need_d, need_d2, z0, get_bn, cond_eq, cond_ne, cond_bne, cond_beq, cond_neq, cond_neqf, cond_d, cond_nd, Int.toNat_natCast, hvt, Option.bind_some, asB_b, asI_i, cond_true, cond_false, e30, d1, d2, d3, d4, d5, d6, d7, D_wakes04, Bool.not_true, Bool.not_false, hv hvt, w0]
    by_cases g58 : (s.getD 0 0).toNat = 58
    · cases hvt : pvalid s true
      · simp (disch := omega) only [need_d, need_d2, z0, get_bn, cond_eq, cond_ne, cond_bne, cond_beq, cond_neq, cond_neqf, cond_d, cond_nd, Int.toNat_natCast, hvt, Option.bind_some, asB_b, asI_i, cond_true, cond_false, e30, d1, d2, d3, d4, d5, d6, d7, D_wakes04, Bool.not_true, Bool.not_false, w0]
      · simp (disch := omega) only [need_d, need_d2, z0, get_bn, cond_eq, cond_ne, cond_bne, cond_beq, cond_neq, cond_neqf, cond_d, cond_nd, Int.toNat_natCast, hvt, Option.bind_some, asB_b, asI_i, cond_true, cond_false, e30, d1, d2, d3, d4, d5, d6, d7, D_wakes04, Bool.not_true, Bool.not_false, hv hvt, w0]
    have hsg : sgn (s.getD 0 0) = false := by
      rw [Bool.eq_false_iff]; intro h
      simp only [sgn, List.contains_cons, List.contains_nil, Bool.or_false, Bool.or_eq_true, beq_iff_eq] at h
      rcases h with h | h | h <;> rw [h] at g45 g63 g58 <;> first | exact g45 rfl | exact g63 rfl | exact g58 rfl
    have d9 := d8 (by rw [hsg]; simp) g58
    cases hvt : pvalid s true
    · simp (disch := omega) only [need_d, need_d2, z0, get_bn, cond_eq, cond_ne, cond_bne, cond_beq, cond_neq, cond_neqf, cond_d, cond_nd, Int.toNat_natCast, hvt, Option.bind_some, asB_b, asI_i, cond_true, cond_false, e30, d1, d2, d3, d4, d5, d6, d7, D_wakes04, Bool.not_true, Bool.not_false, w0, d9]
    · simp (disch := omega) only [need_d, need_d2, z0, get_bn, cond_eq, cond_ne, cond_bne, cond_beq, cond_neq, cond_neqf, cond_d, cond_nd, Int.toNat_natCast, hvt, Option.bind_some, asB_b, asI_i, cond_true, cond_false, e30, d1, d2, d3, d4, d5, d6, d7, D_wakes04, Bool.not_true, Bool.not_false, hv hvt, w0, d9]
  rw [cond_ne (by omega)]
  by_cases g58 : (s.getD (plen s flow - 1) 0).toNat = 58
  · cases hvt : pvalid s true
    · simp (disch := omega) only [need_d, need_d2, z0, get_bn, cond_eq, cond_ne, cond_bne, cond_beq, cond_neq, cond_neqf, cond_d, cond_nd, Int.toNat_natCast, hvt, Option.bind_some, asB_b, asI_i, cond_true, cond_false, e30, d1, d2, d3, d4, d5, d6, d7, D_wakes04, Bool.not_true, Bool.not_false, hw, ht1]
    · simp (disch := omega) only [need_d, need_d2, z0, get_bn, cond_eq, cond_ne, cond_bne, cond_beq, cond_neq, cond_neqf, cond_d, cond_nd, Int.toNat_natCast, hvt, Option.bind_some, asB_b, asI_i, cond_true, cond_false, e30, d1, d2, d3, d4, d5, d6, d7, D_wakes04, Bool.not_true, Bool.not_false, hv hvt, hw, ht1]
  have d9 := d8 (fun h => h1 h.1) g58
  cases hvt : pvalid s true
  · simp (disch := omega) only [need_d, need_d2, z0, get_bn, cond_eq, cond_ne, cond_bne, cond_beq, cond_neq, cond_neqf, cond_d, cond_nd, Int.toNat_natCast, hvt, Option.bind_some, asB_b, asI_i, cond_true, cond_false, e30, d1, d2, d3, d4, d5, d6, d7, D_wakes04, Bool.not_true, Bool.not_false, hw, ht1, d9]
  · simp (disch := omega) only [need_d, need_d2, z0, get_bn, cond_eq, cond_ne, cond_bne, cond_beq, cond_neq, cond_neqf, cond_d, cond_nd, Int.toNat_natCast, hvt, Option.bind_some, asB_b, asI_i, cond_true, cond_false, e30, d1, d2, d3, d4, d5, d6, d7, D_wakes04, Bool.not_true, Bool.not_false, hv hvt, hw, ht1, d9]
end Go.Proofs.YtojfiifjjgfpaaaDoor.Vf
