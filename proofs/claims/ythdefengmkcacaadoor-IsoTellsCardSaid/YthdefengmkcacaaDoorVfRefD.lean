
/- How deep a graph is, by the document's own answer. No condition but sizes. -/
import Derived.Test.YthdefengmkcacaaDoorVfDepth
import Derived.Test.YthdefengmkcacaaDoorVfLawsIU
namespace Go.Proofs.YthdefengmkcacaaDoor.Vf
set_option linter.unusedVariables false
set_option linter.unusedSimpArgs false

def ZeroD (s : DS) : Prop := ∀ x, s.1.getD x 0 = 0 → s.2.getD x 0 = 0
theorem kidsI_kept {c : List Th} (hc : Fine c) {f a : Nat} (ha : a < c.length) (H : ∀ k s, OkD c s → k < c.length → s.1.count 0 < f → (∀ x, s.1.getD x 0 ≠ 0 → (depI c f k s).2.2.getD x 0 = s.2.getD x 0) ∧ (ZeroD s → ZeroD (depI c f k s).2)) : ∀ (ks : List Nat) (s : DS), (∀ k ∈ ks, k < c.length) → OkD c s → s.1.count 0 < f → s.1.getD a 0 ≠ 0 →
    (∀ x, x ≠ a → s.1.getD x 0 ≠ 0 → (kidsI (depI c f) a ks s).2.2.getD x 0 = s.2.getD x 0) ∧ (ZeroD s → ZeroD (kidsI (depI c f) a ks s).2)
  | [], s, _, _, _, _ => ⟨fun _ _ _ => rfl, id⟩
  | k :: r, s, hk, hs, hz, h1 => by
    obtain ⟨o1, o2⟩ := depI_ok hc f k s hs (hk k List.mem_cons_self) hz
    obtain ⟨p1, p2⟩ := H k s hs (hk k List.mem_cons_self) hz
    simp only [kidsI]
    obtain ⟨q, hq⟩ : ∃ q, depI c f k s = q := ⟨_, rfl⟩
    rw [hq] at o1 o2 p1 p2 ⊢
    obtain ⟨b, s'⟩ := q
    simp only at o1 o2 p1 p2 ⊢
    cases b
    · rw [if_neg Bool.false_ne_true]
      exact ⟨fun x _ hx => p1 x hx, p2⟩
    · rw [if_pos rfl]
      have hm : max (s'.2.getD a 0) (s'.2.getD k 0) ≤ s'.1.count 2 := by
        have := low_getD o1 a
        have := low_getD o1 k
        omega
      have ok2 := o1.set2 (a := a) hm
      have hl2 := o1.l2
      have hka : s'.1.getD a 0 ≠ 0 := by rw [o2.kept a h1]; exact h1
      have hz2 := o2.zeros
      obtain ⟨q1, q2⟩ := kidsI_kept hc ha H r (s'.1, s'.2.set a (max (s'.2.getD a 0) (s'.2.getD k 0))) (fun k hk' => hk k (List.mem_cons_of_mem _ hk')) ok2 (by simp only; omega) hka
      refine ⟨fun x hx hx0 => ?_, fun hZ => q2 fun x hx => ?_⟩
      · rw [q1 x hx (by show s'.1.getD x 0 ≠ 0; rw [o2.kept x hx0]; exact hx0)]
        show (s'.2.set a _).getD x 0 = _
        rw [getD_set (by omega), if_neg hx]
        exact p1 x hx0
      · show (s'.2.set a _).getD x 0 = 0
        rw [getD_set (by omega), if_neg (fun e => hka (by rw [← e]; exact hx))]
        exact p2 hZ x hx
theorem depI_kept {c : List Th} (hc : Fine c) : ∀ (f a : Nat) (s : DS), OkD c s → a < c.length → s.1.count 0 < f → (∀ x, s.1.getD x 0 ≠ 0 → (depI c f a s).2.2.getD x 0 = s.2.getD x 0) ∧ (ZeroD s → ZeroD (depI c f a s).2) := by
  intro f
  induction f with
  | zero => intro a s _ _ h; omega
  | succ f ih =>
    intro a s hs ha hz
    simp only [depI]
    by_cases h1 : s.1.getD a 0 = 1
    · rw [if_pos h1]; exact ⟨fun _ _ => rfl, id⟩
    rw [if_neg h1]
    by_cases h2 : s.1.getD a 0 = 2
    · rw [if_pos h2]; exact ⟨fun _ _ => rfl, id⟩
    rw [if_neg h2]
    obtain ⟨hz0, n1, n2, n3⟩ := hs.now ha h1 h2
    have hl1 := hs.l1
    obtain ⟨g1, g2⟩ := kidsI_ok (a := a) (fun k s h1 h2 h3 => depI_ok hc f k s h1 h2 h3) (kd c a) (s.1.set a 1, s.2) (kd_in hc ha) n1 (by simp only; omega)
    have hs1 : (s.1.set a 1).getD a 0 ≠ 0 := by rw [getD_set (by omega), if_pos rfl]; omega
    obtain ⟨q1, q2⟩ := kidsI_kept hc ha (fun k s h1 h2 h3 => ih k s h1 h2 h3) (kd c a) (s.1.set a 1, s.2) (kd_in hc ha) n1 (by simp only; omega) hs1
    have keep : ∀ x, s.1.getD x 0 ≠ 0 → x ≠ a ∧ (s.1.set a 1).getD x 0 ≠ 0 := fun x hx => by
      have hxa : x ≠ a := fun e => hx (by rw [e]; exact hz0)
      exact ⟨hxa, by rw [getD_set (by omega), if_neg hxa]; exact hx⟩
    have zero1 : ZeroD s → ZeroD (s.1.set a 1, s.2) := fun hZ x hx => by
      have hx' : (s.1.set a 1).getD x 0 = 0 := hx
      rw [getD_set (by omega)] at hx'
      by_cases hxa : x = a
      · rw [if_pos hxa] at hx'; omega
      · rw [if_neg hxa] at hx'; exact hZ x hx'
    generalize kidsI (depI c f) a (kd c a) (s.1.set a 1, s.2) = r at g1 g2 q1 q2 ⊢
    obtain ⟨b, s'⟩ := r
    simp only at g1 g2 q1 q2 ⊢
    have e1 := g1.l1
    have e2 := g1.l2
    cases b
    · rw [if_neg Bool.false_ne_true]
      exact ⟨fun x hx => q1 x (keep x hx).1 (keep x hx).2, fun hZ => q2 (zero1 hZ)⟩
    · rw [if_pos rfl]
      have gd : ∀ x, x ≠ a → (if (c.getD a default).kind ≠ 1 then s'.2.set a (s'.2.getD a 0 + 1) else s'.2).getD x 0 = s'.2.getD x 0 := fun x hx => by
        split
        · rw [getD_set (by omega), if_neg hx]
        · rfl
      refine ⟨fun x hx => (gd x (keep x hx).1).trans (q1 x (keep x hx).1 (keep x hx).2), fun hZ x hx => ?_⟩
      have hx' : (s'.1.set a 2).getD x 0 = 0 := hx
      rw [getD_set (by omega)] at hx'
      by_cases hxa : x = a
      · rw [if_pos hxa] at hx'; omega
      · rw [if_neg hxa] at hx'
        exact (gd x hxa).trans (q2 (zero1 hZ) x hx')

/-! The same state, as the document's own answer keeps it -/
def onA (s : DS) : List AV := s.1.map fun x : Nat => AV.bool (decide (x = 1))
def knV (s : DS) (x : Nat) : Int := if s.1.getD x 0 = 2 then ((s.2.getD x 0 : Nat) : Int) else -1
def knA (s : DS) : List AV := (List.range s.1.length).map fun x => AV.int .i64 (knV s x)
theorem onA_len (s : DS) : (onA s).length = s.1.length := by simp [onA]
theorem knA_len (s : DS) : (knA s).length = s.1.length := by simp [knA]
theorem onA_get {s : DS} {a : Nat} (h : a < s.1.length) : (onA s)[a]? = some (.bool (decide (s.1.getD a 0 = 1))) := by simp [onA, List.getD, h]
theorem knA_get {s : DS} {a : Nat} (h : a < s.1.length) : (knA s)[a]? = some (.int .i64 (knV s a)) := by simp [knA, h]
theorem onA_set (s : DS) (a v : Nat) (d : List Nat) : (onA s).set a (.bool (decide (v = 1))) = onA (s.1.set a v, d) := by
  unfold onA; rw [List.map_set]
theorem knA_ext {s s' : DS} (hl : s.1.length = s'.1.length) (h : ∀ x, x < s.1.length → knV s x = knV s' x) : knA s = knA s' := by
  unfold knA
  rw [← hl]
  exact List.map_congr_left fun x hx => by rw [h x (List.mem_range.1 hx)]
theorem knA_set1 {s : DS} {a : Nat} (ha : a < s.1.length) (h : s.1.getD a 0 ≠ 2) : knA (s.1.set a 1, s.2) = knA s := by
  refine knA_ext (by simp) fun x _ => ?_
  unfold knV
  simp only
  rw [getD_set ha]
  by_cases hx : x = a
  · subst hx; rw [if_pos rfl, if_neg (by omega), if_neg h]
  · rw [if_neg hx]
theorem knA_dep {s : DS} {a v : Nat} (ha : a < s.2.length) (h : s.1.getD a 0 ≠ 2) : knA (s.1, s.2.set a v) = knA s := by
  refine knA_ext rfl fun x _ => ?_
  unfold knV
  simp only
  rw [getD_set ha]
  by_cases hx : x = a
  · subst hx; rw [if_neg h, if_neg h]
  · rw [if_neg hx]
theorem knA_set2 {s : DS} {a v : Nat} {d : List Nat} (ha : a < s.1.length) (hd : ∀ x, x ≠ a → d.getD x 0 = s.2.getD x 0) (hv : d.getD a 0 = v) : (knA s).set a (.int .i64 ((v : Nat) : Int)) = knA (s.1.set a 2, d) := by
  apply List.ext_getElem?
  intro x
  rw [List.getElem?_set]
  by_cases hx : a = x
  · subst hx
    rw [if_pos rfl, if_pos (by rw [knA_len]; exact ha), knA_get (by simpa using ha)]
    unfold knV
    simp only
    rw [getD_set ha, if_pos rfl, if_pos rfl, hv]
  · rw [if_neg hx]
    by_cases hl : x < s.1.length
    · rw [knA_get hl, knA_get (by simpa using hl)]
      unfold knV
      simp only
      have e : (s.1.set a 2).getD x 0 = s.1.getD x 0 := by rw [getD_set ha, if_neg (fun e => hx e.symm)]
      rw [e, hd x (fun e => hx e.symm)]
    · rw [List.getElem?_eq_none (by rw [knA_len]; omega), List.getElem?_eq_none (by rw [knA_len]; simp; omega)]
def refR (a : Nat) (x : Bool × DS) : Option Res := some ⟨.tup [.int .i64 (bif x.1 then ((x.2.2.getD a 0 : Nat) : Int) else 0), .bool x.1], false, [.ref (.row 1 (onA x.2)), .ref (.row 1 (knA x.2))]⟩
theorem refDepth_loop (c : List Th) (hc : Fine c) (f : Nat) (H : ∀ k s, OkD c s → ZeroD s → k < c.length → s.1.count 0 < f → D id_ref18DepthLow [.row 4 (gA c), .int .i64 ((k : Nat) : Int), .ref (.row 1 (onA s)), .ref (.row 1 (knA s))] = refR k (depI c f k s)) (a : Nat) (ha : a < c.length)
    (ks : List Nat) (hk : ∀ k ∈ ks, k < c.length) (hkl : ks.length ≤ 1000000000) (N : Nat) (k0 : Int → Bool → List AV → List AV → Option Res) (k1 : List AV → Int → Nat → Nat → Int → List AV → List AV → Option Res) : ∀ (n j : Nat) (s : DS), ks.length < j + n → j ≤ ks.length → OkD c s → ZeroD s → s.1.getD a 0 = 1 → s.1.count 0 < f →
    ref18DepthLow_L1 D N k0 k1 n (gA c) a c.length c.length ((s.2.getD a 0 : Nat) : Int) (nA ks) ks.length j (onA s) (knA s) = if (kidsI (depI c f) a (ks.drop j) s).1 = true then k1 (gA c) a c.length c.length (((kidsI (depI c f) a (ks.drop j) s).2.2.getD a 0 : Nat) : Int) (onA (kidsI (depI c f) a (ks.drop j) s).2) (knA (kidsI (depI c f) a (ks.drop j) s).2) else k0 0 false (onA (kidsI (depI c f) a (ks.drop j) s).2) (knA (kidsI (depI c f) a (ks.drop j) s).2) := by
  intro n
  induction n with
  | zero => intro j s h _ _; omega
  | succ n ih =>
    intro j s h hj hs hZ h1 hz
    simp only [ref18DepthLow_L1, ref18DepthLow_L1s]
    by_cases hlt : j < ks.length
    · have hkm : ks.getD j 0 < c.length := hk _ (getD_in hlt)
      obtain ⟨o1, o2⟩ := depI_ok hc f (ks.getD j 0) s hs hkm hz
      obtain ⟨p1, p2⟩ := depI_kept hc f (ks.getD j 0) s hs hkm hz
      rw [cond_d (by omega), need_d (by omega)]
      simp only [Int.toNat_natCast]
      rw [get_nA hlt]
      simp only [asI_i]
      rw [onA_len, knA_len, hs.l1, beqn, need_true, need_true]
      obtain ⟨r, hr⟩ : ∃ r, depI c f (ks.getD j 0) s = r := ⟨_, rfl⟩
      have HH := H _ s hs hZ hkm hz
      rw [hr] at o1 o2 HH p1 p2
      rw [HH]
      have e : ks.drop j = ks.getD j 0 :: ks.drop (j + 1) := by
        rw [List.drop_eq_getElem_cons hlt]; simp [List.getD, hlt]
      rw [e]
      simp only [kidsI, hr, refR, Option.bind_some, asC_c, asRf, asR_r, asN_n, asIBT, asT_t, asI_i, asB_b]
      obtain ⟨b, s'⟩ := r
      simp only at o1 o2 p1 p2 ⊢
      have ka : s'.1.getD a 0 = 1 := by rw [o2.kept a (by omega)]; exact h1
      have kb := p1 a (by omega)
      rw [onA_len, knA_len, o1.l1, beqn, need_true, need_true]
      cases b
      · simp only [Bool.not_false, cond_true, Bool.false_eq_true, if_false]
      · simp only [Bool.not_true, cond_false, cond_true, if_true]
        have hl1 := o1.l1
        have hl2 := o1.l2
        have hm : max (s'.2.getD a 0) (s'.2.getD (ks.getD j 0) 0) ≤ s'.1.count 2 := by
          have := low_getD o1 a
          have := low_getD o1 (ks.getD j 0)
          omega
        rw [max_int, wrap_i64 (by omega) (by omega), show (j : Int) + 1 = ((j + 1 : Nat) : Int) by omega]
        have hz2 := o2.zeros
        have := ih (j + 1) (s'.1, s'.2.set a (max (s'.2.getD a 0) (s'.2.getD (ks.getD j 0) 0))) (by omega) (by omega) (o1.set2 hm) (fun x hx => by
          show (s'.2.set a _).getD x 0 = 0
          rw [getD_set (by omega), if_neg (fun e => by rw [e] at hx; have hx' : s'.1.getD a 0 = 0 := hx; omega)]
          exact p2 hZ x hx) ka (by simp only; omega)
        rw [knA_dep (by omega) (by omega)] at this
        simp only at this
        rw [getD_set (by omega), if_pos rfl, kb] at this
        rw [← kb] at this ⊢
        exact this
    · rw [cond_nd (by omega), List.drop_eq_nil_of_le (by omega)]
      simp only [kidsI, if_true]
theorem D_refDepthLow (c : List Th) (hc : Fine c) : ∀ (f a : Nat) (s : DS), OkD c s → ZeroD s → a < c.length → s.1.count 0 < f →
    D id_ref18DepthLow [.row 4 (gA c), .int .i64 ((a : Nat) : Int), .ref (.row 1 (onA s)), .ref (.row 1 (knA s))] = refR a (depI c f a s) := by
  have hsz := hc.size
  intro f
  induction f with
  | zero => intro a s _ _ _ h; omega
  | succ f ih =>
    intro a s h hZ ha hz
    have hl1 := h.l1
    have hl2 := h.l2
    have hkm := kids_cost (getD_mem ha)
    refine den_fn (N := costOf c [] + 1) (F := ref18DepthLow) rfl rfl ?_
    refine (ref18DepthLow_eq D _ (gA c) ((a : Nat) : Int) (onA s) (knA s)).trans ?_
    unfold ref18DepthLowr
    rw [onA_len, knA_len, need_d2 (by omega) (by omega)]
    simp only [Int.toNat_natCast, Nat.zero_add]
    rw [onA_get (by omega)]
    simp only [Option.bind_some, flat0B, asB_b]
    simp only [depI]
    by_cases h1 : s.1.getD a 0 = 1
    · rw [cond_d h1, if_pos h1]; rfl
    rw [cond_nd h1, if_neg h1, need_d2 (by omega) (by omega), knA_get (by omega)]
    simp only [Option.bind_some, flat0I, asI_i]
    by_cases h2 : s.1.getD a 0 = 2
    · have e : knV s a = ((s.2.getD a 0 : Nat) : Int) := by unfold knV; rw [if_pos h2]
      rw [e, cond_d (by omega), if_pos h2, need_d2 (by omega) (by omega)]; rfl
    have e : knV s a = -1 := by unfold knV; rw [if_neg h2]
    rw [e, cond_nd (by omega), if_neg h2, need_d2 (by omega) (by omega)]
    obtain ⟨hz0, n1, n2, n3⟩ := h.now ha h1 h2
    obtain ⟨g1, g2⟩ := kidsI_ok (a := a) (fun k s h1 h2 h3 => depI_ok hc f k s h1 h2 h3) (kd c a) (s.1.set a 1, s.2) (kd_in hc ha) n1 (by simp only; omega)
    have hkA := kd_iA (hc.kids _ (getD_mem ha))
    have hkl : (kd c a).length = (c.getD a default).kids.length := by simp [kd]
    have h01 : (s.1.set a 1).getD a 0 = 1 := by rw [getD_set (by omega), if_pos rfl]
    have nsB : ∀ (a b : Bool) (y : Option Res), needSt (AV.bool a) (AV.bool b) 0 1 y = y := fun _ _ _ => rfl
    have nsI : ∀ (a b : Int) (y : Option Res), needSt (AV.int .i64 a) (AV.int .i64 b) 0 1 y = y := fun _ _ _ => rfl
    have lp := refDepth_loop c hc f (fun k s h1 h2 h3 h4 => ih k s h1 h2 h3 h4) a ha (kd c a) (kd_in hc ha) (by omega) (costOf c [] + 1) (fun i23 b6 l27 l28 =>
    some ⟨AV.tup [AV.int .i64 i23, AV.bool b6], false, [AV.ref (AV.row 1 l27), AV.ref (AV.row 1 l28)]⟩)
      (fun l29 i24 n8 n9 i25 l30 l31 =>
    need (decide (0 ≤ (i24 : Int)) && decide ((i24 : Int) < ((n8 : Nat) : Int))) <|
    (l30[0 + Int.toNat i24]?).bind fun e8 =>
    needSt e8 (AV.bool false) 0 1 <|
    need (decide (0 ≤ (i24 : Int))) <|
    (l29[Int.toNat i24]?).bind fun e9 =>
    asISSRA e9 fun i26 s3 s4 l32 =>
    bif (i26 : Int) != 1 then
    (need (decide (0 ≤ (i24 : Int)) && decide ((i24 : Int) < ((n9 : Nat) : Int))) <|
    (l31[0 + Int.toNat i24]?).bind fun e10 =>
    needSt e10 (AV.int .i64 (IntKind.i64.wrap (i25 + 1))) 0 1 <|
    some ⟨AV.tup [AV.int .i64 (IntKind.i64.wrap (i25 + 1)), AV.bool true], false, [AV.ref (AV.row 1 (l30.set (0 + Int.toNat i24) (AV.bool false))), AV.ref (AV.row 1 (l31.set (0 + Int.toNat i24) (AV.int .i64 (IntKind.i64.wrap (i25 + 1)))))]⟩)
    else
    need (decide (0 ≤ (i24 : Int)) && decide ((i24 : Int) < ((n9 : Nat) : Int))) <|
    (l31[0 + Int.toNat i24]?).bind fun e11 =>
    needSt e11 (AV.int .i64 i25) 0 1 <|
    some ⟨AV.tup [AV.int .i64 i25, AV.bool true], false, [AV.ref (AV.row 1 (l30.set (0 + Int.toNat i24) (AV.bool false))), AV.ref (AV.row 1 (l31.set (0 + Int.toNat i24) (AV.int .i64 i25)))]⟩) (costOf c [] + 1) 0 (s.1.set a 1, s.2) (by omega) (by omega) n1 (fun x hx => by
      have hx' : (s.1.set a 1).getD x 0 = 0 := hx
      rw [getD_set (by omega)] at hx'
      by_cases hxa : x = a
      · rw [if_pos hxa] at hx'; omega
      · rw [if_neg hxa] at hx'; exact hZ x hx') h01 (by simp only; omega)
    rw [nsB, need_d (by omega), get_gA ha, asTh, hkA, nA_len, hl1, show AV.bool true = .bool (decide ((1 : Nat) = 1)) from rfl, onA_set s a 1 s.2, ← knA_set1 (s := s) (by omega) h2]
    simp only [hZ a hz0, Int.toNat_natCast, Nat.zero_add] at lp
    refine lp.trans ?_
    rw [List.drop_zero]
    generalize kidsI (depI c f) a (kd c a) (s.1.set a 1, s.2) = r at g1 g2 ⊢
    obtain ⟨b, s'⟩ := r
    simp only at g1 g2 ⊢
    cases b
    · simp only [Bool.false_eq_true, if_false, refR, cond_false]
    · simp only [if_true, refR, cond_true]
      have q1 := g1.l1
      have q2 := g1.l2
      have q3 := low_getD g1 a
      have q4 := @count_len s'.1 2
      have ka : s'.1.getD a 0 = 1 := by rw [g2.kept a (by simp only; omega)]; exact h01
      rw [need_d2 (by omega) (by omega), onA_get (by omega), Option.bind_some, nsB, need_d (by omega), get_gA ha, asTh, show AV.bool false = .bool (decide ((2 : Nat) = 1)) from rfl]
      by_cases hk1 : (c.getD a default).kind = 1
      · rw [cond_beq (by exact hk1), need_d2 (by omega) (by omega), knA_get (by omega), Option.bind_some, nsI, if_neg (fun h => h hk1), onA_set s' a 2 s'.2, knA_set2 (by omega) (fun _ _ => rfl) rfl]
      · rw [cond_bne (by exact hk1), need_d2 (by omega) (by omega), knA_get (by omega), Option.bind_some, nsI, if_pos hk1, wrap_i64 (by omega) (by omega), show ((s'.2.getD a 0 : Nat) : Int) + 1 = ((s'.2.getD a 0 + 1 : Nat) : Int) by omega, onA_set s' a 2 (s'.2.set a (s'.2.getD a 0 + 1)), knA_set2 (d := s'.2.set a (s'.2.getD a 0 + 1)) (by omega) (fun x hx => by rw [getD_set (by omega), if_neg hx]) (by rw [getD_set (by omega), if_pos rfl]), getD_set (by omega), if_pos rfl]
end Go.Proofs.YthdefengmkcacaaDoor.Vf
