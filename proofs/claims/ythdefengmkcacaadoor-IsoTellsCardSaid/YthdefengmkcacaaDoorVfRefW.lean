
/- Which lists are graphs: the document's own answer is the program's. No condition but sizes. -/
import Derived.Test.YthdefengmkcacaaDoorVfRefV
namespace Go.Proofs.YthdefengmkcacaaDoor.Vf
set_option linter.unusedVariables false
set_option linter.unusedSimpArgs false

section
variable {N : Nat} (hN : 0 < N) {k0 : Bool → Option Res} {g : List Th} (hg : g.length ≤ 1000000000)
/-- What is looked at behind the kind. -/
theorem ref_tail {t : Th} (ht : t.small) {x y : Option Res} : (bif t.tag == ([33] : List UInt8) then x else (D id_ref08ValidTag [AV.str t.tag]).bind fun r1 => asB r1.v fun b1 => bif !b1 then x else (D id_ref18Utf8 [AV.str t.value]).bind fun r2 => asB r2.v fun b2 => bif !b2 then x else y) = if (t.tag == [33]) = false ∧ vtag t.tag = true ∧ Lib.validD t.value = true then y else x := by
  rw [D_refValidTag _ ht.1, D_refUtf8]
  simp only [Option.bind_some, asB_b]
  cases h1 : (t.tag == ([33] : List UInt8))
  · cases h2 : vtag t.tag
    · simp
    · cases h3 : Lib.validD t.value <;> simp
  · simp
include hN in
theorem refJ2 {k1} {i : Nat} (hi : i < g.length) (hi2 : i ≤ 1000000000) {t : Th} (hti : g.getD i default = t) (ht : t.small) (hkN : t.kids.length + 2 < N) {a : Int} :
    ((HeadOk t ∧ kidsOk g t) → ref18Valid_J2 D N k0 k1 (gA g) a i = k1 (gA g) a ((i + 1 : Nat) : Int)) ∧
    (¬ (HeadOk t ∧ kidsOk g t) → ref18Valid_J2 D N k0 k1 (gA g) a i = k0 false) := by
  have hk := ht.2.2
  have j13 : ∀ k1, ref18Valid_J13 D N k1 (gA g) a i = k1 (gA g) a ((i + 1 : Nat) : Int) := by
    intro k1
    unfold ref18Valid_J13
    rw [posN_pos hN, wrap_i64 (by omega) (by omega)]
    rfl
  obtain ⟨i1, i2⟩ := refJ3 (k0 := k0) (k1 := fun l162 i316 i317 => ref18Valid_J13 D N k1 l162 i316 i317) (g := g) (t := t) hN hk hkN (a := a) (b := i) (s1 := t.tag) (s2 := t.value)
  have tl : HeadOk t ∨ (¬ HeadOk t ∧ ((t.tag == [33]) = true ∨ vtag t.tag = false ∨ Lib.validD t.value = false)) → ((HeadOk t ∧ kidsOk g t) → (if (t.tag == [33]) = false ∧ vtag t.tag = true ∧ Lib.validD t.value = true then ref18Valid_J3 D N k0 (fun l162 i316 i317 => ref18Valid_J13 D N k1 l162 i316 i317) (gA g) a i t.kind t.tag t.value (iA t.kids) else k0 false) = k1 (gA g) a ((i + 1 : Nat) : Int)) ∧
    (¬ (HeadOk t ∧ kidsOk g t) → (if (t.tag == [33]) = false ∧ vtag t.tag = true ∧ Lib.validD t.value = true then ref18Valid_J3 D N k0 (fun l162 i316 i317 => ref18Valid_J13 D N k1 l162 i316 i317) (gA g) a i t.kind t.tag t.value (iA t.kids) else k0 false) = k0 false) := by
    rintro (h | ⟨h, h'⟩)
    · rw [if_pos ⟨h.tag, h.tag2, h.utf8⟩]
      exact ⟨fun H => (i1 H.2).trans (j13 k1), fun H => i2 fun h2 => H ⟨h, h2⟩⟩
    · rw [if_neg (by rintro ⟨a1, a2, a3⟩; rcases h' with e | e | e <;> simp_all)]
      exact ⟨fun H => absurd H.1 h, fun _ => rfl⟩
  have dec3 : ((t.tag == [33]) = false ∧ vtag t.tag = true ∧ Lib.validD t.value = true) ∨ ((t.tag == [33]) = true ∨ vtag t.tag = false ∨ Lib.validD t.value = false) := by
    cases (t.tag == ([33] : List UInt8)) <;> cases vtag t.tag <;> cases Lib.validD t.value <;> simp
  have bad : ¬ HeadOk t → ((HeadOk t ∧ kidsOk g t) → k0 false = k1 (gA g) a ((i + 1 : Nat) : Int)) ∧ (¬ (HeadOk t ∧ kidsOk g t) → k0 false = k0 false) := fun h => ⟨fun H => absurd H.1 h, fun _ => rfl⟩
  have fin : (t.kind = 1 ∨ t.kind = 2 ∨ t.kind = 3) → (t.kind = 1 → t.kids = []) → (t.kind ≠ 1 → t.value = []) → (t.kind = 3 → t.kids.length % 2 = 0) → HeadOk t ∨ (¬ HeadOk t ∧ ((t.tag == [33]) = true ∨ vtag t.tag = false ∨ Lib.validD t.value = false)) := by
    intro a1 a2 a3 a4
    rcases dec3 with ⟨b1, b2, b3⟩ | h
    · exact .inl ⟨a1, a2, a3, a4, b1, b2, b3⟩
    · exact .inr ⟨fun H => by have := H.tag; have := H.tag2; have := H.utf8; simp_all, h⟩
  unfold ref18Valid_J2
  rw [posN_pos hN, need_d (by omega), Int.toNat_natCast, get_gA hi, hti, asTh]
  simp only [ref_tail ht, iA_len, need_nd (show ¬ (2 : Nat) = 0 by omega)]
  by_cases h1 : t.kind = 1
  · simp only [cond_beq h1, cond_eq h1]
    by_cases h2 : t.kids = []
    · rw [cond_nd (by rw [h2]; simp), cond_ne (by omega)]
      exact tl (fin (.inl h1) (fun _ => h2) (fun h => absurd h1 h) (fun h => by omega))
    · rw [cond_d (by have := List.length_pos_iff.2 h2; omega)]
      exact bad fun H => h2 (H.leaf h1)
  · simp only [cond_bne h1, cond_ne h1]
    have e2 : Int.tmod ((t.kids.length : Nat) : Int) 2 = ((t.kids.length % 2 : Nat) : Int) := by rw [Int.tmod_eq_emod_of_nonneg (by omega)]; omega
    by_cases h2 : t.kind = 2
    · simp only [cond_beq h2]
      by_cases hv : t.value = []
      · rw [show (t.value == ([] : List UInt8)) = true by simpa using hv, Bool.not_true, cond_false, cond_ne (by omega)]
        exact tl (fin (.inr (.inl h2)) (fun h => absurd h h1) (fun _ => hv) (fun h => by omega))
      · rw [show (t.value == ([] : List UInt8)) = false by simpa using hv, Bool.not_false, cond_true]
        exact bad fun H => hv (H.text h1)
    · simp only [cond_bne h2]
      by_cases h3 : t.kind = 3
      · simp only [cond_beq h3, cond_eq h3]
        by_cases hv : t.value = []
        · rw [show (t.value == ([] : List UInt8)) = true by simpa using hv, Bool.not_true, cond_false, e2]
          by_cases he : t.kids.length % 2 = 0
          · rw [cond_beq (by omega)]
            exact tl (fin (.inr (.inr h3)) (fun h => absurd h h1) (fun _ => hv) (fun _ => he))
          · rw [cond_bne (by omega)]
            exact bad fun H => he (H.even h3)
        · rw [show (t.value == ([] : List UInt8)) = false by simpa using hv, Bool.not_false, cond_true]
          exact bad fun H => hv (H.text h1)
      · simp only [cond_bne h3]
        exact ⟨fun H => by rcases H.1.kind with h | h | h <;> contradiction, fun _ => trivial⟩
include hN hg in
theorem refL1 {k1} (hs : ∀ t ∈ g, t.small) (hkN : ∀ t ∈ g, t.kids.length + 2 < N) : ∀ (n i : Nat), g.length < i + n → i ≤ g.length →
    ((∀ q, i ≤ q → q < g.length → HeadOk (g.getD q default) ∧ kidsOk g (g.getD q default)) → ref18Valid_L1 D N k0 k1 n (gA g) g.length i = k1 (gA g)) ∧
    ((¬ ∀ q, i ≤ q → q < g.length → HeadOk (g.getD q default) ∧ kidsOk g (g.getD q default)) → ref18Valid_L1 D N k0 k1 n (gA g) g.length i = k0 false) := by
  intro n
  induction n with
  | zero => intro j h h2; omega
  | succ n ih =>
    intro i h h2
    simp only [ref18Valid_L1, ref18Valid_L1s]
    by_cases hlt : i < g.length
    · have hm : g.getD i default ∈ g := getD_mem hlt
      rw [cond_d (by omega)]
      obtain ⟨i1, i2⟩ := refJ2 (k0 := k0) (k1 := fun l217 i426 i427 => ref18Valid_L1 D N k0 k1 n l217 i426 i427) hN hlt (by omega) rfl (hs _ hm) (hkN _ hm) (a := g.length)
      obtain ⟨i3, i4⟩ := ih (i + 1) (by omega) (by omega)
      refine ⟨fun H => (i1 (H i (Nat.le_refl _) hlt)).trans (i3 fun q hq => H q (by omega)), fun H => ?_⟩
      by_cases hc : HeadOk (g.getD i default) ∧ kidsOk g (g.getD i default)
      · refine (i1 hc).trans (i4 fun h5 => H fun q hq hq2 => ?_)
        by_cases e : q = i
        · rw [e]; exact hc
        · exact h5 q (by omega) hq2
      · exact i2 hc
    · rw [cond_nd (by omega)]
      exact ⟨fun _ => rfl, fun H => absurd (fun q h1 h2 => by omega) H⟩
end
/-! Keys -/
theorem keyedGo_none {g : List Th} : ∀ {l : List Int} {acc : List Key}, (∃ k ∈ l, (g.getD k.toNat default).kind ≠ 1) → keyedGo g l acc = none
  | [], _, h => by obtain ⟨_, h, _⟩ := h; cases h
  | a :: r, acc, h => by
    simp only [keyedGo]
    by_cases h1 : (g.getD a.toNat default).kind = 1
    · rw [if_pos h1]
      obtain ⟨k, hk, h2⟩ := h
      rcases List.mem_cons.1 hk with rfl | hk
      · exact absurd h1 h2
      · exact keyedGo_none ⟨k, hk, h2⟩
    · rw [if_neg h1]
theorem keyedGo_len {g : List Th} : ∀ (l : List Int) (acc : List Key), (∀ k ∈ l, (g.getD k.toNat default).kind = 1) → ∃ r, keyedGo g l acc = some r ∧ r.length ≤ acc.length + l.length ∧ (r.length = acc.length + l.length ↔ (∀ k ∈ l, (g.getD k.toNat default).key ∉ acc) ∧ l.Pairwise fun a b => (g.getD a.toNat default).key ≠ (g.getD b.toNat default).key)
  | [], acc, _ => ⟨acc, rfl, by simp, by simp⟩
  | a :: r, acc, h => by
    simp only [keyedGo]
    rw [if_pos (h a List.mem_cons_self)]
    obtain ⟨q, h1, h2, h3⟩ := keyedGo_len r (putK acc (g.getD a.toNat default).key) fun k hk => h k (List.mem_cons_of_mem _ hk)
    refine ⟨q, h1, ?_⟩
    unfold putK at h2 h3
    simp only [List.length_cons, List.mem_cons, List.pairwise_cons, forall_eq_or_imp]
    by_cases hm : (g.getD a.toNat default).key ∈ acc
    · rw [if_pos hm] at h2
      exact ⟨by omega, fun h => by omega, fun h => absurd hm h.1.1⟩
    · rw [if_neg hm] at h2 h3
      simp only [List.length_append, List.length_singleton] at h2 h3
      refine ⟨by omega, ?_⟩
      rw [show acc.length + (r.length + 1) = acc.length + 1 + r.length by omega, h3]
      simp only [List.mem_append, List.mem_singleton, not_or]
      exact ⟨fun ⟨x1, x2⟩ => ⟨⟨hm, fun k hk => (x1 k hk).1⟩, fun k hk e => (x1 k hk).2 e.symm, x2⟩, fun ⟨⟨_, x1⟩, x2, x3⟩ => ⟨fun k hk => ⟨x1 k hk, fun e => x2 k hk e.symm⟩, x3⟩⟩
theorem evens_len : ∀ l : List Int, l.length % 2 = 0 → (evens l).length = l.length / 2
  | [], _ => rfl
  | [a], h => by simp at h
  | a :: b :: r, h => by
    simp only [evens, List.length_cons] at h ⊢
    rw [evens_len r (by omega)]; omega
theorem evens_getD : ∀ (l : List Int) (q : Nat), l.length % 2 = 0 → (evens l).getD q 0 = l.getD (2 * q) 0
  | [], q, _ => by simp [evens]
  | [a], q, h => by simp at h
  | a :: b :: r, q, h => by
    simp only [List.length_cons] at h
    cases q with
    | zero => rfl
    | succ q =>
      have := evens_getD r q (by omega)
      simpa [evens, show 2 * (q + 1) = 2 * q + 1 + 1 by omega] using this
theorem keyed_iff {g : List Th} {l : List Int} (hin : inG g l) (he : l.length % 2 = 0) :
    keyedP g l = true ↔ ∀ j, j < l.length → j % 2 = 0 → (g.getD (l.getD j 0).toNat default).kind = 1 ∧ ∀ m, m < j → m % 2 = 0 → dupAt g l (l.getD j 0).toNat m = false := by
  have hl := evens_len l he
  have hmem : ∀ k, k ∈ evens l ↔ ∃ q, 2 * q < l.length ∧ l.getD (2 * q) 0 = k := by
    intro k
    rw [List.mem_iff_getElem]
    constructor
    · rintro ⟨q, hq, rfl⟩
      refine ⟨q, by omega, ?_⟩
      rw [← evens_getD l q he]; simp [List.getD, hq]
    · rintro ⟨q, hq, rfl⟩
      refine ⟨q, by omega, ?_⟩
      rw [← evens_getD l q he]; simp [List.getD, show q < (evens l).length by omega]
  have dup : ∀ q m, m < l.length → (dupAt g l q m = false ↔ (g.getD (l.getD m 0).toNat default).key ≠ (g.getD q default).key) := by
    intro q m hm
    have := hin (l.getD m 0) (by simp [List.getD, hm])
    unfold dupAt
    simp only [this.1, this.2, decide_true, Bool.true_and, decide_eq_false_iff_not, ne_eq]
  unfold keyedP
  by_cases hk : ∀ k ∈ evens l, (g.getD k.toNat default).kind = 1
  · obtain ⟨r, h1, h2, h3⟩ := keyedGo_len (evens l) [] hk
    rw [h1]
    simp only [he, true_and, decide_eq_true_eq]
    rw [← hl]
    simp only [List.length_nil, Nat.zero_add, List.not_mem_nil, not_false_eq_true, implies_true, true_and] at h3
    rw [h3, List.pairwise_iff_getElem]
    have gE : ∀ q (hq : q < (evens l).length), (evens l)[q] = l.getD (2 * q) 0 := fun q hq => by rw [← evens_getD l q he]; simp [List.getD, hq]
    constructor
    · intro H j hj h0
      refine ⟨hk _ ((hmem _).2 ⟨j / 2, by omega, by rw [show 2 * (j / 2) = j by omega]⟩), fun m hm hm0 => (dup _ _ (by omega)).2 ?_⟩
      have := H (m / 2) (j / 2) (by omega) (by omega) (by omega)
      rw [gE, gE, show 2 * (m / 2) = m by omega, show 2 * (j / 2) = j by omega] at this
      exact this
    · intro H i j hi hj hij
      rw [gE, gE]
      exact (dup _ _ (by omega)).1 ((H (2 * j) (by omega) (by omega)).2 (2 * i) (by omega) (by omega))
  · have hk' : ∃ k ∈ evens l, (g.getD k.toNat default).kind ≠ 1 := by
      refine Classical.byContradiction fun hc => hk fun k hkm => Classical.byContradiction fun h => hc ⟨k, hkm, h⟩
    rw [keyedGo_none hk']
    refine ⟨fun h => by simp at h, fun H => ?_⟩
    obtain ⟨k, hkm, h1⟩ := hk'
    obtain ⟨q, hq, rfl⟩ := (hmem k).1 hkm
    exact absurd (H (2 * q) hq (by omega)).1 h1
theorem right_iff {g : List Th} {t : Th} : rightP g t = true ↔ HeadOk t ∧ kidsOk g t := by
  have hin : kidsIn g t.kids = true ↔ inG g t.kids := ⟨kidsIn_inG, fun h => List.all_eq_true.2 fun k hk => by simpa using h k hk⟩
  have hin2 : kidsOk g t → inG g t.kids := fun h k hk => by
    obtain ⟨q, hq, rfl⟩ := List.mem_iff_getElem.1 hk
    have := (h q hq).1
    simpa [List.getD, hq] using this
  have mk : inG g t.kids → (t.kind = 3 → ∀ j, j < t.kids.length → j % 2 = 0 → (g.getD (t.kids.getD j 0).toNat default).kind = 1 ∧ ∀ m, m < j → m % 2 = 0 → dupAt g t.kids (t.kids.getD j 0).toNat m = false) → kidsOk g t := fun h h' q hq => ⟨h _ (by simp [List.getD, hq]), fun h3 h2 => h' h3 q hq h2⟩
  unfold rightP
  simp only [Bool.and_eq_true, Bool.not_eq_true', hin]
  by_cases h1 : t.kind = 1
  · rw [if_pos h1]
    simp only [Bool.and_eq_true, List.isEmpty_iff]
    exact ⟨fun ⟨⟨⟨a, b⟩, c⟩, d, e⟩ => ⟨⟨.inl h1, fun _ => d, fun h => absurd h1 h, fun h => by omega, b, a, e⟩, mk c fun h => by omega⟩,
      fun ⟨h, h'⟩ => ⟨⟨⟨h.tag2, h.tag⟩, hin2 h'⟩, h.leaf h1, h.utf8⟩⟩
  rw [if_neg h1]
  by_cases h2 : t.kind = 2
  · rw [if_pos h2]
    simp only [beq_iff_eq]
    exact ⟨fun ⟨⟨⟨a, b⟩, c⟩, d⟩ => ⟨⟨.inr (.inl h2), fun h => absurd h h1, fun _ => d, fun h => by omega, by simpa using b, a, by rw [d]; rfl⟩, mk c fun h => by omega⟩,
      fun ⟨h, h'⟩ => ⟨⟨⟨h.tag2, by simpa using h.tag⟩, hin2 h'⟩, h.text h1⟩⟩
  rw [if_neg h2]
  by_cases h3 : t.kind = 3
  · rw [if_pos h3]
    simp only [Bool.and_eq_true, beq_iff_eq]
    constructor
    · rintro ⟨⟨⟨a, b⟩, c⟩, d, e⟩
      have he : t.kids.length % 2 = 0 := by
        unfold keyedP at e
        split at e
        · simp only [decide_eq_true_eq] at e; exact e.1
        · cases e
      exact ⟨⟨.inr (.inr h3), fun h => absurd h h1, fun _ => d, fun _ => he, by simpa using b, a, by rw [d]; rfl⟩, mk c fun _ => (keyed_iff c he).1 e⟩
    · rintro ⟨h, h'⟩
      exact ⟨⟨⟨h.tag2, by simpa using h.tag⟩, hin2 h'⟩, h.text h1, (keyed_iff (hin2 h') (h.even h3)).2 fun j hj h0 => (h' j hj).2 h3 h0⟩
  · rw [if_neg h3]
    exact ⟨fun h => by simp at h, fun ⟨h, _⟩ => by rcases h.kind with h | h | h <;> contradiction⟩
theorem D_refGraph (g : List Th) (hg : g.length ≤ 1000000000) (hs : ∀ t ∈ g, t.small) : D id_ref18Valid [.row 4 (gA g)] = some ⟨.bool (validP g), false, []⟩ := by
  refine den_fn (N := g.length + 1000000003) (F := ref18Valid) rfl rfl ?_
  refine (ref18Valid_eq D _ (gA g)).trans ?_
  unfold ref18Validr
  rw [gA_len, show (0 : Int) = ((0 : Nat) : Int) from rfl]
  obtain ⟨h1, h2⟩ := refL1 (N := g.length + 1000000003) (by omega) hg hs (fun t ht => by have := (hs t ht).2.2; omega) (k0 := fun b108 => some ⟨AV.bool b108, false, []⟩) (k1 := fun l220 => some ⟨AV.bool (decide ((((l220.length : Nat) : Int) : Int) > ((0 : Nat) : Int))), false, []⟩) (g.length + 1000000003) 0 (by omega) (by omega)
  unfold validP
  cases ha : g.all (rightP g)
  · rw [h2, Bool.and_false]
    intro H
    have : g.all (rightP g) = true := List.all_eq_true.2 fun t ht => by
      obtain ⟨q, hq, rfl⟩ := List.mem_iff_getElem.1 ht
      have := H q (Nat.zero_le _) hq
      exact right_iff.2 (by simpa [List.getD, hq] using this)
    rw [ha] at this; cases this
  · rw [h1 fun q _ hq => right_iff.1 (List.all_eq_true.1 ha _ (getD_mem hq))]
    refine retB_congr ?_
    rw [gA_len, Bool.and_true, Bool.eq_iff_iff]
    cases g <;> simp
end Go.Proofs.YthdefengmkcacaaDoor.Vf
