
/- Which lists are graphs, by the document's own answer. No condition but sizes. -/
import Derived.Test.YthdefengmkcacaaDoorVfPutD
import Derived.Test.YthdefengmkcacaaDoorVfProps
import Derived.Test.YthdefengmkcacaaDoorVfIsoB
namespace Go.Proofs.YthdefengmkcacaaDoor.Vf
set_option linter.unusedVariables false
set_option linter.unusedSimpArgs false

theorem utf8_loop (N : Nat) (k0 : Bool → Option Res) (k1 : Option Res) : ∀ (f : Nat) (s : List UInt8), s.length ≤ f → ref18Utf8_L1 D N k0 k1 (f + 1) s = if Lib.validGoD f s = true then k1 else k0 false := by
  intro f
  induction f with
  | zero =>
    intro s hs
    obtain rfl : s = [] := List.length_eq_zero_iff.1 (by omega)
    rfl
  | succ f ih =>
    intro s hs
    rw [show ref18Utf8_L1 D N k0 k1 (f + 1 + 1) s = ref18Utf8_L1s D N (ref18Utf8_L1 D N k0 k1 (f + 1)) k0 k1 s from rfl]
    simp only [ref18Utf8_L1s]
    by_cases hn : s = []
    · subst hn
      rw [cond_nd (by simp)]; simp [Lib.validGoD]
    have hp := length_pos_of hn
    have hsz := rune_size' s hn
    rw [cond_d (by omega), D_refRune]
    simp only [Option.bind_some, asJIBT, asT_t, asC_c, asI_i, asB_b, asN_n]
    by_cases hbad : (dec s).1 = 65533 ∧ (dec s).2 < 2
    · have hr : (rune s).2.2 = false := by unfold rune; rw [if_pos hbad]
      have hr1 : (rune s).2.1 = (dec s).2 := by unfold rune; rw [if_pos hbad]
      have hvg : Lib.validGoD (f + 1) s = false := by simp only [Lib.validGoD]; rw [if_neg hn, decL s hn, if_pos ⟨hbad.1, by omega⟩]
      rw [hr, hvg]; rfl
    · have hr : rune s = ((dec s).1, (dec s).2, true) := by unfold rune; rw [if_neg hbad]
      have hvg : Lib.validGoD (f + 1) s = Lib.validGoD f (s.drop (dec s).2) := by simp only [Lib.validGoD]; rw [if_neg hn, decL s hn, if_neg (fun e => hbad ⟨e.1, by omega⟩)]
      rw [hr] at hsz ⊢
      simp only at hsz
      rw [hvg]
      simp only [Bool.not_true, cond_false]
      rw [need_d2 (by omega) (by omega), List.take_length, Int.toNat_natCast]
      exact ih _ (by rw [List.length_drop]; omega)
theorem D_refUtf8 (s : List UInt8) : D id_ref18Utf8 [.str s] = some ⟨.bool (Lib.validD s), false, []⟩ := by
  refine den_fn (N := s.length + 100 + 1) (F := ref18Utf8) rfl rfl ?_
  refine (ref18Utf8_eq D _ s).trans ?_
  unfold ref18Utf8r
  rw [utf8_loop _ _ _ (s.length + 100) s (by omega), Lib.validGoD_fuel _ _ s (by omega) (Nat.le_refl _)]
  show (if Lib.validD s = true then _ else _) = _
  cases Lib.validD s <;> rfl

/-- Is the key at a place that of a thing? -/
def dupAt (g : List Th) (ks : List Int) (q m : Nat) : Bool := decide (0 ≤ ks.getD m 0) && decide (ks.getD m 0 < (g.length : Int)) && decide ((g.getD (ks.getD m 0).toNat default).key = (g.getD q default).key)
def chkAt (g : List Th) (t : Th) (j : Nat) : Prop :=
  (0 ≤ t.kids.getD j 0 ∧ t.kids.getD j 0 < (g.length : Int)) ∧ (t.kind = 3 → j % 2 = 0 → (g.getD (t.kids.getD j 0).toNat default).kind = 1 ∧ ∀ m, m < j → m % 2 = 0 → dupAt g t.kids (t.kids.getD j 0).toNat m = false)
section
variable {N : Nat} (hN : 0 < N) {k0 : Bool → Option Res} {g : List Th} (hg : g.length ≤ 1000000000)
include hN in
theorem refJ10 {k1} {ks : List Int} (hk : ks.length ≤ 1000000000) {j q m : Nat} (hm : m < ks.length) (hq : q < g.length) {a b : Int} {lr : List AV} {c d e : Int} {s1 s2 : List UInt8} :
    ref18Valid_J10 D N k0 k1 (gA g) j q m a b lr c d e s1 s2 (iA ks) = if dupAt g ks q m = true then k0 false else k1 (gA g) j q ((m + 2 : Nat) : Int) a b lr c d e s1 s2 (iA ks) := by
  unfold ref18Valid_J10
  have j11 : ∀ k1, ref18Valid_J11 D N k1 (gA g) j q m a b lr c d e s1 s2 (iA ks) = k1 (gA g) j q ((m + 2 : Nat) : Int) a b lr c d e s1 s2 (iA ks) := by
    intro k1
    unfold ref18Valid_J11
    rw [posN_pos hN, wrap_i64 (by omega) (by omega)]
    rfl
  rw [posN_pos hN, need_d (by omega), Int.toNat_natCast, get_iA hm]
  simp only [asI_i, j11]
  unfold dupAt
  generalize ks.getD m 0 = k
  by_cases h0 : 0 ≤ k
  · rw [cond_d h0, gA_len]
    by_cases h1 : k < (g.length : Int)
    · rw [cond_d h1, need_d h0, get_gA (by omega), asTh, need_d (by omega), Int.toNat_natCast, get_gA hq, asTh]
      simp only [h0, h1, decide_true, Bool.true_and, need_true, asTh, need_d, Int.toNat_natCast, get_gA hq, get_gA (show k.toNat < g.length by omega), Int.natCast_nonneg]
      unfold Th.key
      generalize g.getD k.toNat default = x
      generalize g.getD q default = y
      by_cases e1 : x.tag = y.tag
      · rw [show (x.tag == y.tag) = true by simpa using e1, cond_true]
        by_cases e2 : x.value = y.value
        · rw [show (x.value == y.value) = true by simpa using e2, cond_true, if_pos (by simp [e1, e2])]
        · rw [show (x.value == y.value) = false by simpa using e2, cond_false, if_neg (by simp [e2])]
      · rw [show (x.tag == y.tag) = false by simpa using e1, cond_false, if_neg (by simp [e1])]
    · rw [cond_nd h1, if_neg (by simp; intro _ h; omega)]
  · rw [cond_nd h0, if_neg (by simp; intro h; omega)]
include hN in
theorem refL9 {k1} {ks : List Int} (hk : ks.length ≤ 1000000000) {j q : Nat} (hj : j ≤ ks.length) (hq : q < g.length) {a b : Int} {lr : List AV} {c d e : Int} {s1 s2 : List UInt8} : ∀ (n m : Nat), j + 1 < m + n → m ≤ j + 1 →
    ((∃ p, m ≤ p ∧ p < j ∧ p % 2 = m % 2 ∧ dupAt g ks q p = true) → ref18Valid_L9 D N k0 k1 n (gA g) j q m a b lr c d e s1 s2 (iA ks) = k0 false) ∧
    ((∀ p, m ≤ p → p < j → p % 2 = m % 2 → dupAt g ks q p = false) → ref18Valid_L9 D N k0 k1 n (gA g) j q m a b lr c d e s1 s2 (iA ks) = k1 (gA g) a b lr c d e s1 s2 (iA ks)) := by
  intro n
  induction n with
  | zero => intro m h h2; omega
  | succ n ih =>
    intro m h h2
    simp only [ref18Valid_L9, ref18Valid_L9s]
    by_cases hlt : m < j
    · rw [cond_d (by omega), refJ10 hN hk (by omega) hq]
      by_cases hd : dupAt g ks q m = true
      · rw [if_pos hd]
        exact ⟨fun _ => rfl, fun H => by rw [H m (Nat.le_refl _) hlt rfl] at hd; cases hd⟩
      · rw [if_neg hd]
        obtain ⟨i1, i2⟩ := ih (m + 2) (by omega) (by omega)
        refine ⟨?_, fun H => i2 fun p h1 h2 h3 => H p (by omega) h2 (by omega)⟩
        rintro ⟨p, h1, h2, h3, h4⟩
        refine i1 ⟨p, ?_, h2, by omega, h4⟩
        by_cases hp : p = m
        · subst hp; exact absurd h4 hd
        · omega
    · rw [cond_nd (by omega)]
      exact ⟨fun ⟨p, h1, h2, _⟩ => by omega, fun _ => rfl⟩
include hN in
theorem refJ7 {k1} {ks : List Int} (hk : ks.length ≤ 1000000000) (hkN : ks.length + 2 < N) {j q : Nat} (hj : j ≤ ks.length) (hq : q < g.length) {a b : Int} {lr : List AV} {c d e : Int} {s1 s2 : List UInt8} :
    (((g.getD q default).kind = 1 ∧ ∀ m, m < j → m % 2 = 0 → dupAt g ks q m = false) → ref18Valid_J7 D N k0 k1 (gA g) j q a b lr c d e s1 s2 (iA ks) = k1 (gA g) a b lr c d e s1 s2 (iA ks)) ∧
    (¬ ((g.getD q default).kind = 1 ∧ ∀ m, m < j → m % 2 = 0 → dupAt g ks q m = false) → ref18Valid_J7 D N k0 k1 (gA g) j q a b lr c d e s1 s2 (iA ks) = k0 false) := by
  unfold ref18Valid_J7
  rw [posN_pos hN, need_d (by omega), Int.toNat_natCast, get_gA hq, asTh]
  by_cases h1 : (g.getD q default).kind = 1
  · rw [cond_beq h1]
    unfold ref18Valid_J8
    rw [posN_pos hN, show (0 : Int) = ((0 : Nat) : Int) from rfl]
    obtain ⟨i1, i2⟩ := refL9 (k0 := k0) (k1 := k1) (g := g) hN hk hj hq (a := a) (b := b) (lr := lr) (c := c) (d := d) (e := e) (s1 := s1) (s2 := s2) N 0 (by omega) (by omega)
    refine ⟨fun H => i2 fun p _ h2 h3 => H.2 p h2 (by omega), fun H => i1 ?_⟩
    refine Classical.byContradiction fun hc => H ⟨h1, fun m hm h2 => ?_⟩
    rw [Bool.eq_false_iff]
    exact fun e => hc ⟨m, Nat.zero_le _, hm, by omega, e⟩
  · rw [cond_bne h1]
    exact ⟨fun H => absurd H.1 h1, fun _ => rfl⟩
include hN in
theorem refJ5 {k1} {t : Th} (hk : t.kids.length ≤ 1000000000) (hkN : t.kids.length + 2 < N) {j : Nat} (hj : j < t.kids.length) {a b : Int} {s1 s2 : List UInt8} :
    (chkAt g t j → ref18Valid_J5 D N k0 k1 (gA g) a b (iA t.kids) t.kids.length j t.kind s1 s2 (iA t.kids) = k1 (gA g) a b (iA t.kids) t.kids.length ((j + 1 : Nat) : Int) t.kind s1 s2 (iA t.kids)) ∧
    (¬ chkAt g t j → ref18Valid_J5 D N k0 k1 (gA g) a b (iA t.kids) t.kids.length j t.kind s1 s2 (iA t.kids) = k0 false) := by
  unfold ref18Valid_J5 chkAt
  have j12 : ∀ k1, ref18Valid_J12 D N k1 (gA g) a b (iA t.kids) t.kids.length j t.kind s1 s2 (iA t.kids) = k1 (gA g) a b (iA t.kids) t.kids.length ((j + 1 : Nat) : Int) t.kind s1 s2 (iA t.kids) := by
    intro k1
    unfold ref18Valid_J12
    rw [posN_pos hN, wrap_i64 (by omega) (by omega)]
    rfl
  rw [posN_pos hN, need_d (by omega), Int.toNat_natCast, get_iA hj]
  simp only [asI_i, gA_len]
  generalize hx : t.kids.getD j 0 = k
  by_cases h0 : k < 0
  · rw [cond_d h0]; exact ⟨fun H => by omega, fun _ => rfl⟩
  rw [cond_nd h0]
  by_cases h1 : k ≥ (g.length : Int)
  · rw [cond_d h1]; exact ⟨fun H => by omega, fun _ => rfl⟩
  rw [cond_nd h1]
  unfold ref18Valid_J6
  rw [posN_pos hN]
  by_cases h3 : t.kind = 3
  · rw [cond_beq h3, need_nd (by omega)]
    have e1 : Int.tmod ((j : Nat) : Int) 2 = ((j % 2 : Nat) : Int) := by rw [Int.tmod_eq_emod_of_nonneg (by omega)]; omega
    rw [e1]
    by_cases h2 : j % 2 = 0
    · rw [cond_beq (by omega)]
      obtain ⟨q, rfl⟩ : ∃ q : Nat, k = (q : Int) := ⟨k.toNat, by omega⟩
      obtain ⟨i1, i2⟩ := refJ7 (k0 := k0) (k1 := fun l138 i274 i275 l139 i276 i277 i278 s99 s100 l140 => ref18Valid_J12 D N k1 l138 i274 i275 l139 i276 i277 i278 s99 s100 l140) (g := g) hN hk hkN (j := j) (q := q) (by omega) (by omega) (a := a) (b := b) (lr := iA t.kids) (c := t.kids.length) (d := j) (e := t.kind) (s1 := s1) (s2 := s2)
      rw [Int.toNat_natCast]
      exact ⟨fun H => (i1 (H.2 h3 h2)).trans (j12 k1), fun H => i2 fun hh => H ⟨⟨by omega, by omega⟩, fun _ _ => hh⟩⟩
    · rw [cond_bne (by omega)]
      exact ⟨fun _ => j12 k1, fun H => absurd ⟨⟨by omega, by omega⟩, fun _ h => absurd h h2⟩ H⟩
  · rw [cond_bne h3]
    exact ⟨fun _ => j12 k1, fun H => absurd ⟨⟨by omega, by omega⟩, fun h => absurd h h3⟩ H⟩
include hN in
theorem refL4 {k1} {t : Th} (hk : t.kids.length ≤ 1000000000) (hkN : t.kids.length + 2 < N) {a b : Int} {s1 s2 : List UInt8} : ∀ (n j : Nat), t.kids.length < j + n → j ≤ t.kids.length →
    ((∀ q, j ≤ q → q < t.kids.length → chkAt g t q) → ref18Valid_L4 D N k0 k1 n (gA g) a b (iA t.kids) t.kids.length j t.kind s1 s2 (iA t.kids) = k1 (gA g) a b) ∧
    ((¬ ∀ q, j ≤ q → q < t.kids.length → chkAt g t q) → ref18Valid_L4 D N k0 k1 n (gA g) a b (iA t.kids) t.kids.length j t.kind s1 s2 (iA t.kids) = k0 false) := by
  intro n
  induction n with
  | zero => intro j h h2; omega
  | succ n ih =>
    intro j h h2
    simp only [ref18Valid_L4, ref18Valid_L4s]
    by_cases hlt : j < t.kids.length
    · rw [cond_d (by omega)]
      obtain ⟨i1, i2⟩ := refJ5 (k0 := k0) (k1 := fun l153 i299 i300 l154 i301 i302 i303 s109 s110 l155 => ref18Valid_L4 D N k0 k1 n l153 i299 i300 l154 i301 i302 i303 s109 s110 l155) (g := g) hN hk hkN hlt (a := a) (b := b) (s1 := s1) (s2 := s2)
      obtain ⟨i3, i4⟩ := ih (j + 1) (by omega) (by omega)
      refine ⟨fun H => (i1 (H j (Nat.le_refl _) hlt)).trans (i3 fun q hq => H q (by omega)), fun H => ?_⟩
      by_cases hc : chkAt g t j
      · refine (i1 hc).trans (i4 fun h5 => H fun q hq hq2 => ?_)
        by_cases e : q = j
        · rw [e]; exact hc
        · exact h5 q (by omega) hq2
      · exact i2 hc
    · rw [cond_nd (by omega)]
      exact ⟨fun _ => rfl, fun H => absurd (fun q h1 h2 => by omega) H⟩
def kidsOk (g : List Th) (t : Th) : Prop := ∀ q, q < t.kids.length → chkAt g t q
structure HeadOk (t : Th) : Prop where
  kind : t.kind = 1 ∨ t.kind = 2 ∨ t.kind = 3
  leaf : t.kind = 1 → t.kids = []
  text : t.kind ≠ 1 → t.value = []
  even : t.kind = 3 → t.kids.length % 2 = 0
  tag : (t.tag == [33]) = false
  tag2 : vtag t.tag = true
  utf8 : Lib.validD t.value = true
include hN in
theorem refJ3 {k1} {t : Th} (hk : t.kids.length ≤ 1000000000) (hkN : t.kids.length + 2 < N) {a b : Int} {s1 s2 : List UInt8} :
    (kidsOk g t → ref18Valid_J3 D N k0 k1 (gA g) a b t.kind s1 s2 (iA t.kids) = k1 (gA g) a b) ∧ (¬ kidsOk g t → ref18Valid_J3 D N k0 k1 (gA g) a b t.kind s1 s2 (iA t.kids) = k0 false) := by
  unfold ref18Valid_J3
  rw [posN_pos hN, iA_len, show (0 : Int) = ((0 : Nat) : Int) from rfl]
  obtain ⟨i1, i2⟩ := refL4 (k0 := k0) (k1 := k1) (g := g) hN hk hkN (a := a) (b := b) (s1 := s1) (s2 := s2) N 0 (by omega) (by omega)
  exact ⟨fun H => i1 fun q _ => H q, fun H => i2 fun h => H fun q hq => h q (Nat.zero_le _) hq⟩
end
end Go.Proofs.YthdefengmkcacaaDoor.Vf
