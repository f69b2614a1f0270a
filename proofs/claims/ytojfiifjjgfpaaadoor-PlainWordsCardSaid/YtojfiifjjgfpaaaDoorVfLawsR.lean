
/- The law PlainWords comes to true, whatever the input. No condition but the words' kind. -/
import Derived.Test.YtojfiifjjgfpaaaDoorVfLawsQ
namespace Go.Proofs.YtojfiifjjgfpaaaDoor.Vf
set_option linter.unusedVariables false
set_option linter.unusedSimpArgs false

/-- A small letter or a digit. -/
def al (c : UInt8) : Bool := (decide (97 ≤ c.toNat) && decide (c.toNat ≤ 122)) || (decide (48 ≤ c.toNat) && decide (c.toNat ≤ 57))
theorem al_iff (c : UInt8) : al c = true ↔ (97 ≤ c.toNat ∧ c.toNat ≤ 122) ∨ (48 ≤ c.toNat ∧ c.toNat ≤ 57) := by
  unfold al; simp only [Bool.or_eq_true, Bool.and_eq_true, decide_eq_true_eq]

theorem words_inner (N : Nat) (k0) (l : List AV) (a : List UInt8) (x : Int) (b : Bool) (c : List UInt8) (y : Int) (t : List UInt8) (ht : t.length ≤ 1000) : ∀ (n i : Nat) (acc : List UInt8), t.length < i + n → i ≤ t.length → acc.length ≤ 1 + i →
    law04PlainWords_L2 D N k0 n l a x b c y acc t (t.length : Nat) i = k0 l a x b c y (acc ++ (t.drop i).filter al) := by
  intro n
  induction n with
  | zero => intro i acc h h'; omega
  | succ n ih =>
    intro i acc h h' ha
    simp only [law04PlainWords_L2, law04PlainWords_L2s]
    by_cases hi : i < t.length
    · have hc := byte_lt (t.getD i 0)
      rw [cond_d (by omega), need_d (by omega), drop_step hi]
      simp only [Int.toNat_natCast]
      rw [get_bn hi, wrap_i64 (by omega) (by omega), show (i : Int) + 1 = ((i + 1 : Nat) : Int) by omega]
      have ho : UInt8.ofNat (t.getD i 0).toNat = t.getD i 0 := by simp
      have put : al (t.getD i 0) = true → (need (decide (0 ≤ (((t.getD i 0).toNat : Int) : Int)) && decide ((((t.getD i 0).toNat : Int) : Int) < 256)) <|
          need (decide (acc.length + ([UInt8.ofNat (t.getD i 0).toNat] : List UInt8).length ≤ 9223372036854775807)) <|
          law04PlainWords_L2 D N k0 n l a x b c y (acc ++ [UInt8.ofNat (t.getD i 0).toNat]) t (t.length : Nat) ((i + 1 : Nat) : Int)) = k0 l a x b c y (acc ++ (t.getD i 0 :: t.drop (i + 1)).filter al) := by
        intro hal
        rw [need_d2 (by omega) (by omega), need_d (by simp; omega), ho, ih (i + 1) _ (by omega) (by omega) (by simp; omega), List.filter_cons_of_pos hal]
        simp
      have no : al (t.getD i 0) = false → law04PlainWords_L2 D N k0 n l a x b c y acc t (t.length : Nat) ((i + 1 : Nat) : Int) = k0 l a x b c y (acc ++ (t.getD i 0 :: t.drop (i + 1)).filter al) := by
        intro hal
        rw [ih (i + 1) _ (by omega) (by omega) (by omega), List.filter_cons_of_neg (by rw [hal]; simp)]
      have na : ¬ ((97 ≤ (t.getD i 0).toNat ∧ (t.getD i 0).toNat ≤ 122) ∨ (48 ≤ (t.getD i 0).toNat ∧ (t.getD i 0).toNat ≤ 57)) → al (t.getD i 0) = false := fun h => Bool.eq_false_iff.2 fun h' => h ((al_iff _).1 h')
      by_cases h1 : 97 ≤ (t.getD i 0).toNat
      · rw [cond_d (by omega)]
        by_cases h2 : (t.getD i 0).toNat ≤ 122
        · rw [cond_d (by omega)]; exact put ((al_iff _).2 (by omega))
        · rw [cond_nd (by omega), cond_d (by omega), cond_nd (by omega)]; exact no (na (by omega))
      · rw [cond_nd (by omega)]
        by_cases h3 : 48 ≤ (t.getD i 0).toNat
        · rw [cond_d (by omega)]
          by_cases h4 : (t.getD i 0).toNat ≤ 57
          · rw [cond_d (by omega)]; exact put ((al_iff _).2 (by omega))
          · rw [cond_nd (by omega)]; exact no (na (by omega))
        · rw [cond_nd (by omega)]; exact no (na (by omega))
    · rw [cond_nd (by omega), List.drop_eq_nil_of_le (by omega)]; simp

/-- Words of letters and digits, with blanks between them; the first byte is a letter. -/
structure Wordy (s : List UInt8) : Prop where
  ne : 0 < s.length
  first : 97 ≤ (s.getD 0 0).toNat ∧ (s.getD 0 0).toNat ≤ 122
  all : ∀ j, j < s.length → al (s.getD j 0) = true ∨ (s.getD j 0).toNat = 32
  last : al (s.getD (s.length - 1) 0) = true

theorem getD_left {s t : List UInt8} {i : Nat} (h : i < s.length) : (s ++ t).getD i 0 = s.getD i 0 := by
  simp only [List.getD, List.getElem?_append_left h]
theorem getD_right {s t : List UInt8} {i : Nat} (h : s.length ≤ i) : (s ++ t).getD i 0 = t.getD (i - s.length) 0 := by
  simp only [List.getD, List.getElem?_append_right h]

theorem Wordy.more {s : List UInt8} (h : Wordy s) {t : List UInt8} (ht : ∀ c ∈ t, al c = true) (h0 : 0 < t.length) : Wordy (s ++ ([32] ++ t)) := by
  have hg : ∀ j, j < t.length → al (t.getD j 0) = true := fun j hj => ht _ (by
    simp only [List.getD, List.getElem?_eq_getElem hj, Option.getD_some]; exact List.getElem_mem hj)
  refine ⟨by simp; omega, by rw [getD_left h.ne]; exact h.first, fun j hj => ?_, ?_⟩
  · simp only [List.length_append, List.length_singleton] at hj
    by_cases h1 : j < s.length
    · rw [getD_left h1]; exact h.all j h1
    · rw [getD_right (by omega)]
      by_cases h2 : j - s.length = 0
      · rw [h2]; right; rfl
      · obtain ⟨k, hk⟩ : ∃ k, j - s.length = k + 1 := ⟨j - s.length - 1, by omega⟩
        rw [hk]
        show al (t.getD k 0) = true ∨ _
        exact .inl (hg k (by omega))
  · rw [getD_right (by simp)]
    have e : (s ++ ([32] ++ t)).length - 1 - s.length = t.length - 1 + 1 := by simp; omega
    rw [e]
    show al (t.getD (t.length - 1) 0) = true
    exact hg _ (by omega)

theorem Wordy.start : Wordy [119] := ⟨by decide, by decide, fun j hj => by
  have : j = 0 := by simp at hj; omega
  subst this; left; decide, by decide⟩

theorem al_facts {c : UInt8} (h : al c = true ∨ c.toNat = 32) : c.toNat ≠ 9 ∧ c.toNat ≠ 58 ∧ c.toNat ≠ 35 ∧ brk c = false ∧ 32 ≤ c.toNat ∧ c.toNat ≤ 126 := by
  have h' : ((97 ≤ c.toNat ∧ c.toNat ≤ 122) ∨ (48 ≤ c.toNat ∧ c.toNat ≤ 57)) ∨ c.toNat = 32 := h.imp_left (al_iff c).1
  refine ⟨by omega, by omega, by omega, ?_, by omega, by omega⟩
  rw [Bool.eq_false_iff]; intro hb
  simp only [brk, List.contains_cons, List.contains_nil, Bool.or_false, Bool.or_eq_true, beq_iff_eq] at hb
  rcases hb with hb | hb | hb | hb | hb <;> rw [hb] at h' <;> revert h' <;> decide

theorem Wordy.starts {s : List UInt8} (h : Wordy s) (r : List UInt8) (flow : Bool) : starts (s ++ r) flow = true := by
  have h0 := h.first
  have hne : s ++ r ≠ [] := fun e => by have := congrArg List.length e; simp at this; have := h.ne; simp [*] at this
  unfold Vf.starts
  rw [if_neg hne, getD_left h.ne]
  have hbl : blank (s.getD 0 0) = false := by unfold blank; simp only [Bool.or_eq_false_iff, decide_eq_false_iff_not]; omega
  have hc : s.getD 0 0 ∉ ([45, 46, 63, 58, 44, 91, 93, 123, 125, 35, 38, 42, 33, 124, 62, 39, 34, 37, 64, 96] : List UInt8) := by
    intro hm
    have : ∀ c ∈ ([45, 46, 63, 58, 44, 91, 93, 123, 125, 35, 38, 42, 33, 124, 62, 39, 34, 37, 64, 96] : List UInt8), ¬ (97 ≤ c.toNat ∧ c.toNat ≤ 122) := by decide
    exact this _ hm h0
  simp only [List.mem_cons, not_or] at hc
  have hs : sgn (s.getD 0 0) = false := by
    rw [Bool.eq_false_iff]; intro hb
    simp only [sgn, List.contains_cons, List.contains_nil, Bool.or_false, Bool.or_eq_true, beq_iff_eq] at hb
    rcases hb with hb | hb | hb <;> simp_all
  have hi : ind (s.getD 0 0) = false := by
    rw [Bool.eq_false_iff]; intro hb
    simp only [ind, List.contains_cons, List.contains_nil, Bool.or_false, Bool.or_eq_true, beq_iff_eq] at hb
    rcases hb with hb | hb | hb | hb | hb | hb | hb | hb | hb | hb | hb | hb | hb | hb | hb | hb <;> simp_all
  have h3 : ∀ x : UInt8, s.getD 0 0 ≠ x → ((s ++ r).take 3 == [x, x, x]) = false := by
    intro x hx
    rw [beq_eq_false_iff_ne]; intro e
    have e0 := congrArg (fun l : List UInt8 => l.getD 0 0) e
    simp only [getD_take (show 0 < 3 by omega), getD_left h.ne] at e0
    exact hx e0
  rw [hbl, h3 45 hc.1, h3 46 hc.2.1, hs, hi]; rfl

theorem Wordy.goes {s : List UInt8} (h : Wordy s) (r : List UInt8) (flow : Bool) (j : Nat) (hj : j < s.length) : stopAt (s ++ r) j flow = false := by
  unfold stopAt
  rw [getD_left hj]
  obtain ⟨a, b, c, d, _⟩ := al_facts (h.all j hj)
  rw [if_neg a, if_neg b, if_neg c, d]
  cases flow <;> rfl

/-- What stands behind good words, blanks ahead of it, is not part of them. -/
theorem Wordy.plen {s : List UInt8} (h : Wordy s) (r : List UInt8) (flow : Bool) (k : Nat) (hk : k ≤ r.length) (hb : ∀ j, j < k → (r.getD j 0).toNat = 32) (he : k = r.length ∨ stopAt (s ++ r) (s.length + k) flow = true) :
    plen (s ++ r) flow = s.length := by
  unfold Vf.plen
  rw [if_pos (h.starts r flow)]
  have hsp : ∀ j, s.length ≤ j → j < s.length + k → ((s ++ r).getD j 0).toNat = 32 := fun j h1 h2 => by
    rw [getD_right h1]; exact hb _ (by omega)
  rw [runTo_eq (s ++ r) flow _ 0 (s.length + k) (by omega) (by simp; omega) (by simp; omega) (fun j _ hj => ?_) (he.imp (fun e => by simp; omega) id)]
  · refine trimTo_back (s ++ r) s.length k hsp (.inr ?_)
    have := h.ne
    rw [getD_left (by omega)]
    have := (al_iff _).1 h.last
    omega
  · by_cases hj' : j < s.length
    · exact h.goes r flow j hj'
    · have h32 := hsp j (by omega) hj
      unfold stopAt
      rw [if_neg (by omega), if_neg (by omega), if_neg (by omega)]
      have : brk ((s ++ r).getD j 0) = false := (al_facts (.inr h32)).2.2.2.1
      rw [this]; cases flow <;> rfl

theorem clean_ascii : ∀ (n : Nat) (s : List UInt8), s.length < n → (∀ c ∈ s, 32 ≤ c.toNat ∧ c.toNat ≤ 126) → cleanL false n s = true := by
  intro n
  induction n with
  | zero => intro s h; omega
  | succ n ih =>
    intro s h hs
    simp only [cleanL]
    cases s with
    | nil => rfl
    | cons c s =>
      have hc := hs c (.head _)
      rw [if_neg (by simp), rune_cons, runeN_1 (by omega)]
      simp only [List.length_cons] at h
      rw [show (c :: s).drop 1 = s from rfl, ih s (by omega) (fun x hx => hs x (.tail _ hx))]
      have hp : printable (c.toNat : Nat) = true := by unfold printable; rw [decide_eq_true_eq]; omega
      rw [hp]
      simp only [Bool.true_and, Bool.and_true, Bool.false_or, Bool.and_eq_true, Bool.not_eq_true', decide_eq_false_iff_not]
      omega
theorem Wordy.pvalid {s : List UInt8} (h : Wordy s) (flow : Bool) : pvalid s flow = true := by
  have hl : Vf.plen s flow = s.length := by
    have := h.plen [] flow 0 (by simp) (fun j hj => by omega) (.inl rfl)
    rwa [List.append_nil] at this
  unfold Vf.pvalid Vf.clean
  rw [hl, clean_ascii _ s (by omega) (fun c hc => by
    obtain ⟨j, hj, e⟩ := List.getElem_of_mem hc
    have := al_facts (h.all j hj)
    simp only [List.getD, List.getElem?_eq_getElem hj, Option.getD_some] at this
    rw [← e]; exact this.2.2.2.2)]
  have : s ≠ [] := fun e => by have := h.ne; simp [e] at this
  simp [this]

theorem words_loop (N : Nat) (hN : 10 ≤ N) (k0) (ws : List (List UInt8)) (a : List UInt8) (x : Int) (b : Bool) : ∀ (n j : Nat) (acc : List UInt8), 5 < j + n → j ≤ 5 → Wordy acc → acc.length ≤ 1 + 10 * j →
    ∃ acc', Wordy acc' ∧ acc'.length ≤ 51 ∧ law04PlainWords_L1 D N k0 n (ws.map AV.str) a x b acc j = k0 a x b acc' := by
  intro n
  induction n with
  | zero => intro j acc h h'; omega
  | succ n ih =>
    intro j acc h h' hg hl
    simp only [law04PlainWords_L1, law04PlainWords_L1s]
    by_cases hj : j < ws.length
    · rw [cond_d (by simp; omega)]
      by_cases h5 : j < 5
      · rw [cond_d (by omega), need_d (by omega)]
        simp only [Int.toNat_natCast, List.getElem?_map, List.getElem?_eq_getElem hj, Option.map_some, Option.bind_some, asS_s]
        rw [show (8 : Int) = ((8 : Nat) : Int) from rfl, D_Text _ 8 (by omega)]
        simp only [Option.bind_some, asS_s]
        have h8 : (ws[j].take 8).length ≤ 8 := by simp; omega
        generalize ws[j].take 8 = t at h8
        rw [show (0 : Int) = ((0 : Nat) : Int) from rfl, words_inner N _ _ _ _ _ _ _ t (by omega) N 0 [120] (by omega) (by omega) (by simp), List.drop_zero]
        have hf : (t.filter al).length ≤ 8 := Nat.le_trans (List.length_filter_le _ _) h8
        have hall : ∀ c ∈ ([120] ++ t.filter al : List UInt8), al c = true := by
          intro c hc
          rcases List.mem_append.1 hc with hc | hc
          · have : c = 120 := by simpa using hc
            subst this; decide
          · exact (List.mem_filter.1 hc).2
        have hfl : ([120] ++ t.filter al : List UInt8).length ≤ 9 := by simp; omega
        generalize hw : ([120] ++ t.filter al : List UInt8) = w at hall hfl
        have hpos : 0 < w.length := by rw [← hw]; simp
        rw [need_d (by simp; omega), need_d (by simp; omega), wrap_i64 (by omega) (by omega), show (j : Int) + 1 = ((j + 1 : Nat) : Int) by omega]
        exact ih (j + 1) _ (by omega) (by omega) (hg.more hall hpos) (by simp; omega)
      · rw [cond_nd (by omega)]; exact ⟨acc, hg, by omega, rfl⟩
    · rw [cond_nd (by simp; omega)]; exact ⟨acc, hg, by omega, rfl⟩

set_option maxHeartbeats 2000000 in
theorem D_PlainWords (ws : List (List UInt8)) (tl : List UInt8) (how : Int) (flow : Bool) : D id_law04PlainWords [.row 1 (ws.map AV.str), .str tl, .int .i64 how, .bool flow] = some ⟨.bool true, false, []⟩ := by
  refine den_fn (N := 10) (F := law04PlainWords) rfl rfl ?_
  rw [law04PlainWords_eq]
  show law04PlainWordsr D 10 _ tl how flow = _
  unfold law04PlainWordsr
  obtain ⟨s, hg, hl, e⟩ := words_loop 10 (by omega) (fun s23 i16 b9 s24 => _) ws tl how flow 10 0 [119] (by omega) (by omega) Wordy.start (by simp)
  refine Eq.trans e ?_
  clear e
  rw [show (10 : Int) = ((10 : Nat) : Int) from rfl, D_Text _ 10 (by omega), D_Valid _ (by omega), hg.pvalid]
  have ht : (tl.take 10).length ≤ 10 := by simp; omega
  generalize tl.take 10 = t at ht
  rw [D_Within _ 6 (by omega) (by omega), D_Within _ 5 (by omega) (by omega)]
  have g0 := Int.emod_nonneg how (b := 6) (by omega)
  have g1 := Int.emod_lt_of_pos how (b := 6) (by omega)
  have g2 := Int.emod_nonneg how (b := 5) (by omega)
  have g3 := Int.emod_lt_of_pos how (b := 5) (by omega)
  obtain ⟨k, hk⟩ : ∃ k : Nat, how % 6 = k := ⟨(how % 6).toNat, by omega⟩
  obtain ⟨m, hm⟩ : ∃ m : Nat, how % 5 = m := ⟨(how % 5).toNat, by omega⟩
  have hk6 : k < 6 := by omega
  have hm5 : m < 5 := by omega
  rw [hk, hm]
  clear g0 g1 g2 g3 hk hm
  -- what stands behind
  have one : ∀ (r : List UInt8) (k : Nat), r.length ≤ 100 → k ≤ r.length → (∀ j, j < k → (r.getD j 0).toNat = 32) → (k = r.length ∨ stopAt (s ++ r) (s.length + k) flow = true) → D id_plainLength [.bytes (s ++ r), .bool flow] = some ⟨.int .i64 (s.length : Nat), false, []⟩ := by
    intro r k h0 h1 h2 h3
    rw [D_Length _ (by simp; omega), hg.plen r flow k h1 h2 h3]
  have at0 : ∀ (c : UInt8) (r : List UInt8), (s ++ c :: r).getD (s.length + 0) 0 = c := fun c r => by rw [getD_right (by omega)]; simp
  have colon : ∀ r : List UInt8, (r = [] ∨ blank (r.getD 0 0) = true) → stopAt (s ++ 58 :: r) (s.length + 0) flow = true := by
    intro r hr
    unfold stopAt
    rw [at0, if_neg (by decide), if_pos (by decide)]
    unfold endsAt
    rcases hr with rfl | hr
    · rw [if_pos (by simp)]
    · by_cases h0 : r = []
      · subst h0; rw [if_pos (by simp)]
      · have hp := length_pos_of h0
        rw [if_neg (by simp; omega), getD_right (by omega), show s.length + 0 + 1 - s.length = 0 + 1 by omega]
        show (blank (r.getD 0 0) || _) = true
        rw [hr]; rfl
  have p0 := one ([58, 32] ++ t) 0 (by simp; omega) (by omega) (fun j h => by omega) (.inr (colon (32 :: t) (.inr rfl)))
  have hash : ∀ (n : Nat) (r : List UInt8), 0 < n → stopAt (s ++ (List.replicate n 32 ++ 35 :: r)) (s.length + n) flow = true := by
    intro n r hn
    have a1 : (s ++ (List.replicate n 32 ++ 35 :: r)).getD (s.length + n) 0 = 35 := by rw [getD_right (by omega), getD_right (by simp)]; simp
    have a2 : (s ++ (List.replicate n 32 ++ 35 :: r)).getD (s.length + n - 1) 0 = 32 := by
      rw [getD_right (by omega), getD_left (by simp; omega), List.getD, List.getElem?_replicate, if_pos (by omega)]; rfl
    unfold stopAt
    rw [a1, if_neg (by decide), if_neg (by decide), if_pos (by decide), a2, decide_eq_true (by omega)]
    rfl
  have p1 := one ([32, 35] ++ t) 1 (by simp; omega) (by simp) (fun j h => by
    obtain rfl : j = 0 := by omega
    rfl) (.inr (hash 1 t (by omega)))
  have p2 := one [58] 0 (by simp) (by omega) (fun j h => by omega) (.inr (colon [] (.inl rfl)))
  have p3 := one [32, 32] 2 (by simp) (by simp) (fun j h => by
    rcases (show j = 0 ∨ j = 1 by omega) with rfl | rfl <;> rfl) (.inl rfl)
  have p4 := one ([32, 32, 32, 35, 32] ++ t) 3 (by simp; omega) (by simp) (fun j h => by
    rcases (show j = 0 ∨ j = 1 ∨ j = 2 by omega) with rfl | rfl | rfl <;> rfl) (.inr (hash 3 (32 :: t) (by omega)))
  have p5 := one ([9] ++ t) 0 (by simp; omega) (by omega) (fun j h => by omega) (.inr (by
    unfold stopAt
    rw [show ([9] ++ t : List UInt8) = 9 :: t from rfl, at0, if_pos (by decide)]))
  have pb : ∀ (c : UInt8) (r : List UInt8), brk c = true → flow = true → r.length ≤ 10 → D id_plainLength [.bytes ((s ++ [c]) ++ r), .bool flow] = some ⟨.int .i64 (s.length : Nat), false, []⟩ := by
    intro c r hc hf hr
    rw [List.append_assoc]
    refine one ([c] ++ r) 0 (by simp; omega) (by omega) (fun j h => by omega) (.inr ?_)
    unfold stopAt
    rw [show ([c] ++ r : List UInt8) = c :: r from rfl, at0, hf, hc]
    have hb2 := hc
    simp only [brk, List.contains_cons, List.contains_nil, Bool.or_false, Bool.or_eq_true, beq_iff_eq] at hb2
    rcases hb2 with rfl | rfl | rfl | rfl | rfl <;> rfl
  simp only [Option.bind_some, asB_b, asS_s, asI_i, Bool.not_true, cond_false]
  rw [need_d (by omega)]
  simp only [Int.toNat_natCast]
  have n2 : (!decide ((2 : Nat) = 0)) = true := by decide
  have m0 : (decide ((0 : Int) ≤ (m : Int))) = true := by simp
  have five : ∃ c, brk c = true ∧ ([AV.str [44], AV.str [93], AV.str [125], AV.str [123], AV.str [91]] : List AV)[m]? = some (AV.str [c]) := by
    rcases (show m = 0 ∨ m = 1 ∨ m = 2 ∨ m = 3 ∨ m = 4 by omega) with rfl | rfl | rfl | rfl | rfl
    · exact ⟨44, rfl, rfl⟩
    · exact ⟨93, rfl, rfl⟩
    · exact ⟨125, rfl, rfl⟩
    · exact ⟨123, rfl, rfl⟩
    · exact ⟨91, rfl, rfl⟩
  obtain ⟨c, hc, hm⟩ := five
  have len2 : ∀ a b : List UInt8, a.length ≤ 100 → b.length ≤ 100 → decide (a.length + b.length ≤ 9223372036854775807) = true := fun a b h h' => by rw [decide_eq_true_eq]; omega
  have app : ∀ (x r : List UInt8), s ++ x ++ r = s ++ (x ++ r) := fun x r => List.append_assoc _ _ _
  have fin : ∀ (x r : List UInt8), x.length ≤ 10 → r.length ≤ 10 → (D id_plainLength [.bytes (s ++ (x ++ r)), .bool flow] = some ⟨.int .i64 (s.length : Nat), false, []⟩) →
      (need (decide (s.length + x.length ≤ 9223372036854775807)) <|
       need (decide ((s ++ x).length + r.length ≤ 9223372036854775807)) <|
       (D id_plainLength [AV.bytes ((s ++ x) ++ r), AV.bool flow]).bind fun r => asI .i64 r.v fun i => bif (i : Int) == ((s.length : Nat) : Int) then ((D id_law04Wakes []).bind fun r => asB r.v fun b => some (⟨AV.bool b, false, []⟩ : Res)) else some ⟨AV.bool false, false, []⟩) = some ⟨.bool true, false, []⟩ := by
    intro x r h1 h2 e
    rw [need_d (by omega), need_d (by simp; omega), app, e]
    simp (disch := omega) only [Option.bind_some, asI_i, cond_eq, D_wakes04, asB_b]
  have five : ∀ (r : List UInt8), flow = true → r.length ≤ 10 →
      (need (decide (s.length + [c].length ≤ 9223372036854775807)) <|
       need (decide ((s ++ [c]).length + r.length ≤ 9223372036854775807)) <|
       (D id_plainLength [AV.bytes ((s ++ [c]) ++ r), AV.bool flow]).bind fun r => asI .i64 r.v fun i => bif (i : Int) == ((s.length : Nat) : Int) then ((D id_law04Wakes []).bind fun r => asB r.v fun b => some (⟨AV.bool b, false, []⟩ : Res)) else some ⟨AV.bool false, false, []⟩) = some ⟨.bool true, false, []⟩ := by
    intro r hf hr
    exact fin [c] r (by simp) hr (by rw [← app]; exact pb c r hc hf hr)
  rw [n2, m0, hm]
  simp only [need_true, Option.bind_some, asS_s]
  cases h2 : (Int.tmod how 2 == 1)
  · cases flow
    · rcases (show k = 0 ∨ k = 1 ∨ k = 2 ∨ k = 3 ∨ k = 4 ∨ k = 5 by omega) with rfl | rfl | rfl | rfl | rfl | rfl
      · exact fin _ t (by simp) ht p0
      · exact fin _ t (by simp) ht p1
      · exact fin _ [] (by simp) (by simp) p2
      · exact fin _ [] (by simp) (by simp) p3
      · exact fin _ t (by simp) ht p4
      · exact fin _ t (by simp) ht p5
    · rcases (show k = 0 ∨ k = 1 ∨ k = 2 ∨ k = 3 ∨ k = 4 ∨ k = 5 by omega) with rfl | rfl | rfl | rfl | rfl | rfl
      · exact fin _ t (by simp) ht p0
      · exact fin _ t (by simp) ht p1
      · exact fin _ [] (by simp) (by simp) p2
      · exact fin _ [] (by simp) (by simp) p3
      · exact fin _ t (by simp) ht p4
      · exact fin _ t (by simp) ht p5
  · cases flow
    · rcases (show k = 0 ∨ k = 1 ∨ k = 2 ∨ k = 3 ∨ k = 4 ∨ k = 5 by omega) with rfl | rfl | rfl | rfl | rfl | rfl
      · exact fin _ t (by simp) ht p0
      · exact fin _ t (by simp) ht p1
      · exact fin _ [] (by simp) (by simp) p2
      · exact fin _ [] (by simp) (by simp) p3
      · exact fin _ t (by simp) ht p4
      · exact fin _ t (by simp) ht p5
    · rcases (show k = 0 ∨ k = 1 ∨ k = 2 ∨ k = 3 ∨ k = 4 ∨ k = 5 by omega) with rfl | rfl | rfl | rfl | rfl | rfl
      · exact five t rfl ht
      · exact five t rfl ht
      · exact five [] rfl (by simp)
      · exact five [] rfl (by simp)
      · exact five t rfl ht
      · exact five t rfl ht
end Go.Proofs.YtojfiifjjgfpaaaDoor.Vf
