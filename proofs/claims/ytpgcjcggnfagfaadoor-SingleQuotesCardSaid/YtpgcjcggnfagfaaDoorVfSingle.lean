
/- Scalars in single quotes: the program's and the reference's functions, as plain functions on lists. No condition but sizes. -/
import Derived.Test.YtpgcjcggnfagfaaDoorVfPlain
import Derived.Test.YtpgcjcggnfagfaaDoorVfIntact
namespace Go.Proofs.YtpgcjcggnfagfaaDoor.Vf
set_option linter.unusedVariables false
set_option linter.unusedSimpArgs false

def no3 : List UInt8 × Nat × Bool := ([], 0, false)
/-- Behind the first quote: the text so far, how many bytes so far. -/
def takeQ : List UInt8 → List UInt8 → Nat → List UInt8 × Nat × Bool
  | [], _, _ => no3
  | [c], o, i => if c.toNat = 39 then (o, i + 1, true) else no3
  | c :: d :: r, o, i => if c.toNat = 10 then no3 else if c.toNat = 13 then no3 else if c.toNat ≠ 39 then takeQ (d :: r) (o ++ [c]) (i + 1) else if d.toNat = 39 then takeQ r (o ++ [c]) (i + 2) else (o, i + 1, true)
def takeP (s : List UInt8) : List UInt8 × Nat × Bool := if s = [] then no3 else if (s.getD 0 0).toNat ≠ 39 then no3 else takeQ (s.drop 1) [] 1

theorem ofNat_back (c : UInt8) : UInt8.ofNat (Int.toNat (c.toNat : Int)) = c := by simp
theorem byte39 {c : UInt8} (h : c.toNat = 39) : c = 39 := UInt8.toNat_inj.1 h

theorem sTake_loop (s : List UInt8) (hs : s.length ≤ 1000000) (N : Nat) (k0 : List UInt8 → Int → Bool → Option Res) (k1 : Option Res) (hk : k1 = k0 [] 0 false) : ∀ (n i : Nat) (o : List UInt8), s.length < i + n → i ≤ s.length → o.length ≤ i →
    singleTake_L1 D N k0 k1 n s i o = k0 (takeQ (s.drop i) o i).1 ((takeQ (s.drop i) o i).2.1 : Nat) (takeQ (s.drop i) o i).2.2 := by
  intro n
  induction n with
  | zero => intro i o h _; omega
  | succ n ih =>
    intro i o h hi ho
    simp only [singleTake_L1, singleTake_L1s]
    by_cases hlt : i < s.length
    · rw [cond_d (by omega)]
      simp only [need_d (show (0 : Int) ≤ (i : Int) by omega), Int.toNat_natCast, get_bn hlt, List.drop_zero, List.take_length, UInt8.ofNat_toNat]
      have hc := byte_lt (s.getD i 0)
      by_cases h1 : i + 1 < s.length
      · rw [drop_step hlt, drop_step h1]
        simp only [takeQ]
        by_cases h10 : (s.getD i 0).toNat = 10
        · rw [cond_eq (by omega), if_pos h10]; rfl
        rw [cond_ne (by omega), if_neg h10]
        by_cases h13 : (s.getD i 0).toNat = 13
        · rw [cond_eq (by omega), if_pos h13]; rfl
        rw [cond_ne (by omega), if_neg h13]
        by_cases h39 : (s.getD i 0).toNat = 39
        · rw [cond_beq (by omega), if_neg (by omega), wrap_i64 (by omega) (by omega), show (i : Int) + 1 = ((i + 1 : Nat) : Int) by omega, cond_d (by omega), need_d (by omega)]
          simp only [Int.toNat_natCast, get_bn h1]
          have hd := byte_lt (s.getD (i + 1) 0)
          by_cases hd39 : (s.getD (i + 1) 0).toNat = 39
          · rw [cond_eq (by omega), if_pos hd39, need_d2 (by omega) (by omega), need_d (by simp; omega), wrap_i64 (by omega) (by omega), show ((i + 1 : Nat) : Int) + 1 = ((i + 2 : Nat) : Int) by omega]
            rw [ih (i + 2) _ (by omega) (by omega) (by simp; omega)]
          · rw [cond_ne (by omega), if_neg hd39]
        · rw [cond_bne (by omega), if_pos h39, need_d2 (by omega) (by omega), need_d (by simp; omega), wrap_i64 (by omega) (by omega), show (i : Int) + 1 = ((i + 1 : Nat) : Int) by omega,
            ih (i + 1) _ (by omega) (by omega) (by simp; omega), drop_step h1]
      · have e : s.drop (i + 1) = [] := List.drop_eq_nil_of_le (by omega)
        rw [drop_step hlt, e]
        simp only [takeQ]
        by_cases h10 : (s.getD i 0).toNat = 10
        · rw [cond_eq (by omega), if_neg (by omega)]; rfl
        rw [cond_ne (by omega)]
        by_cases h13 : (s.getD i 0).toNat = 13
        · rw [cond_eq (by omega), if_neg (by omega)]; rfl
        rw [cond_ne (by omega)]
        by_cases h39 : (s.getD i 0).toNat = 39
        · rw [cond_beq (by omega), if_pos h39, wrap_i64 (by omega) (by omega), cond_nd (by omega), show (i : Int) + 1 = ((i + 1 : Nat) : Int) by omega]
        · rw [cond_bne (by omega), if_neg h39, need_d2 (by omega) (by omega), need_d (by simp; omega), wrap_i64 (by omega) (by omega), show (i : Int) + 1 = ((i + 1 : Nat) : Int) by omega,
            ih (i + 1) _ (by omega) (by omega) (by simp; omega), e]
          rfl
    · rw [cond_nd (by omega), List.drop_eq_nil_of_le (by omega), hk]; rfl

theorem D_sTake (s : List UInt8) (hs : s.length ≤ 1000000) : D id_singleTake [.bytes s] = some ⟨.tup [.str (takeP s).1, .int .i64 ((takeP s).2.1 : Nat), .bool (takeP s).2.2], false, []⟩ := by
  refine den_fn (N := s.length + 1) (F := singleTake) rfl rfl ?_
  rw [singleTake_eq]
  show singleTaker D _ s = _
  unfold singleTaker takeP
  by_cases h0 : s = []
  · subst h0; rfl
  have hl := length_pos_of h0
  rw [cond_ne (by omega), if_neg h0, need_d (by omega), show Int.toNat 0 = 0 from rfl, get_bn hl]
  by_cases h39 : (s.getD 0 0).toNat = 39
  · rw [cond_beq (by omega), if_neg (by omega), show (1 : Int) = ((1 : Nat) : Int) from rfl, sTake_loop s hs _ _ _ rfl (s.length + 1) 1 [] (by omega) (by omega) (by simp)]
  · rw [cond_bne (by omega), if_pos h39]; rfl

theorem refTake_loop (s : List UInt8) (hs : s.length ≤ 1000000) (N : Nat) (k0 : List UInt8 → Int → Bool → Option Res) (k1 : Option Res) (hk : k1 = k0 [] 0 false) : ∀ (n i : Nat) (o : List UInt8), s.length < i + n → i ≤ s.length → o.length ≤ i →
    ref01TakeSingle_L1 D N k0 k1 n s i o = k0 (takeQ (s.drop i) o i).1 ((takeQ (s.drop i) o i).2.1 : Nat) (takeQ (s.drop i) o i).2.2 := by
  intro n
  induction n with
  | zero => intro i o h _; omega
  | succ n ih =>
    intro i o h hi ho
    simp only [ref01TakeSingle_L1, ref01TakeSingle_L1s]
    by_cases hlt : i < s.length
    · rw [cond_d (by omega)]
      simp only [need_d (show (0 : Int) ≤ (i : Int) by omega), Int.toNat_natCast, get_bn hlt, List.drop_zero, List.take_length, UInt8.ofNat_toNat]
      have hc := byte_lt (s.getD i 0)
      by_cases h1 : i + 1 < s.length
      · rw [drop_step hlt, drop_step h1]
        simp only [takeQ]
        by_cases h10 : (s.getD i 0).toNat = 10
        · rw [cond_eq (by omega), if_pos h10]; rfl
        rw [cond_ne (by omega), if_neg h10]
        by_cases h13 : (s.getD i 0).toNat = 13
        · rw [cond_eq (by omega), if_pos h13]; rfl
        rw [cond_ne (by omega), if_neg h13]
        by_cases h39 : (s.getD i 0).toNat = 39
        · rw [cond_beq (by omega), if_neg (by omega), wrap_i64 (by omega) (by omega), show (i : Int) + 1 = ((i + 1 : Nat) : Int) by omega, cond_d (by omega), need_d (by omega)]
          simp only [Int.toNat_natCast, get_bn h1]
          have hd := byte_lt (s.getD (i + 1) 0)
          by_cases hd39 : (s.getD (i + 1) 0).toNat = 39
          · rw [cond_eq (by omega), if_pos hd39, need_d (by simp; omega), wrap_i64 (by omega) (by omega), show ((i + 1 : Nat) : Int) + 1 = ((i + 2 : Nat) : Int) by omega,
              ih (i + 2) _ (by omega) (by omega) (by simp; omega), byte39 h39]
          · rw [cond_ne (by omega), if_neg hd39]
        · rw [cond_bne (by omega), if_pos h39, need_d2 (by omega) (by omega), need_d (by simp; omega), wrap_i64 (by omega) (by omega), show (i : Int) + 1 = ((i + 1 : Nat) : Int) by omega,
            ih (i + 1) _ (by omega) (by omega) (by simp; omega), drop_step h1]
      · have e : s.drop (i + 1) = [] := List.drop_eq_nil_of_le (by omega)
        rw [drop_step hlt, e]
        simp only [takeQ]
        by_cases h10 : (s.getD i 0).toNat = 10
        · rw [cond_eq (by omega), if_neg (by omega)]; rfl
        rw [cond_ne (by omega)]
        by_cases h13 : (s.getD i 0).toNat = 13
        · rw [cond_eq (by omega), if_neg (by omega)]; rfl
        rw [cond_ne (by omega)]
        by_cases h39 : (s.getD i 0).toNat = 39
        · rw [cond_beq (by omega), if_pos h39, wrap_i64 (by omega) (by omega), cond_nd (by omega), show (i : Int) + 1 = ((i + 1 : Nat) : Int) by omega]
        · rw [cond_bne (by omega), if_neg h39, need_d2 (by omega) (by omega), need_d (by simp; omega), wrap_i64 (by omega) (by omega), show (i : Int) + 1 = ((i + 1 : Nat) : Int) by omega,
            ih (i + 1) _ (by omega) (by omega) (by simp; omega), e]
          rfl
    · rw [cond_nd (by omega), List.drop_eq_nil_of_le (by omega), hk]; rfl

theorem D_refTakeSingle (s : List UInt8) (hs : s.length ≤ 1000000) : D id_ref01TakeSingle [.bytes s] = some ⟨.tup [.str (takeP s).1, .int .i64 ((takeP s).2.1 : Nat), .bool (takeP s).2.2], false, []⟩ := by
  refine den_fn (N := s.length + 1) (F := ref01TakeSingle) rfl rfl ?_
  rw [ref01TakeSingle_eq]
  show ref01TakeSingler D _ s = _
  unfold ref01TakeSingler takeP
  by_cases h0 : s = []
  · subst h0; rfl
  have hl := length_pos_of h0
  rw [cond_ne (by omega), if_neg h0, need_d (by omega), show Int.toNat 0 = 0 from rfl, get_bn hl]
  by_cases h39 : (s.getD 0 0).toNat = 39
  · rw [cond_beq (by omega), if_neg (by omega), show (1 : Int) = ((1 : Nat) : Int) from rfl, refTake_loop s hs _ _ _ rfl (s.length + 1) 1 [] (by omega) (by omega) (by simp)]
  · rw [cond_bne (by omega), if_pos h39]; rfl

/-- A text, each quote twice. -/
def esc (s : List UInt8) : List UInt8 := s.flatMap fun c => if c.toNat = 39 then [39, 39] else [c]
theorem esc_cons (c : UInt8) (s : List UInt8) : esc (c :: s) = (if c.toNat = 39 then [39, 39] else [c]) ++ esc s := rfl
theorem esc_append (s t : List UInt8) : esc (s ++ t) = esc s ++ esc t := by simp [esc]
theorem esc_plain {s : List UInt8} (h : ∀ c ∈ s, c.toNat ≠ 39) : esc s = s := by
  induction s with
  | nil => rfl
  | cons c s ih => rw [esc_cons, if_neg (h c (by simp)), ih fun d hd => h d (by simp [hd])]; rfl
theorem esc_len (s : List UInt8) : s.length ≤ (esc s).length ∧ (esc s).length ≤ 2 * s.length := by
  induction s with
  | nil => simp [esc]
  | cons c s ih =>
    rw [esc_cons]
    simp only [List.length_append, List.length_cons]
    split <;> simp <;> omega
def putP (s : List UInt8) : List UInt8 × Bool := if clean true s = true then ([39] ++ esc s ++ [39], true) else ([], false)

theorem index39 (s : List UInt8) : Lib.index s [39] = Lib.indexByte s 39 := Lib.index_one s 39

theorem replace_esc : ∀ (fuel : Nat) (s : List UInt8), s.length < fuel → Lib.replaceK [39] [39, 39] (Lib.countFrom [39] fuel s) s = esc s := by
  intro fuel
  induction fuel with
  | zero => intro s h; omega
  | succ fuel ih =>
    intro s h
    have hge := Lib.index_ge s [39]
    rw [Lib.countFrom]
    by_cases hm : Lib.index s [39] = -1
    · rw [if_pos (by simp [hm]), Lib.replaceK]
      refine (esc_plain fun c hc => ?_).symm
      obtain ⟨k, hk⟩ := List.getElem?_of_mem hc
      intro e
      rw [index39] at hm
      exact Lib.indexByte_none hm k (by rw [hk, byte39 e])
    · obtain ⟨i, hi⟩ : ∃ i : Nat, Lib.index s [39] = i := ⟨(Lib.index s [39]).toNat, by omega⟩
      rw [if_neg (by simp [hi]), hi, Int.toNat_natCast, Nat.add_comm 1, Lib.replaceK_hit _ _ _ _ i hi]
      have h1 := hi
      rw [index39] at h1
      obtain ⟨g1, g2⟩ := Lib.indexByte_some h1
      have hlt := (List.getElem?_eq_some_iff.1 g1).1
      rw [ih _ (by simp; omega)]
      have e : s = s.take i ++ [39] ++ s.drop (i + 1) := by
        rw [List.append_assoc, List.singleton_append]
        have hd : s.getD i 0 = 39 := by simp [List.getD, g1]
        rw [← hd, ← drop_step hlt, List.take_append_drop]
      have e2 : esc (s.take i) = s.take i := esc_plain fun c hc e => by
        obtain ⟨k, hk⟩ := List.getElem?_of_mem hc
        rw [List.getElem?_take] at hk
        split at hk
        · rename_i hki; exact g2 k hki (by rw [hk, byte39 e])
        · cases hk
      conv => rhs; rw [e, esc_append, esc_append, e2]
      rfl

theorem replaceAll_esc (s : List UInt8) : Lib.replaceAll s [39] [39, 39] = esc s := by
  unfold Lib.replaceAll Lib.replace Lib.replaceNum
  rw [if_neg (by decide), if_pos (.inl (by decide))]
  exact replace_esc _ s (Nat.lt_succ_self _)

theorem D_ReplaceAll (s : List UInt8) (hs : s.length ≤ 1000000) : D id_stringsReplaceAll [.str s, .str [39], .str [39, 39]] = some ⟨.str (esc s), false, []⟩ := by
  refine D_ext ?_
  rw [← replaceAll_esc]
  show (bif decide (s.length ≤ 1000000) && decide (1 ≤ ([39] : List UInt8).length) && decide (([39, 39] : List UInt8).length ≤ 1000000) then some (⟨.str (Lib.replaceAll s [39] [39, 39]), false, []⟩ : Res) else none) = _
  have : (decide (s.length ≤ 1000000) && decide (1 ≤ ([39] : List UInt8).length) && decide (([39, 39] : List UInt8).length ≤ 1000000)) = true := by simp [hs]
  rw [this]; rfl

theorem sPut_loop (s : List UInt8) (hs : s.length ≤ 1000000) (N : Nat) (k0 : List UInt8 → Bool → Option Res) (k1 : List UInt8 → Option Res) : ∀ (n i : Nat), s.length < i + n → i ≤ s.length →
    singlePut_L1 D N k0 k1 n s s i = bif cleanL true n (s.drop i) then k1 s else k0 [] false := by
  intro n
  induction n with
  | zero => intro i h _; omega
  | succ n ih =>
    intro i h hi
    simp only [singlePut_L1, singlePut_L1s, cleanL]
    by_cases hlt : i < s.length
    · have hne : s.drop i ≠ [] := fun e => by have := congrArg List.length e; simp at this; omega
      have hsz := rune_size' _ hne
      rw [List.length_drop] at hsz
      rw [cond_d (by omega), need_d2 (by omega) (by omega), if_neg hne]
      simp only [Int.toNat_natCast, List.take_length, D_Rune, Option.bind_some, asJIBT, asT_t, asC_c, asI_i, asB_b, asN_n, D_Printable]
      rw [wrap_i64 (by omega) (by omega), show (i : Int) + ((rune (s.drop i)).2.1 : Nat) = ((i + (rune (s.drop i)).2.1 : Nat) : Int) by omega, ih _ (by omega) (by omega), List.drop_drop]
      cases hok : (rune (s.drop i)).2.2
      · rfl
      · cases hp : printable ((rune (s.drop i)).1 : Nat)
        · simp
        · by_cases h10 : (rune (s.drop i)).1 = 10
          · rw [cond_eq (by omega)]; simp [h10]
          · rw [cond_ne (by omega)]
            by_cases h13 : (rune (s.drop i)).1 = 13
            · rw [cond_eq (by omega)]; simp [h13]
            · rw [cond_ne (by omega)]; simp [h10, h13]
    · rw [cond_nd (by omega), List.drop_eq_nil_of_le (by omega)]; simp

theorem D_sPut (s : List UInt8) (hs : s.length ≤ 1000000) : D id_singlePut [.str s] = some ⟨.tup [.str (putP s).1, .bool (putP s).2], false, []⟩ := by
  refine den_fn (N := s.length + 1) (F := singlePut) rfl rfl ?_
  rw [singlePut_eq]
  show singlePutr D _ s = _
  unfold singlePutr putP clean
  rw [show (0 : Int) = ((0 : Nat) : Int) from rfl, sPut_loop s hs _ _ _ (s.length + 1) 0 (by omega) (by omega), List.drop_zero]
  have hl := esc_len s
  cases cleanL true (s.length + 1) s
  · rfl
  · simp only [cond_true, if_true, D_ReplaceAll s hs, Option.bind_some, asS_s]
    rw [need_d (by simp; omega), need_d (by simp; omega)]

theorem refPut_loop (s : List UInt8) (hs : s.length ≤ 1000000) (N : Nat) (k0 : List UInt8 → Option Res) : ∀ (n i : Nat) (o : List UInt8), s.length < i + n → i ≤ s.length → o.length ≤ 2 * i + 1 →
    ref01PutSingle_L1 D N k0 n s i o = k0 (o ++ esc (s.drop i)) := by
  intro n
  induction n with
  | zero => intro i o h _; omega
  | succ n ih =>
    intro i o h hi ho
    simp only [ref01PutSingle_L1, ref01PutSingle_L1s]
    by_cases hlt : i < s.length
    · have hc := byte_lt (s.getD i 0)
      rw [cond_d (by omega)]
      simp only [need_d (show (0 : Int) ≤ (i : Int) by omega), Int.toNat_natCast, get_bn hlt, List.drop_zero, List.take_length, UInt8.ofNat_toNat]
      rw [drop_step hlt, esc_cons, wrap_i64 (by omega) (by omega), show (i : Int) + 1 = ((i + 1 : Nat) : Int) by omega]
      by_cases h39 : (s.getD i 0).toNat = 39
      · rw [cond_eq (by omega), if_pos h39, need_d (by simp; omega), need_d2 (by omega) (by omega), need_d (by simp; omega), ih (i + 1) _ (by omega) (by omega) (by simp; omega), byte39 h39]
        simp
      · rw [cond_ne (by omega), if_neg h39, need_d2 (by omega) (by omega), need_d (by simp; omega), ih (i + 1) _ (by omega) (by omega) (by simp; omega)]
        simp
    · rw [cond_nd (by omega), List.drop_eq_nil_of_le (by omega)]; simp [esc]

theorem D_refPutSingle (s : List UInt8) (hs : s.length ≤ 1000000) : D id_ref01PutSingle [.str s] = some ⟨.tup [.str (putP s).1, .bool (putP s).2], false, []⟩ := by
  refine den_fn (N := s.length + 1) (F := ref01PutSingle) rfl rfl ?_
  rw [ref01PutSingle_eq]
  show ref01PutSingler D _ s = _
  unfold ref01PutSingler putP
  rw [D_clean]
  simp only [Option.bind_some, asB_b]
  have hl := esc_len s
  cases clean true s
  · rfl
  · simp only [Bool.not_true, cond_false, if_true]
    rw [show (0 : Int) = ((0 : Nat) : Int) from rfl, refPut_loop s hs _ _ (s.length + 1) 0 [39] (by omega) (by omega) (by simp), List.drop_zero]
    rw [need_d (by simp; omega)]
    simp only [List.drop_zero, List.take_length]

theorem D_wakes05 : D id_law05Wakes [] = some ⟨.bool true, false, []⟩ := by
  refine den_fn (N := 0) (F := law05Wakes) rfl rfl ?_
  rw [law05Wakes_eq]
  show law05Wakesr D 0 = _
  unfold law05Wakesr
  rw [D_sPut _ (by decide)]
  rfl

theorem D_SingleTells (s : List UInt8) (q : Bool) : D id_law05SingleTells [.str s, .bool q] = some ⟨.bool true, false, []⟩ := by
  refine den_fn (N := 0) (F := law05SingleTells) rfl rfl ?_
  rw [law05SingleTells_eq]
  show law05SingleTellsr D 0 s q = _
  unfold law05SingleTellsr
  rw [show (80 : Int) = ((80 : Nat) : Int) from rfl, D_Text s 80 (by omega)]
  have hs : (s.take 80).length ≤ 80 := by simp; omega
  generalize s.take 80 = s at hs
  have h2 : ([39] ++ s : List UInt8).length ≤ 81 := by simp; omega
  simp only [Option.bind_some, asS_s]
  cases q
  · simp (disch := ((try simp only [List.length_append, List.length_cons, List.length_nil, List.length_take, List.length_drop]); omega)) only [cond_false, D_Lend, D_sTake, D_refTakeSingle, D_sPut, D_refPutSingle, D_Intact, D_wakes05, Option.bind_some, asSIBT, asSBT, asT_t, asC_c, asN_n, asS_s, asL_l, asB_b, asI_i, beq_self_eq_true, cond_true, decide_true]
  · rw [cond_true, need_d (by simp; omega)]
    generalize ([39] ++ s : List UInt8) = s at h2
    simp (disch := ((try simp only [List.length_append, List.length_cons, List.length_nil, List.length_take, List.length_drop]); omega)) only [cond_false, D_Lend, D_sTake, D_refTakeSingle, D_sPut, D_refPutSingle, D_Intact, D_wakes05, Option.bind_some, asSIBT, asSBT, asT_t, asC_c, asN_n, asS_s, asL_l, asB_b, asI_i, beq_self_eq_true, cond_true, decide_true]
end Go.Proofs.YtpgcjcggnfagfaaDoor.Vf
