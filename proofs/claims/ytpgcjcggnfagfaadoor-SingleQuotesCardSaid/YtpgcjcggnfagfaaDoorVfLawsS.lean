
/- The laws of single quotes come to true, whatever the input. No condition. -/
import Derived.Test.YtpgcjcggnfagfaaDoorVfSingle
import Derived.Test.YtpgcjcggnfagfaaDoorVfUtf
namespace Go.Proofs.YtpgcjcggnfagfaaDoor.Vf
set_option linter.unusedVariables false
set_option linter.unusedSimpArgs false

def flat1 (c : UInt8) : Prop := c.toNat ≠ 10 ∧ c.toNat ≠ 13

theorem takeQ_esc : ∀ (t r o : List UInt8) (i : Nat), (∀ c ∈ t, c.toNat ≠ 10 ∧ c.toNat ≠ 13) → r ≠ [] → takeQ (esc t ++ r) o i = takeQ r (o ++ t) (i + (esc t).length)
  | [], r, o, i, _, _ => by simp [esc]
  | c :: t, r, o, i, h, hr => by
    have hc := h c (by simp)
    have ih := fun o i => takeQ_esc t r o i (fun d hd => h d (by simp [hd])) hr
    rw [esc_cons]
    by_cases h39 : c.toNat = 39
    · rw [if_pos h39]
      show takeQ (39 :: 39 :: (esc t ++ r)) o i = _
      simp only [takeQ]
      rw [if_neg (by decide), if_neg (by decide), if_neg (by decide), if_pos (by decide), ih, byte39 h39]
      simp only [List.append_assoc, List.length_append, List.length_cons, List.length_nil, List.singleton_append, List.cons_append, List.nil_append]
      congr 1; omega
    · rw [if_neg h39]
      obtain ⟨d, r', hd⟩ : ∃ d r', esc t ++ r = d :: r' := List.exists_cons_of_ne_nil (by simp [hr])
      show takeQ (c :: (esc t ++ r)) o i = _
      have e := ih (o ++ [c]) (i + 1)
      rw [hd] at e ⊢
      simp only [takeQ]
      rw [if_neg hc.1, if_neg hc.2, if_pos h39, e]
      simp only [List.append_assoc, List.length_append, List.length_cons, List.length_nil, List.singleton_append]
      congr 1; omega
theorem takeQ_open : ∀ (t o : List UInt8) (i : Nat), (∀ c ∈ t, c.toNat ≠ 10 ∧ c.toNat ≠ 13) → takeQ (esc t) o i = no3
  | [], o, i, _ => rfl
  | c :: t, o, i, h => by
    have hc := h c (by simp)
    have ih := fun o i => takeQ_open t o i fun d hd => h d (by simp [hd])
    rw [esc_cons]
    by_cases h39 : c.toNat = 39
    · rw [if_pos h39]
      show takeQ (39 :: 39 :: esc t) o i = _
      simp only [takeQ]
      rw [if_neg (by decide), if_neg (by decide), if_neg (by decide), if_pos (by decide), ih]
    · rw [if_neg h39]
      show takeQ (c :: esc t) o i = _
      cases he : esc t with
      | nil => simp only [takeQ]; rw [if_neg h39]
      | cons d r' =>
        have e := ih (o ++ [c]) (i + 1)
        rw [he] at e
        simp only [takeQ]
        rw [if_neg hc.1, if_neg hc.2, if_pos h39, e]
theorem takeQ_end (r o : List UInt8) (i : Nat) (h : r = [] ∨ (r.getD 0 0).toNat ≠ 39) : takeQ (39 :: r) o i = (o, i + 1, true) := by
  cases r with
  | nil => rfl
  | cons d r =>
    simp only [takeQ]
    have : d.toNat ≠ 39 := by simpa using h
    rw [if_neg (by decide), if_neg (by decide), if_neg (by decide), if_neg this]
theorem takeP_quote (r : List UInt8) : takeP (39 :: r) = takeQ r [] 1 := by
  unfold takeP
  rw [if_neg (by simp), if_neg (by simp)]; rfl

theorem putP_ok {s : List UInt8} (h : clean true s = true) : putP s = (39 :: (esc s ++ [39]), true) := by unfold putP; rw [if_pos h]; rfl
theorem putP_no {s : List UInt8} (h : clean true s = false) : putP s = ([], false) := by unfold putP; rw [if_neg (by simp [h])]
theorem take_put {s : List UInt8} (h : clean true s = true) (tl : List UInt8) (ht : tl = [] ∨ (tl.getD 0 0).toNat ≠ 39) : takeP ((putP s).1 ++ tl) = (s, (putP s).1.length, true) := by
  rw [putP_ok h]
  show takeP (39 :: (esc s ++ [39] ++ tl)) = _
  rw [takeP_quote, List.append_assoc, takeQ_esc s _ [] 1 (clean_nobreak h) (by simp)]
  show takeQ (39 :: tl) _ _ = _
  rw [takeQ_end tl _ _ ht]
  simp only [List.nil_append, List.length_cons, List.length_append, List.length_nil]
  congr 2; omega
theorem take_cut {s : List UInt8} (h : clean true s = true) : takeP ((putP s).1.take ((putP s).1.length - 1)) = no3 := by
  rw [putP_ok h]
  have e : (39 :: (esc s ++ [39])).take ((39 :: (esc s ++ [39])).length - 1) = 39 :: esc s := by
    show (39 :: (esc s ++ [39]) : List UInt8).take _ = _
    rw [← List.cons_append]
    rw [show ((39 :: esc s) ++ [39] : List UInt8).length - 1 = (39 :: esc s).length by simp, List.take_left']
    rfl
  rw [e, takeP_quote, takeQ_open s _ _ (clean_nobreak h)]
theorem putP_len {s : List UInt8} (h : clean true s = true) : (putP s).1.length = (esc s).length + 2 := by rw [putP_ok h]; simp

theorem D_SingleBack (s tl : List UInt8) : D id_law05SingleBack [.str s, .str tl] = some ⟨.bool true, false, []⟩ := by
  refine den_fn (N := 0) (F := law05SingleBack) rfl rfl ?_
  rw [law05SingleBack_eq]
  show law05SingleBackr D 0 s tl = _
  unfold law05SingleBackr
  rw [show (60 : Int) = ((60 : Nat) : Int) from rfl, D_Text s 60 (by omega), show (10 : Int) = ((10 : Nat) : Int) from rfl, D_Text tl 10 (by omega)]
  have hs : (s.take 60).length ≤ 60 := by simp; omega
  have ht : (tl.take 10).length ≤ 10 := by simp; omega
  generalize s.take 60 = s at hs
  generalize tl.take 10 = tl at ht
  have hel := esc_len s
  have key : ∀ tl : List UInt8, tl.length ≤ 11 → (tl = [] ∨ (tl.getD 0 0).toNat ≠ 39) →
      ((D id_singlePut [AV.str s]).bind fun r8 =>
      asSBT r8.v fun s8 b6 =>
      bif !b6 then
        (bif s8 == ([] : List UInt8) then
          ((D id_law05Wakes []).bind fun r9 =>
          asB r9.v fun b7 =>
          some ⟨AV.bool b7, false, []⟩)
        else
          some ⟨AV.bool false, false, []⟩)
      else
        bif (((s8.length : Nat) : Int) : Int) == 0 then
          (some ⟨AV.bool false, false, []⟩)
        else
          need (decide (s8.length + tl.length ≤ 9223372036854775807)) <|
          (D id_singleTake [AV.bytes (s8 ++ tl)]).bind fun r10 =>
          asSIBT r10.v fun s9 i3 b8 =>
          need (decide (0 ≤ (IntKind.i64.wrap (((s8.length : Nat) : Int) - 1) : Int)) && decide ((IntKind.i64.wrap (((s8.length : Nat) : Int) - 1) : Int) ≤ ((s8.length : Nat) : Int))) <|
          (D id_singleTake [AV.bytes ((s8.take (Int.toNat (IntKind.i64.wrap (((s8.length : Nat) : Int) - 1)))).drop 0)]).bind fun r11 =>
          asSIBT r11.v fun s10 i4 b9 =>
          bif b8 then
            (bif s9 == s then
              (bif (i3 : Int) == ((s8.length : Nat) : Int) then
                (bif !b9 then
                  (bif decide ((((s8.length : Nat) : Int) : Int) ≥ (IntKind.i64.wrap (((s.length : Nat) : Int) + 2))) then
                    ((D id_law05Wakes []).bind fun r12 =>
                    asB r12.v fun b10 =>
                    some ⟨AV.bool b10, false, []⟩)
                  else
                    some ⟨AV.bool false, false, []⟩)
                else
                  some ⟨AV.bool false, false, []⟩)
              else
                some ⟨AV.bool false, false, []⟩)
            else
              some ⟨AV.bool false, false, []⟩)
          else
            some ⟨AV.bool false, false, []⟩) = some (⟨.bool true, false, []⟩ : Res) := by
    intro tl htl hq
    rw [D_sPut s (by omega)]
    simp only [Option.bind_some, asSBT, asT_t, asC_c, asS_s, asB_b, asN_n]
    cases hcl : clean true s
    · rw [putP_no hcl]
      simp only [Bool.not_false, cond_true, beq_self_eq_true, D_wakes05, Option.bind_some, asB_b]
    · have hpl := putP_len hcl
      have e2 : (putP s).2 = true := by rw [putP_ok hcl]
      rw [e2]
      simp only [Bool.not_true, cond_false]
      rw [cond_ne (by omega), need_d (by omega), D_sTake _ (by simp; omega), take_put hcl tl hq]
      rw [wrap_i64 (by omega) (by omega), show ((((putP s).1.length : Nat) : Int) - 1) = (((putP s).1.length - 1 : Nat) : Int) by omega]
      simp only [Option.bind_some, asSIBT, asT_t, asC_c, asS_s, asB_b, asI_i, asN_n, Int.toNat_natCast, List.drop_zero]
      rw [need_d2 (by omega) (by omega), D_sTake _ (by simp; omega), take_cut hcl]
      simp only [Option.bind_some, asSIBT, asT_t, asC_c, asS_s, asB_b, asI_i, asN_n, no3, cond_true, beq_self_eq_true, Bool.not_false]
      rw [wrap_i64 (by omega) (by omega), cond_d (by omega), D_wakes05]; rfl
  simp only [Option.bind_some, asS_s]
  by_cases h0 : tl = []
  · subst h0
    rw [cond_nd (by simp)]
    exact key [] (by simp) (.inl rfl)
  · have hl := length_pos_of h0
    rw [cond_d (by omega), need_d (by omega), show Int.toNat 0 = 0 from rfl, get_bn hl]
    by_cases h39 : (tl.getD 0 0).toNat = 39
    · rw [cond_eq (by omega), need_d (by simp; omega)]
      exact key ([120] ++ tl) (by simp; omega) (.inr (by simp))
    · rw [cond_ne (by omega)]
      exact key tl (by omega) (.inr h39)

theorem D_SingleApart (s t : List UInt8) : D id_law05SingleApart [.str s, .str t] = some ⟨.bool true, false, []⟩ := by
  refine den_fn (N := 0) (F := law05SingleApart) rfl rfl ?_
  rw [law05SingleApart_eq]
  show law05SingleApartr D 0 s t = _
  unfold law05SingleApartr
  rw [show (40 : Int) = ((40 : Nat) : Int) from rfl, D_Text s 40 (by omega), D_Text t 40 (by omega)]
  have hs : (s.take 40).length ≤ 40 := by simp; omega
  have ht : (t.take 40).length ≤ 40 := by simp; omega
  generalize s.take 40 = s at hs
  generalize t.take 40 = t at ht
  have hel := esc_len s
  have hel2 := esc_len t
  simp only [Option.bind_some, asS_s]
  rw [D_sPut s (by omega), D_sPut t (by omega)]
  simp only [Option.bind_some, asSBT, asT_t, asC_c, asS_s, asB_b, asN_n, D_wakes05]
  cases hcs : clean true s
  · rw [putP_no hcs]; rfl
  cases hct : clean true t
  · rw [putP_no hct, putP_ok hcs]; rfl
  have hpl := putP_len hcs
  have hpl2 := putP_len hct
  have e2 : (putP s).2 = true := by rw [putP_ok hcs]
  have e3 : (putP t).2 = true := by rw [putP_ok hct]
  rw [e2, e3]
  simp only [Bool.not_true, cond_false]
  have hinj : ((putP s).1 == (putP t).1) = (s == t) := by
    rw [Bool.eq_iff_iff]
    simp only [beq_iff_eq]
    constructor
    · intro e
      have h1 := take_put hcs [] (.inl rfl)
      have h2 := take_put hct [] (.inl rfl)
      rw [e, h2] at h1
      exact (congrArg Prod.fst h1).symm
    · rintro rfl; rfl
  rw [hinj]
  simp only [beq_self_eq_true, Bool.not_true, cond_false]
  rw [need_d (by omega), D_sTake _ (by simp; omega)]
  have hkey : takeP ((putP s).1 ++ (putP t).1) = (s ++ [39] ++ t, (putP s).1.length + (putP t).1.length, true) := by
    rw [hpl, hpl2, putP_ok hcs, putP_ok hct]
    show takeP (39 :: (esc s ++ [39] ++ (39 :: (esc t ++ [39])))) = _
    rw [takeP_quote, List.append_assoc, takeQ_esc s _ [] 1 (clean_nobreak hcs) (by simp)]
    show takeQ (39 :: 39 :: (esc t ++ [39])) _ _ = _
    simp only [takeQ]
    rw [if_neg (by decide), if_neg (by decide), if_neg (by decide), if_pos (by decide), takeQ_esc t _ _ _ (clean_nobreak hct) (by simp), takeQ_end [] _ _ (.inl rfl)]
    simp only [List.nil_append, List.append_assoc]
    congr 2; omega
  rw [hkey]
  simp only [Option.bind_some, asSIBT, asT_t, asC_c, asS_s, asB_b, asI_i, asN_n, Bool.not_true, cond_false]
  rw [need_d (by simp; omega), need_d (by simp; omega), wrap_i64 (by omega) (by omega)]
  simp only [beq_self_eq_true, cond_true]
  rw [cond_eq (by omega)]

def noq (c : UInt8) : Bool := decide (c.toNat ≠ 39) && decide (c.toNat ≠ 10) && decide (c.toNat ≠ 13)
theorem forms_filter (s : List UInt8) (hs : s.length ≤ 1000) (N : Nat) (k0 : List UInt8 → Option Res) : ∀ (n i : Nat) (o : List UInt8), s.length < i + n → i ≤ s.length → o.length ≤ i →
    law05SingleForms_L1 D N k0 n o s (s.length : Int) i = k0 (o ++ (s.drop i).filter noq) := by
  intro n
  induction n with
  | zero => intro i o h _; omega
  | succ n ih =>
    intro i o h hi ho
    simp only [law05SingleForms_L1, law05SingleForms_L1s]
    by_cases hlt : i < s.length
    · have hc := byte_lt (s.getD i 0)
      rw [cond_d (by omega)]
      simp only [need_d (show (0 : Int) ≤ (i : Int) by omega), Int.toNat_natCast, get_bn hlt, UInt8.ofNat_toNat]
      rw [drop_step hlt, wrap_i64 (by omega) (by omega), show (i : Int) + 1 = ((i + 1 : Nat) : Int) by omega]
      generalize s.getD i 0 = c at hc ⊢
      have hno : noq (c) = false → k0 (o ++ (s.drop (i + 1)).filter noq) = k0 (o ++ (c :: s.drop (i + 1)).filter noq) := fun h => by rw [List.filter_cons_of_neg (by rw [h]; decide)]
      by_cases h39 : (c).toNat = 39
      · rw [cond_beq (by omega), ih (i + 1) o (by omega) (by omega) (by omega)]
        exact hno (by simp [noq, h39])
      rw [cond_bne (by omega)]
      by_cases h10 : (c).toNat = 10
      · rw [cond_beq (by omega), ih (i + 1) o (by omega) (by omega) (by omega)]
        exact hno (by simp [noq, h10])
      rw [cond_bne (by omega)]
      by_cases h13 : (c).toNat = 13
      · rw [cond_beq (by omega), ih (i + 1) o (by omega) (by omega) (by omega)]
        exact hno (by simp [noq, h13])
      rw [cond_bne (by omega), need_d2 (by omega) (by omega), need_d (by simp; omega), ih (i + 1) _ (by omega) (by omega) (by simp; omega), List.filter_cons_of_pos (by simp [noq, h39, h10, h13])]
      simp
    · rw [cond_nd (by omega), List.drop_eq_nil_of_le (by omega)]; simp

theorem forms_loop (xs : List (List UInt8)) (hx : ∀ x ∈ xs, x.length ≤ 1000000 ∧ takeP x = no3) (hl : xs.length ≤ 1000) (N : Nat) (k0 : Bool → Option Res) (k1 : List UInt8 → Option Res) (t : List UInt8) : ∀ (n i : Nat), xs.length < i + n → i ≤ xs.length →
    law05SingleForms_L2 D N k0 k1 n t (xs.map AV.str) (xs.length : Int) i = k1 t := by
  intro n
  induction n with
  | zero => intro i h _; omega
  | succ n ih =>
    intro i h hi
    simp only [law05SingleForms_L2, law05SingleForms_L2s]
    by_cases hlt : i < xs.length
    · rw [cond_d (by omega)]
      simp only [need_d (show (0 : Int) ≤ (i : Int) by omega), Int.toNat_natCast]
      rw [List.getElem?_map, List.getElem?_eq_getElem hlt]
      obtain ⟨h1, h2⟩ := hx xs[i] (List.getElem_mem hlt)
      simp only [Option.map_some, Option.bind_some, asS_s]
      rw [D_sTake _ h1, h2]
      simp only [Option.bind_some, asSIBT, asT_t, asC_c, asS_s, asB_b, asI_i, asN_n, no3, cond_false, beq_self_eq_true, Bool.not_true]
      rw [cond_beq (by rfl), wrap_i64 (by omega) (by omega), show (i : Int) + 1 = ((i + 1 : Nat) : Int) by omega]
      exact ih (i + 1) (by omega) (by omega)
    · rw [cond_nd (by omega)]

theorem D_SingleForms (s : List UInt8) : D id_law05SingleForms [.str s] = some ⟨.bool true, false, []⟩ := by
  refine den_fn (N := 100) (F := law05SingleForms) rfl rfl ?_
  rw [law05SingleForms_eq]
  show law05SingleFormsr D 100 s = _
  unfold law05SingleFormsr
  rw [show (20 : Int) = ((20 : Nat) : Int) from rfl, D_Text s 20 (by omega)]
  have hs : (s.take 20).length ≤ 20 := by simp; omega
  generalize s.take 20 = s at hs
  simp only [Option.bind_some, asS_s]
  rw [show (0 : Int) = ((0 : Nat) : Int) from rfl, forms_filter s (by omega) _ _ 100 0 [] (by omega) (by omega) (by simp), List.drop_zero, List.nil_append]
  have hf : (s.filter noq).length ≤ 20 := Nat.le_trans (List.length_filter_le _ _) hs
  have hq : ∀ c ∈ s.filter noq, c.toNat ≠ 39 ∧ c.toNat ≠ 10 ∧ c.toNat ≠ 13 := by
    intro c hc
    have := (List.mem_filter.1 hc).2
    simpa [noq, and_assoc] using this
  generalize s.filter noq = t at hf hq
  have he : esc t = t := esc_plain fun c hc => (hq c hc).1
  have hb : ∀ c ∈ t, c.toNat ≠ 10 ∧ c.toNat ≠ 13 := fun c hc => (hq c hc).2
  have run : ∀ r : List UInt8, r ≠ [] → takeQ (t ++ r) [] 1 = takeQ r t (1 + t.length) := by
    intro r hr
    have := takeQ_esc t r [] 1 hb hr
    rwa [he] at this
  have ln : ∀ a b : List UInt8, a.length ≤ 10 → b.length ≤ 200 → (a.length + b.length ≤ 9223372036854775807) := fun a b h1 h2 => by omega
  simp (disch := (simp; try omega)) only [need_d]
  have hxs : ∀ x ∈ ([[], t, [39] ++ t, ([39] ++ t) ++ [39, 39], ([39] ++ t) ++ [10, 39], ([39, 13] ++ t) ++ [39], ([34] ++ t) ++ [39], ([32, 39] ++ t) ++ [39]] : List (List UInt8)), x.length ≤ 1000000 ∧ takeP x = no3 := by
    intro x hx
    simp only [List.mem_cons, List.not_mem_nil, or_false] at hx
    rcases hx with rfl | rfl | rfl | rfl | rfl | rfl | rfl | rfl
    · exact ⟨by simp, rfl⟩
    · refine ⟨by omega, ?_⟩
      unfold takeP
      split
      · rfl
      · rename_i h0
        rw [if_pos]
        obtain ⟨c, r, rfl⟩ := List.exists_cons_of_ne_nil h0
        exact (hq c (by simp)).1
    · refine ⟨by simp; omega, ?_⟩
      show takeP (39 :: t) = _
      rw [takeP_quote, ← he, takeQ_open t _ _ hb]
    · refine ⟨by simp; omega, ?_⟩
      show takeP (39 :: (t ++ [39, 39])) = _
      rw [takeP_quote, run _ (by simp)]; rfl
    · refine ⟨by simp; omega, ?_⟩
      show takeP (39 :: (t ++ [10, 39])) = _
      rw [takeP_quote, run _ (by simp)]; rfl
    · refine ⟨by simp; omega, ?_⟩
      show takeP (39 :: (13 :: (t ++ [39]))) = _
      rw [takeP_quote]
      obtain ⟨d, r, hd⟩ : ∃ d r, t ++ [39] = d :: r := List.exists_cons_of_ne_nil (by simp)
      rw [hd]; rfl
    · exact ⟨by simp; omega, rfl⟩
    · exact ⟨by simp; omega, rfl⟩
  have hloop := fun (k0 : Bool → Option Res) (k1 : List UInt8 → Option Res) => forms_loop _ hxs (by simp) 100 k0 k1 t 100 0 (by simp) (by simp)
  simp only [List.map_cons, List.map_nil] at hloop
  have h8 : ∀ (l : List AV), l.length = 8 → ((l.length : Nat) : Int) = ((8 : Nat) : Int) := fun l h => by rw [h]
  refine (hloop _ _).trans ?_
  simp (disch := (simp; try omega)) only [need_d]
  have e1 : takeP (([39] ++ t) ++ [39]) = (t, t.length + 2, true) := by
    show takeP (39 :: (t ++ [39])) = _
    rw [takeP_quote, run _ (by simp), takeQ_end [] _ _ (.inl rfl)]
    congr 2; omega
  have e2 : takeP (((([39] ++ t) ++ [39, 39]) ++ t) ++ [39, 32, 120]) = (t ++ [39] ++ t, 2 * t.length + 4, true) := by
    have : (((([39] ++ t) ++ [39, 39]) ++ t) ++ [39, 32, 120] : List UInt8) = 39 :: (t ++ (39 :: 39 :: (t ++ [39, 32, 120]))) := by simp
    rw [this, takeP_quote, run _ (by simp)]
    simp only [takeQ]
    rw [if_neg (by decide), if_neg (by decide), if_neg (by decide), if_pos (by decide)]
    have h3 := takeQ_esc t [39, 32, 120] (t ++ [39]) (1 + t.length + 2) hb (by simp)
    rw [he] at h3
    rw [h3, takeQ_end [32, 120] _ _ (.inr (by decide))]
    congr 2; omega
  rw [D_sTake _ (by simp; omega), e1, D_sTake _ (by simp; omega), e2]
  simp only [Option.bind_some, asSIBT, asT_t, asC_c, asS_s, asB_b, asI_i, asN_n, cond_true, beq_self_eq_true]
  rw [wrap_i64 (x := (t.length : Int) + 2) (by omega) (by omega), cond_eq (by omega), wrap_i64 (x := 2 * (t.length : Int)) (by omega) (by omega), wrap_i64 (by omega) (by omega), cond_eq (by omega), D_wakes05]
  rfl

/-- How many quotes there are. -/
def quotes (l : List UInt8) : Nat := l.countP fun c => decide (c.toNat = 39)
theorem quotes_append (s t : List UInt8) : quotes (s ++ t) = quotes s + quotes t := List.countP_append ..
theorem quotes_none {l : List UInt8} (h : ∀ c ∈ l, c.toNat ≠ 39) : quotes l = 0 := by
  unfold quotes
  rw [List.countP_eq_zero]
  intro c hc
  simpa using h c hc
theorem esc_quotes (s : List UInt8) : (esc s).length = s.length + quotes s := by
  induction s with
  | nil => rfl
  | cons c s ih =>
    rw [esc_cons, List.length_append, ih]
    unfold quotes
    rw [List.countP_cons]
    by_cases h : c.toNat = 39
    · simp [h]; omega
    · simp [h]; omega
theorem quotes_step (s : List UInt8) (i : Nat) (h : i < s.length) : i + (runeAt s i).2 ≤ s.length ∧ 1 ≤ (runeAt s i).2 ∧ quotes (s.drop i) = (if (s.getD i 0).toNat = 39 then 1 else 0) + quotes (s.drop (i + (runeAt s i).2)) := by
  rw [runeAt_width s i h, drop_step h]
  have hc := byte_lt (s.getD i 0)
  have one : ∀ c : UInt8, quotes (c :: s.drop (i + 1)) = (if c.toNat = 39 then 1 else 0) + quotes (s.drop (i + 1)) := by
    intro c
    unfold quotes
    rw [List.countP_cons]
    by_cases h : c.toNat = 39 <;> simp [h]; omega
  rcases rune_shape (s.getD i 0) (s.drop (i + 1)) with ⟨g1, g2⟩ | ⟨g1, g2⟩ | ⟨v, k, g1, g2, g3, g4, g5, g6⟩ <;> rw [g2]
  · exact ⟨by simp only; omega, Nat.le_refl _, one _⟩
  · exact ⟨by simp only; omega, Nat.le_refl _, one _⟩
  · rw [List.length_drop] at g4
    refine ⟨by simp only; omega, by simp only; omega, ?_⟩
    rw [if_neg (by omega), ← drop_step h, Nat.zero_add]
    have e : s.drop i = (s.drop i).take k ++ s.drop (i + k) := by rw [← List.drop_drop, List.take_append_drop]
    rw [e, quotes_append, quotes_none, Nat.zero_add]
    intro c hc
    obtain ⟨j, hj⟩ := List.getElem?_of_mem hc
    rw [List.getElem?_take] at hj
    split at hj
    · rename_i hjk
      cases j with
      | zero =>
        rw [drop_step h] at hj
        simp at hj; subst hj
        have : (s.getD i 0).toNat ≠ 39 := by omega
        simpa [List.getD] using this
      | succ j =>
        have := g6 (j + 1) (by omega) hjk
        rw [← drop_step h, List.getD_eq_getElem?_getD, hj] at this
        simp only [Option.getD_some] at this
        omega
    · cases hj

theorem quotes_loop (s : List UInt8) (hs : s.length ≤ 1000) (N : Nat) (k0 : List UInt8 → Int → List UInt8 → Bool → Int → Option Res) (x : Int) (p : List UInt8) (b : Bool) : ∀ (n i m : Nat), s.length < i + n → i ≤ s.length → m ≤ i →
    law05SingleQuotes_L1 D N k0 n s x p b m s i = k0 s x p b ((m + quotes (s.drop i) : Nat) : Int) := by
  intro n
  induction n with
  | zero => intro i m h _; omega
  | succ n ih =>
    intro i m h hi hm
    simp only [law05SingleQuotes_L1, law05SingleQuotes_L1s]
    by_cases hlt : i < s.length
    · obtain ⟨g1, g2, g3⟩ := quotes_step s i hlt
      rw [cond_d hlt, need_d (by omega)]
      simp only [Int.toNat_natCast, get_bn hlt]
      have hc := byte_lt (s.getD i 0)
      by_cases h39 : (s.getD i 0).toNat = 39
      · rw [cond_eq (by omega), wrap_i64 (by omega) (by omega), show (m : Int) + 1 = ((m + 1 : Nat) : Int) by omega, ih _ _ (by omega) (by omega) (by omega), g3, if_pos h39]
        congr 2; omega
      · rw [cond_ne (by omega), ih _ _ (by omega) (by omega) (by omega), g3, if_neg h39]
        congr 2; omega
    · rw [cond_nd hlt, List.drop_eq_nil_of_le (by omega)]; rfl

theorem D_SingleQuotes (s : List UInt8) (x : Int) : D id_law05SingleQuotes [.str s, .int .i64 x] = some ⟨.bool true, false, []⟩ := by
  refine den_fn (N := 100) (F := law05SingleQuotes) rfl rfl ?_
  rw [law05SingleQuotes_eq]
  show law05SingleQuotesr D 100 s x = _
  unfold law05SingleQuotesr
  rw [show (40 : Int) = ((40 : Nat) : Int) from rfl, D_Text s 40 (by omega)]
  have hs : (s.take 40).length ≤ 40 := by simp; omega
  generalize s.take 40 = s at hs
  simp only [Option.bind_some, asS_s]
  rw [D_sPut s (by omega)]
  simp only [Option.bind_some, asSBT, asT_t, asC_c, asS_s, asB_b, asN_n]
  rw [show (0 : Int) = ((0 : Nat) : Int) from rfl, quotes_loop s (by omega) _ _ x _ _ 100 0 0 (by omega) (by omega) (by omega), List.drop_zero, Nat.zero_add]
  have hq := esc_quotes s
  have hel := esc_len s
  obtain ⟨k, hk, hk6⟩ : ∃ k : Nat, x % 6 = (k : Int) ∧ k < 6 := by
    have h4 := Int.emod_nonneg x (b := 6) (by omega)
    have h5 := Int.emod_lt_of_pos x (b := 6) (by omega)
    exact ⟨(x % 6).toNat, by omega, by omega⟩
  have fin : ((D id_keepWithin [AV.int .i64 x, AV.int .i64 6]).bind fun r6 =>
        asI .i64 r6.v fun i11 =>
        need (decide (((0 : Nat) : Int) ≤ (i11 : Int))) <|
        (([AV.str ([10] : List UInt8), AV.str ([13] : List UInt8), AV.str ([0] : List UInt8), AV.str ([255] : List UInt8), AV.str ([127] : List UInt8), AV.str ([239, 187, 191] : List UInt8)] : List AV)[Int.toNat i11]?).bind fun e2 =>
        asS e2 fun s15 =>
        need (decide (s.length + s15.length ≤ 9223372036854775807)) <|
        (D id_singlePut [AV.str (s ++ s15)]).bind fun r7 =>
        asSBT r7.v fun s16 b8 =>
        bif !b8 then
          ((D id_law05Wakes []).bind fun r8 =>
          asB r8.v fun b9 =>
          some ⟨AV.bool b9, false, []⟩)
        else
          some ⟨AV.bool false, false, []⟩) = some (⟨.bool true, false, []⟩ : Res) := by
    rw [D_Within x 6 (by omega) (by omega), hk]
    simp only [Option.bind_some, asI_i, Int.toNat_natCast]
    rw [need_d (by omega)]
    have tail : ∀ y : List UInt8, y.length ≤ 3 → y ≠ [] → (y.getD 0 0).toNat / 64 ≠ 2 → clean true y = false →
        (asS (.str y) fun s15 =>
        need (decide (s.length + s15.length ≤ 9223372036854775807)) <|
        (D id_singlePut [AV.str (s ++ s15)]).bind fun r7 =>
        asSBT r7.v fun s16 b8 =>
        bif !b8 then
          ((D id_law05Wakes []).bind fun r8 =>
          asB r8.v fun b9 =>
          some ⟨AV.bool b9, false, []⟩)
        else
          some ⟨AV.bool false, false, []⟩) = some (⟨.bool true, false, []⟩ : Res) := by
      intro y h1 h2 h3 h4
      simp only [asS_s]
      rw [need_d (by omega), D_sPut _ (by simp; omega), putP_no (clean_spoilt true s y h3 h2 h4)]
      simp only [Option.bind_some, asSBT, asT_t, asC_c, asS_s, asB_b, asN_n, Bool.not_false, cond_true, D_wakes05]
    obtain rfl | rfl | rfl | rfl | rfl | rfl : k = 0 ∨ k = 1 ∨ k = 2 ∨ k = 3 ∨ k = 4 ∨ k = 5 := by omega
    · exact tail [10] (by decide) (by decide) (by decide) (by decide +kernel)
    · exact tail [13] (by decide) (by decide) (by decide) (by decide +kernel)
    · exact tail [0] (by decide) (by decide) (by decide) (by decide +kernel)
    · exact tail [255] (by decide) (by decide) (by decide) (by decide +kernel)
    · exact tail [127] (by decide) (by decide) (by decide) (by decide +kernel)
    · exact tail [239, 187, 191] (by decide) (by decide) (by decide) (by decide +kernel)
  cases hcl : clean true s
  · rw [putP_no hcl]
    simp only [cond_false]
    exact fin
  · have hpl := putP_len hcl
    have e2 : (putP s).2 = true := by rw [putP_ok hcl]
    have e3 : (putP s).1.getD 0 0 = 39 := by rw [putP_ok hcl]; rfl
    have e4 : (putP s).1.getD ((putP s).1.length - 1) 0 = 39 := by
      rw [hpl, putP_ok hcl]
      show (39 :: (esc s ++ [39]) : List UInt8).getD ((esc s).length + 2 - 1) 0 = 39
      rw [show (esc s).length + 2 - 1 = (esc s).length + 1 by omega, List.getD_eq_getElem?_getD, List.getElem?_cons_succ, List.getElem?_append_right (Nat.le_refl _), Nat.sub_self]; rfl
    rw [e2]
    simp only [cond_true]
    rw [wrap_i64 (x := (s.length : Int) + 2) (by omega) (by omega), wrap_i64 (by omega) (by omega), cond_beq (by omega), need_d (by omega), show Int.toNat ((0 : Nat) : Int) = 0 from rfl, get_bn (by omega), e3]
    rw [cond_beq (by decide), wrap_i64 (by omega) (by omega), show (((putP s).1.length : Nat) : Int) - 1 = (((putP s).1.length - 1 : Nat) : Int) by omega, need_d (by omega)]
    simp only [Int.toNat_natCast]
    rw [get_bn (by omega), e4, cond_beq (by decide)]
    exact fin
end Go.Proofs.YtpgcjcggnfagfaaDoor.Vf
