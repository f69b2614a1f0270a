
/- The laws of chapter 6 on what is put and taken back, on what is no scalar, on runes by number. -/
import Derived.Test.YtpgcjcggnfagfaaDoorVfLawsW
namespace Go.Proofs.YtpgcjcggnfagfaaDoor.Vf
set_option linter.unusedVariables false
set_option linter.unusedSimpArgs false

def nice (q : Nat) : Prop := isRune q ∧ printable (q : Int) = true ∧ 32 ≤ q
theorem nice_ascii {q : Nat} (h : 32 ≤ q) (h' : q ≤ 126) : nice q := ⟨.inl (by omega), by unfold printable; rw [decide_eq_true_eq]; omega, h⟩
theorem ascii_txt : ∀ w : List UInt8, (∀ c ∈ w, 32 ≤ c.toNat ∧ c.toNat ≤ 126) → w = txt (w.map UInt8.toNat) ∧ ∀ q ∈ w.map UInt8.toNat, nice q
  | [], _ => ⟨rfl, by simp⟩
  | c :: w, h => by
    obtain ⟨h1, h2⟩ := h c (List.mem_cons_self ..)
    obtain ⟨h3, h4⟩ := ascii_txt w fun c hc => h c (List.mem_cons_of_mem _ hc)
    refine ⟨?_, fun q hq => ?_⟩
    · rw [List.map_cons, txt_cons, enc1 (by omega), ← h3, UInt8.ofNat_toNat]; rfl
    · rw [List.map_cons] at hq
      rcases List.mem_cons.1 hq with rfl | hq
      · exact nice_ascii h1 h2
      · exact h4 q hq
theorem hexL_ascii (k n : Nat) : ∀ c ∈ hexL k n, 32 ≤ c.toNat ∧ c.toNat ≤ 126 := fun c h => by
  have := hexL_cap k n c h; unfold capHex at this; omega
theorem one_nice (r : Nat) (hr : isRune r) : ∃ qs : List Nat, oneL r = txt qs ∧ ∀ q ∈ qs, nice q := by
  have two : ∀ (c d : UInt8) (w : List UInt8), (32 ≤ c.toNat ∧ c.toNat ≤ 126) → (32 ≤ d.toNat ∧ d.toNat ≤ 126) → (∀ c ∈ w, 32 ≤ c.toNat ∧ c.toNat ≤ 126) → ∃ qs : List Nat, c :: d :: w = txt qs ∧ ∀ q ∈ qs, nice q := by
    intro c d w h1 h2 h3
    refine ⟨_, ascii_txt (c :: d :: w) fun e he => ?_⟩
    rcases List.mem_cons.1 he with rfl | he
    · exact h1
    rcases List.mem_cons.1 he with rfl | he
    · exact h2
    · exact h3 e he
  unfold oneL
  cases he : escOf escTab r with
  | some c => exact two 92 c [] (by decide) (escTab_in _ (escOf_mem _ _ _ he)).2 (by simp)
  | none =>
    have hn := escOf_not he
    simp only
    by_cases hq : r = 34 ∨ r = 92
    · rw [if_pos hq]
      rcases hq with rfl | rfl
      · exact two 92 34 [] (by decide) (by decide) (by simp)
      · exact two 92 92 [] (by decide) (by decide) (by simp)
    · rw [if_neg hq]
      by_cases hp : prints r = true
      · rw [if_pos hp]
        refine ⟨[r], by simp [txt], fun q hq => ?_⟩
        rw [List.mem_singleton] at hq
        subst hq
        unfold prints at hp
        rw [decide_eq_true_eq] at hp
        exact ⟨hr, by unfold printable; rw [decide_eq_true_eq]; omega, by omega⟩
      · rw [if_neg hp]
        by_cases h1 : r < 256
        · rw [if_pos h1]; exact two 92 120 _ (by decide) (by decide) (hexL_ascii 2 r)
        · rw [if_neg h1]
          by_cases h2 : r < 65536
          · rw [if_pos h2]; exact two 92 117 _ (by decide) (by decide) (hexL_ascii 4 r)
          · rw [if_neg h2]; exact two 92 85 _ (by decide) (by decide) (hexL_ascii 8 r)
theorem dq_nice : ∀ rs : List Nat, (∀ r ∈ rs, isRune r) → ∃ qs : List Nat, dq rs = txt qs ∧ ∀ q ∈ qs, nice q
  | [], _ => ⟨[], rfl, by simp⟩
  | r :: rs, h => by
    obtain ⟨a, h1, h2⟩ := one_nice r (h r (List.mem_cons_self ..))
    obtain ⟨b, h3, h4⟩ := dq_nice rs fun r hr => h r (List.mem_cons_of_mem _ hr)
    exact ⟨a ++ b, by rw [dq_cons, txt_append, h1, h3], fun q hq => (List.mem_append.1 hq).elim (h2 q) (h4 q)⟩
theorem put_nice (rs : List Nat) (h : ∀ r ∈ rs, isRune r) : ∃ qs : List Nat, 34 :: dq rs ++ [34] = txt qs ∧ ∀ q ∈ qs, nice q := by
  obtain ⟨a, h1, h2⟩ := dq_nice rs h
  have e : txt [34] = [34] := by simp only [txt, List.flatMap_cons, List.flatMap_nil]; rw [enc1 (by omega)]; rfl
  refine ⟨[34] ++ a ++ [34], ?_, fun q hq => ?_⟩
  · rw [txt_append, txt_append, e, h1]; rfl
  · simp only [List.mem_append, List.mem_singleton] at hq
    rcases hq with (rfl | hq) | rfl
    · exact nice_ascii (by omega) (by omega)
    · exact h2 q hq
    · exact nice_ascii (by omega) (by omega)
theorem nice_bytes : ∀ qs : List Nat, (∀ q ∈ qs, nice q) → ∀ c ∈ txt qs, 32 ≤ c.toNat
  | [], _, c, h => by cases h
  | q :: qs, hq, c, h => by
    obtain ⟨h1, h2, h3⟩ := hq q (List.mem_cons_self ..)
    rw [txt_cons] at h
    rcases List.mem_append.1 h with h | h
    · rcases enc_bytes q h1 with ⟨g1, g2⟩ | ⟨g1, g2⟩
      · rw [g2, List.mem_singleton] at h; subst h; rw [ofNat8 (by omega)]; exact h3
      · have := g2 c h; omega
    · exact nice_bytes qs (fun q h => hq q (List.mem_cons_of_mem _ h)) c h
theorem nice_chk : ∀ (n : Nat) (qs : List Nat), (∀ q ∈ qs, nice q) → chkL n (txt qs) = none
  | 0, _, _ => rfl
  | n + 1, [], _ => rfl
  | n + 1, q :: qs, hq => by
    obtain ⟨h1, h2, h3⟩ := hq q (List.mem_cons_self ..)
    have hl := (enc_len6 (q : Int)).1
    have hne : Lib.encodeRune (q : Int) ++ txt qs ≠ [] := fun e => by have := congrArg List.length e; rw [List.length_append, List.length_nil] at this; omega
    have hr := rune_enc6 q h1 (txt qs)
    rw [txt_cons]
    simp only [chkL]
    have hb : badAt (Lib.encodeRune (q : Int) ++ txt qs) = false := by
      unfold badAt
      rw [hr]
      simp only [h2, Bool.not_true, Bool.false_or, Bool.and_eq_false_iff, decide_eq_false_iff_not]
      left; omega
    rw [if_neg hne, hb, if_neg (by simp), hr, List.drop_left, nice_chk n qs fun q h => hq q (List.mem_cons_of_mem _ h)]
    rfl

theorem back6_loop (s : List UInt8) (hs : ∀ c ∈ s, 32 ≤ c.toNat) (N : Nat) (e : Int) (k0 : Bool → Option Res) (k1 : List UInt8 → Int → Option Res) : ∀ (f i : Nat), s.length < f + i → i ≤ s.length →
    law06DoubleBack_L1 D N k0 k1 f s e s i = k1 s e := by
  intro f
  induction f with
  | zero => intro i h hi; omega
  | succ f ih =>
    intro i h hi
    simp only [law06DoubleBack_L1, law06DoubleBack_L1s]
    by_cases hlt : i < s.length
    · have hc := hs _ (mem_getD s i hlt)
      have hw : 1 ≤ (runeAt s i).2 ∧ (runeAt s i).2 ≤ s.length - i := by
        rw [runeAt_width s i hlt, ← List.length_drop]
        exact rune_size' _ (fun e => by have := congrArg List.length e; rw [List.length_drop] at this; simp at this; omega)
      rw [cond_d hlt]
      simp only [need_d (show (0 : Int) ≤ ((i : Nat) : Int) by omega), Int.toNat_natCast, get_bn hlt]
      rw [cond_ne (by omega), cond_ne (by omega), cond_ne (by omega)]
      exact ih _ (by omega) (by omega)
    · rw [cond_nd (by omega)]

theorem D_DoubleBack (s1 s2 : List UInt8) : D id_law06DoubleBack [.str s1, .str s2] = some ⟨.bool true, false, []⟩ := by
  refine den_fn (N := 10000) (F := law06DoubleBack) rfl rfl ?_
  rw [law06DoubleBack_eq]
  show law06DoubleBackr D 10000 s1 s2 = _
  unfold law06DoubleBackr
  rw [show (60 : Int) = ((60 : Nat) : Int) from rfl, show (10 : Int) = ((10 : Nat) : Int) from rfl, D_Text _ 60 (by omega), D_Text _ 10 (by omega)]
  simp only [Option.bind_some, asS_s]
  have hs : (s1.take 60).length ≤ 60 := by rw [List.length_take]; omega
  have ht : (s2.take 10).length ≤ 10 := by rw [List.length_take]; omega
  generalize s1.take 60 = s at hs
  generalize s2.take 10 = t at ht
  rw [D_Put6 s (by omega)]
  simp only [Option.bind_some, asSBT, asT_t, asC_c, asS_s, asB_b, asN_n]
  cases hv : Lib.validD s
  · simp only [Bool.not_false, cond_true, Bool.false_eq_true, if_false]
    rw [D_wakes06]; rfl
  obtain ⟨a, ha, rfl, hpa⟩ := valid_iff s hv
  have hla := dq_len a
  have hra := rs_len a
  obtain ⟨qs, hq1, hq2⟩ := put_nice a ha
  have hta := take_put a ha t
  have hto := take_open a ha
  simp only [Bool.not_true, cond_false, if_true]
  have la : (34 :: dq a ++ [34]).length = (dq a).length + 2 := by simp
  have pt : (34 :: dq a ++ [34]).take ((dq a).length + 1) = 34 :: dq a := List.take_left' (by simp)
  have hbm : bom (34 :: dq a ++ [34]) = 0 := by
    unfold bom
    rw [if_neg]
    intro h
    have := congrArg (fun l : List UInt8 => l.getD 0 0) h.2
    rw [List.cons_append, List.take_succ_cons] at this
    simp at this
  have hbytes := nice_bytes qs hq2
  have hchk := nice_chk ((34 :: dq a ++ [34]).length + 1) qs hq2
  rw [hpa]
  rw [← hq1] at hbytes hchk
  have hcp : checkP (34 :: dq a ++ [34]) = (0, 0) := by
    unfold checkP
    rw [if_neg (by rw [la]; omega), hbm, List.drop_zero]
    unfold chk
    rw [hchk]
  generalize 34 :: dq a ++ [34] = P at *
  rw [cond_ne (by omega), need_d (by omega), D_Take6 _ (by rw [List.length_append]; omega), hta]
  simp only [dR, Option.getD_some, Option.isSome_some, Option.bind_some, asSIBT, asT_t, asC_c, asS_s, asI_i, asB_b, asN_n, beq_self_eq_true, Bool.not_true, cond_false, cond_true]
  rw [cond_beq rfl, D_refCheck _ (by omega), hcp]
  simp only [Option.bind_some, asIIT, asT_t, asC_c, asI_i, asN_n]
  refine (back6_loop P hbytes 10000 0 _ _ 10000 0 (by omega) (by omega)).trans ?_
  rw [wrap_i64 (by omega) (by omega), show (P.length : Int) - 1 = (((dq a).length + 1 : Nat) : Int) by omega, need_d2 (by omega) (by omega)]
  simp only [Int.toNat_natCast, List.drop_zero, pt]
  rw [D_Take6 _ (by simp only [List.length_cons]; omega), hto, D_wakes06]
  rfl

theorem filt6_loop (s : List UInt8) (hs : s.length ≤ 100) (N : Nat) (k0 : List UInt8 → Option Res) : ∀ (f i : Nat) (t : List UInt8), s.length < f + i → i ≤ s.length → t.length ≤ i → (∀ c ∈ t, quiet c) →
    ∃ t' : List UInt8, (∀ c ∈ t', quiet c) ∧ t'.length ≤ s.length ∧ law06DoubleForms_L1 D N k0 f t s (s.length : Nat) i = k0 t' := by
  intro f
  induction f with
  | zero => intro i t h; omega
  | succ f ih =>
    intro i t h hi hl ht
    simp only [law06DoubleForms_L1, law06DoubleForms_L1s]
    by_cases hlt : i < s.length
    · rw [cond_d (by omega), need_d (by omega)]
      simp only [Int.toNat_natCast]
      rw [get_bn hlt]
      have hb := byte_lt (s.getD i 0)
      generalize s.getD i 0 = c at hb
      rw [wrap_i64 (by omega) (by omega), show (i : Int) + 1 = ((i + 1 : Nat) : Int) by omega]
      have skip := ih (i + 1) t (by omega) (by omega) (by omega) ht
      by_cases h1 : c.toNat = 34
      · rw [cond_beq (by omega)]; exact skip
      rw [cond_bne (by omega)]
      by_cases h2 : c.toNat = 92
      · rw [cond_beq (by omega)]; exact skip
      rw [cond_bne (by omega)]
      by_cases h3 : c.toNat = 10
      · rw [cond_beq (by omega)]; exact skip
      rw [cond_bne (by omega)]
      by_cases h4 : c.toNat = 13
      · rw [cond_beq (by omega)]; exact skip
      rw [cond_bne (by omega), need_d2 (by omega) (by omega), need_d (by simp; omega)]
      simp only [Int.toNat_natCast, UInt8.ofNat_toNat]
      refine ih (i + 1) _ (by omega) (by omega) (by rw [List.length_append, List.length_singleton]; omega) fun d hd => ?_
      rcases List.mem_append.1 hd with hd | hd
      · exact ht d hd
      · rw [List.mem_singleton] at hd; subst hd; exact ⟨h3, h4, h1, h2⟩
    · rw [cond_nd (by omega)]
      exact ⟨t, ht, by omega, rfl⟩
theorem none6_loop (s : List UInt8) (N : Nat) (k0 : Bool → Option Res) (k1 : List UInt8 → Option Res) (ws : List (List UInt8)) (hw : ∀ w ∈ ws, dtakeP w = none ∧ w.length ≤ 1000) (hl : ws.length ≤ 1000) : ∀ (f i : Nat), ws.length < f + i → i ≤ ws.length →
    law06DoubleForms_L2 D N k0 k1 f s (ws.map AV.str) (ws.length : Nat) i = k1 s := by
  intro f
  induction f with
  | zero => intro i h; omega
  | succ f ih =>
    intro i h hi
    simp only [law06DoubleForms_L2, law06DoubleForms_L2s]
    by_cases hlt : i < ws.length
    · obtain ⟨h1, h2⟩ := hw ws[i] (List.getElem_mem hlt)
      have e : (ws.map AV.str)[i]? = some (.str ws[i]) := by rw [List.getElem?_map, List.getElem?_eq_getElem hlt]; rfl
      rw [cond_d (by omega), need_d (by omega)]
      simp only [Int.toNat_natCast]
      rw [e]
      simp only [Option.bind_some, asS_s]
      rw [D_Take6 _ (by omega), h1]
      simp only [dR, Option.getD_none, Option.isSome_none, Option.bind_some, asSIBT, asT_t, asC_c, asS_s, asI_i, asB_b, asN_n, cond_false, beq_self_eq_true, Bool.not_true]
      rw [cond_beq (show (((0 : Nat) : Int)) = 0 from rfl), wrap_i64 (by omega) (by omega), show (i : Int) + 1 = ((i + 1 : Nat) : Int) by omega]
      exact ih (i + 1) (by omega) (by omega)
    · rw [cond_nd (by omega)]

theorem open_none (t rest : List UInt8) (ht : ∀ c ∈ t, quiet c) (h : ∀ i out, dt rest i out = none) : dtakeP (([34] ++ t) ++ rest) = none := by
  show dtakeP (34 :: (t ++ rest)) = none
  simp only [dtakeP]
  rw [if_pos t34, dt_quiet rest t _ _ ht, h]

set_option maxRecDepth 10000 in
theorem D_DoubleForms (s1 : List UInt8) : D id_law06DoubleForms [.str s1] = some ⟨.bool true, false, []⟩ := by
  refine den_fn (N := 1000) (F := law06DoubleForms) rfl rfl ?_
  rw [law06DoubleForms_eq]
  show law06DoubleFormsr D 1000 s1 = _
  unfold law06DoubleFormsr
  rw [show (20 : Int) = ((20 : Nat) : Int) from rfl, D_Text _ 20 (by omega)]
  simp only [Option.bind_some, asS_s]
  have hs : (s1.take 20).length ≤ 20 := by rw [List.length_take]; omega
  generalize s1.take 20 = s at hs
  obtain ⟨t, ht, hl, e⟩ := filt6_loop s (by omega) 1000 _ 1000 0 [] (by omega) (by omega) (by simp) (by simp)
  refine (show _ = _ from e).trans ?_
  clear e
  rw [need_d (by simp; omega), need_d (by simp; omega), need_d (by simp; omega), need_d (by simp; omega), need_d (by simp; omega), need_d (by simp; omega), need_d (by simp; omega), need_d (by simp; omega), need_d (by simp; omega), need_d (by simp; omega), need_d (by simp; omega), need_d (by simp; omega), need_d (by simp; omega)]
  refine (none6_loop t 1000 _ _ [[], t, [34] ++ t, ([34] ++ t) ++ [92, 34], ([34] ++ t) ++ [10, 34], ([34, 13] ++ t) ++ [34], ([39] ++ t) ++ [34], ([34] ++ t) ++ [92, 113, 34], ([34] ++ t) ++ [92, 120, 52, 34], [34, 92, 120, 103, 48, 34], [34, 92, 117, 49, 50, 51, 34], [34, 92, 117, 100, 56, 48, 48, 34], [34, 92, 85, 48, 48, 49, 49, 48, 48, 48, 48, 34], [34, 92, 85, 70, 70, 70, 70, 70, 70, 70, 70, 34], [34, 92]] ?_ (by simp) 1000 0 (by simp) (by simp)).trans ?_
  · intro w hw
    simp only [List.mem_cons, List.not_mem_nil, or_false] at hw
    rcases hw with rfl | rfl | rfl | rfl | rfl | rfl | rfl | rfl | rfl | rfl | rfl | rfl | rfl | rfl | rfl
    · exact ⟨rfl, by simp⟩
    · refine ⟨?_, by omega⟩
      cases w with
      | nil => rfl
      | cons c r =>
        have := (ht c (List.mem_cons_self ..)).2.2.1
        simp only [dtakeP]; rw [if_neg this]
    · refine ⟨?_, by simp; omega⟩
      have := open_none t [] ht fun _ _ => rfl
      rwa [List.append_nil] at this
    · exact ⟨open_none t _ ht fun _ _ => rfl, by simp; omega⟩
    · exact ⟨open_none t _ ht fun _ _ => rfl, by simp; omega⟩
    · refine ⟨?_, by simp; omega⟩
      show dtakeP (34 :: (13 :: (t ++ [34]))) = none
      simp only [dtakeP]
      rw [if_pos t34, dt_cons, if_pos (.inr rfl)]
    · exact ⟨rfl, by simp; omega⟩
    · exact ⟨open_none t _ ht fun _ _ => rfl, by simp; omega⟩
    · exact ⟨open_none t _ ht fun _ _ => rfl, by simp; omega⟩
    · exact ⟨rfl, by simp⟩
    · exact ⟨rfl, by simp⟩
    · exact ⟨rfl, by simp⟩
    · exact ⟨rfl, by simp⟩
    · exact ⟨rfl, by simp⟩
    · exact ⟨rfl, by simp⟩
  · have et : dtakeP ((([34] ++ t) ++ [34]) ++ t) = some (t, t.length + 2) := by
      rw [List.append_assoc]
      show dtakeP (34 :: (t ++ (34 :: t))) = _
      simp only [dtakeP]
      rw [if_pos t34, dt_quiet _ t _ _ ht, dt_cons, if_neg (by decide), if_pos t34, List.nil_append, show 1 + t.length + 1 = t.length + 2 by omega]
    rw [need_d (by simp; omega), need_d (by simp; omega), need_d (by simp; omega), D_Take6 _ (by simp; omega), et, D_wakes06]
    simp only [dR, Option.getD_some, Option.isSome_some, Option.bind_some, asSIBT, asT_t, asC_c, asS_s, asI_i, asB_b, asN_n, beq_self_eq_true, Bool.not_true, cond_false, cond_true]
    rw [wrap_i64 (by omega) (by omega), cond_eq (by omega)]
end Go.Proofs.YtpgcjcggnfagfaaDoor.Vf
