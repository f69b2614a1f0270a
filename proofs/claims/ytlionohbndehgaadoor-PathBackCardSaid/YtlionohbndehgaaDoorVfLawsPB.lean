
/- The law PathBack comes to true, whatever the input. The steps' numbers are 64 bits wide. -/
import Derived.Test.YtlionohbndehgaaDoorVfLawsPP
import Derived.Test.YtlionohbndehgaaDoorVfPathK
namespace Go.Proofs.YtlionohbndehgaaDoor.Vf
set_option linter.unusedVariables false
set_option linter.unusedSimpArgs false

theorem D_StepsB (l : List StZ) (hr : ∀ y ∈ l, i64R y.1 ∧ i64R y.2.2) (b : Bool) : ∃ x : List StZ, x.length ≤ 36 ∧ (∀ y ∈ x, okZ y) ∧ ∃ o, D id_law20Steps [.row 3 (l.map stZ), .bool b] = some ⟨.row 3 (x.map stZ), o, []⟩ := by
  obtain ⟨x, h1, h2, h3⟩ := steps_loop 100 l hr b (fun l44 => some ⟨AV.row 3 ((l44.drop 0).take l44.length), true, []⟩) 100 0 [] (by omega) (by omega) (by simp) (by simp)
  refine ⟨x, h1, h2, true, ?_⟩
  refine den_fn (N := 100) (F := law20Steps) rfl rfl ?_
  rw [law20Steps_eq]
  refine Eq.trans (show _ = _ from h3) ?_
  rw [List.drop_zero, List.take_length]
/-- A first step, if there is one. -/
def docS (hd : List Stp) : Prop := hd = [] ∨ hd = [(1, [], -1)] ∨ ∃ m : Nat, m ≤ 999999 ∧ hd = [(1, [], (m : Int))]
theorem numP_le9 {s : List UInt8} {v : Nat} {r : List UInt8} (h : numP s = some (v, r)) : v ≤ 999999 := by
  have : stepP (91 :: (s.take (drun s) ++ [93])) = some ((3, [], (v : Int)), []) := by
    have h1 := h
    unfold numP at h1
    split at h1
    · rename_i hc
      simp only [Option.some.injEq, Prod.mk.injEq] at h1
      have hd : drun (s.take (drun s) ++ [93]) = drun s := by
        have key : ∀ (k : Nat) (s : List UInt8), k ≤ drun s → drun (s.take k ++ [93]) = k := by
          intro k
          induction k with
          | zero => intro s _; simp only [List.take_zero, List.nil_append, drun]; rw [if_neg (by decide)]
          | succ k ih =>
            intro s hk
            cases s with
            | nil => simp [drun] at hk
            | cons c r =>
              simp only [drun] at hk
              by_cases hc : 48 ≤ c.toNat ∧ c.toNat ≤ 57
              · rw [if_pos hc] at hk
                simp only [List.take_succ_cons, List.cons_append, drun]
                rw [if_pos hc, ih r (by omega)]
              · rw [if_neg hc] at hk; omega
        exact key (drun s) s (Nat.le_refl _)
      have hl := drun_le s
      have htl : (s.take (drun s)).length = drun s := by rw [List.length_take]; omega
      have hn : numP (s.take (drun s) ++ [93]) = some (v, [93]) := by
        unfold numP
        rw [hd, if_pos, List.take_left' htl, List.drop_left' htl, h1.1]
        refine ⟨hc.1, hc.2.1, ?_⟩
        rcases hc.2.2 with h2 | h2
        · exact .inl h2
        · right
          cases s with
          | nil => simp [drun] at hc
          | cons c r =>
            obtain ⟨k, hk⟩ : ∃ k, drun (c :: r) = k + 1 := ⟨drun (c :: r) - 1, by omega⟩
            rw [hk, List.take_succ_cons, List.cons_append, List.getD_cons_zero]
            rw [List.getD_cons_zero] at h2; exact h2
      simp only [stepP]
      rw [if_pos (by decide), hn]
      rfl
    · cases h1
  rcases stepP_canon this with ⟨h1, _⟩ | ⟨n, hn, hx⟩ | hx | hx
  · cases h1
  · simp only [Prod.mk.injEq] at hx
    have := hx.2.2; omega
  · cases hx
  · cases hx
theorem firstP_doc {s r : List UInt8} {hd : List Stp} (h : firstP s = some (hd, r)) : docS hd := by
  unfold firstP at h
  split at h
  · simp only [Option.some.injEq, Prod.mk.injEq] at h
    exact .inl h.1.symm
  · split at h
    · split at h
      · cases h
      · split at h
        · simp only [Option.some.injEq, Prod.mk.injEq] at h
          exact .inr (.inl h.1.symm)
        · simp only [Option.map_eq_some_iff] at h
          obtain ⟨q, hq, h⟩ := h
          simp only [Prod.mk.injEq] at h
          exact .inr (.inr ⟨q.1, numP_le9 (r := q.2) hq, h.1.symm⟩)
    · simp only [Option.some.injEq, Prod.mk.injEq] at h
      exact .inl h.1.symm
theorem parse_shape {s : List UInt8} (h : (parseP s).2 = 0) : ∃ hd tl, (parseP s).1 = hd ++ tl ∧ docS hd ∧ (∀ x ∈ tl, canonS x) := by
  obtain ⟨h1, _, _⟩ := parseP_ok h
  unfold allP at h1
  rw [Option.bind_eq_some_iff] at h1
  obtain ⟨p, hp, h1⟩ := h1
  rw [Option.map_eq_some_iff] at h1
  obtain ⟨l, hl, h1⟩ := h1
  exact ⟨p.1, l, h1.symm, firstP_doc (r := p.2) hp, stepsL_canon _ _ _ hl⟩
theorem first_texts {hd tl : List Stp} (hh : docS hd) (ht : ∀ x ∈ tl, canonS x) : firstP (textsP ((hd ++ tl).map toZ)) = some (hd, textsP (tl.map toZ)) := by
  have hf := texts_front ht
  rcases hh with rfl | rfl | ⟨m, hm, rfl⟩
  · rw [List.nil_append]
    rcases hf with e | ⟨c, r, e, hc⟩
    · rw [e]; rfl
    · rw [e]
      simp only [firstP]
      rw [if_neg (by omega)]
  · rw [List.singleton_append, texts_cons]
    show firstP ([64, 42] ++ textsP (tl.map toZ)) = _
    simp only [List.cons_append, List.nil_append, firstP]
    rw [if_pos (by decide), if_pos (by decide)]
  · rw [List.singleton_append, texts_cons]
    have e : textP (toZ (1, [], (m : Int))) = 64 :: Lib.decDigits m := by
      show (if (m : Int) = -1 then [64, 42] else 64 :: Lib.itoa (m : Int)) = _
      rw [if_neg (by omega), itoa_nat]
    have hn := numP_digits m hm (textsP (tl.map toZ)) (by
      rcases hf with e | ⟨c, r, e, hc⟩
      · exact .inl e
      · exact .inr ⟨c, r, e, by omega⟩)
    rw [e, List.cons_append]
    have hdg := decDigits_dig m
    have hne : Lib.decDigits m ≠ [] := by
      rw [Lib.decDigits]
      split <;> simp
    cases hq : Lib.decDigits m with
    | nil => exact absurd hq hne
    | cons d q =>
      rw [hq] at hn hdg
      have hd := hdg d List.mem_cons_self
      rw [List.cons_append] at hn ⊢
      simp only [firstP]
      rw [if_pos (by decide), if_neg (by omega), hn]
      rfl
theorem doc_valid {hd : List Stp} (hh : docS hd) : hd.all vName = true := by
  rcases hh with rfl | rfl | ⟨m, hm, rfl⟩ <;> rfl
theorem toZ_inj {a b : List Stp} (h : a.map toZ = b.map toZ) : a = b := by
  refine (List.map_inj_right (f := toZ) ?_).1 h
  intro x y hxy
  obtain ⟨x1, x2, x3⟩ := x
  obtain ⟨y1, y2, y3⟩ := y
  simp only [toZ, Prod.mk.injEq] at hxy
  obtain ⟨h1, h2, h3⟩ := hxy
  rw [h2, h3, show x1 = y1 by omega]
/-- Steps that were read, printed. -/
theorem print_read {s : List UInt8} (h : (parseP s).2 = 0) : if (parseP s).1.all vName = true then printP ((parseP s).1.map toZ) = (textsP ((parseP s).1.map toZ), 0) ∧ parseP (textsP ((parseP s).1.map toZ)) = ((parseP s).1, 0) else printP ((parseP s).1.map toZ) = ([], 6) := by
  obtain ⟨h1, h2, h3⟩ := parseP_ok h
  obtain ⟨hd, tl, e, hdoc, hcan⟩ := parse_shape h
  rw [e] at h2 h3 ⊢
  have hall : allP (textsP ((hd ++ tl).map toZ)) = (stepsL ((textsP (tl.map toZ)).length + 1) (textsP (tl.map toZ))).map fun l => hd ++ l := by
    unfold allP
    rw [first_texts hdoc hcan]; rfl
  rw [List.all_append, doc_valid hdoc, Bool.true_and]
  cases hv : tl.all vName
  · rw [if_neg (by simp)]
    unfold printP
    rw [if_neg]
    rintro ⟨g1, g2⟩
    have g3 := toZ_inj g2
    obtain ⟨g4, _, _⟩ := parseP_ok g1
    rw [g3, hall, Option.map_eq_some_iff] at g4
    obtain ⟨l, hl, g5⟩ := g4
    have := List.append_cancel_left g5
    subst this
    exact steps_lost l _ hcan hv hl
  · rw [if_pos rfl]
    have hp : parseP (textsP ((hd ++ tl).map toZ)) = (hd ++ tl, 0) := by
      rw [parseP_eq, hall, steps_back tl _ hcan hv (by omega)]
      simp only [Option.map_some]
      rw [if_neg]
      rintro (g | g)
      · omega
      · rw [h3] at g; cases g
    refine ⟨?_, hp⟩
    unfold printP
    rw [hp, if_pos ⟨rfl, rfl⟩]
theorem back20_loop (l : List Stp) (hl : l.length ≤ 1000000) (ho : ∀ x ∈ l, x.2.1.length ≤ 200) (N : Nat) (u : List UInt8) (f : Int) (k0 : Bool → Option Res) (k1 : List AV → List UInt8 → Int → Option Res) : ∀ (n i : Nat), l.length < n + i → i ≤ l.length →
    law20PathBack_L1 D N k0 k1 n (l.map stA) u f ((l.length : Nat) : Int) (i : Int) = if (l.drop i).all vName = true then k1 (l.map stA) u f else (bif f == 6 then (bif u == ([] : List UInt8) then k0 true else k0 false) else k0 false) := by
  intro n
  induction n with
  | zero => intro i h _; omega
  | succ n ih =>
    intro i h hi
    simp only [law20PathBack_L1, law20PathBack_L1s]
    by_cases hlt : i < l.length
    · have e1 : (l.map stA)[i]? = some (stA l[i]) := by rw [List.getElem?_map, List.getElem?_eq_getElem hlt]; rfl
      have hx := ho l[i] (List.getElem_mem hlt)
      rw [cond_d (by omega), need_d (by omega), Int.toNat_natCast, e1, List.drop_eq_getElem_cons hlt, List.all_cons]
      generalize l[i] = x at hx
      obtain ⟨k, nm, v⟩ := x
      simp only at hx
      simp only [stA, Option.bind_some, asISIA, asA_a, asC_c, asI_i, asS_s, asN_n]
      rw [D_refPut6 nm (by omega), D_wakes20]
      simp only [Option.bind_some, asSBT, asT_t, asC_c, asS_s, asB_b, asN_n]
      cases hv : Lib.validD nm
      · rw [show vName (k, nm, v) = false from hv]
        simp
      · rw [show vName (k, nm, v) = true from hv]
        simp only [Bool.not_true, cond_false, Bool.true_and]
        rw [wrap_i64 (by omega) (by omega), show (i : Int) + 1 = ((i + 1 : Nat) : Int) by omega]
        exact ih (i + 1) (by omega) (by omega)
    · rw [cond_nd (by omega), List.drop_eq_nil_of_le (by omega)]; rfl
theorem back20 (t : List UInt8) (ht : t.length ≤ 360) :
    ((D id_pathParse [AV.str t]).bind fun r6 =>
        asRIT r6.v fun l5 i3 =>
        bif (i3 : Int) != 0 then
          (bif (i3 : Int) == 6 then
            (bif (((l5.length : Nat) : Int) : Int) == 0 then
              ((D id_law20Wakes []).bind fun r7 =>
              asB r7.v fun b3 =>
              some (⟨AV.bool b3, false, []⟩ : Res))
            else
              some ⟨AV.bool false, false, []⟩)
          else
            bif (i3 : Int) == 10 then
              (bif (((l5.length : Nat) : Int) : Int) == 0 then
                ((D id_law20Wakes []).bind fun r8 =>
                asB r8.v fun b4 =>
                some ⟨AV.bool b4, false, []⟩)
              else
                some ⟨AV.bool false, false, []⟩)
            else
              some ⟨AV.bool false, false, []⟩)
        else
          (D id_pathPrint [AV.row 3 l5]).bind fun r9 =>
          asSIT r9.v fun s4 i4 =>
          law20PathBack_L1 D 100
            (fun b9 =>
              some ⟨AV.bool b9, false, []⟩)
            (fun l9 s10 i12 =>
              (D id_pathParse [AV.str s10]).bind fun r12 =>
              asRIT r12.v fun l10 i13 =>
              bif (i12 : Int) == 0 then
                (bif (i13 : Int) == 0 then
                  ((D id_keepSamePathStep [AV.row 3 l9, AV.row 3 l10]).bind fun r13 =>
                  asB r13.v fun b10 =>
                  bif b10 then
                    ((D id_law20Wakes []).bind fun r14 =>
                    asB r14.v fun b11 =>
                    some ⟨AV.bool b11, false, []⟩)
                  else
                    some ⟨AV.bool false, false, []⟩)
                else
                  some ⟨AV.bool false, false, []⟩)
              else
                some ⟨AV.bool false, false, []⟩)
            100 l5 s4 i4 ((l5.length : Nat) : Int) 0) = some ⟨.bool true, false, []⟩ := by
  rw [D_Parse t (by omega)]
  simp only [Option.bind_some, asRIT, asT_t, asC_c, asR_r, asI_i, asN_n, D_wakes20, asB_b, List.length_map]
  by_cases h0 : (parseP t).2 = 0
  · rw [cond_beq h0]
    obtain ⟨h1, h2, h3⟩ := parseP_ok h0
    have hpr := print_read h0
    generalize hy : (parseP t).1 = y at *
    have hnm : ∀ x ∈ y, x.2.1.length ≤ 128 := by
      intro x hx
      have := List.any_eq_false.1 h3 x hx
      simpa using this
    have hokz : ∀ x ∈ y.map toZ, okZ x := by
      intro z hz
      obtain ⟨x, hx, rfl⟩ := List.mem_map.1 hz
      obtain ⟨hd, tl, e, hdoc, hcan⟩ := parse_shape h0
      rw [hy] at e
      have hn := hnm x hx
      rw [e] at hx
      refine ⟨?_, by show x.2.1.length ≤ 200; omega, ?_⟩
      · rcases List.mem_append.1 hx with hx | hx
        · rcases hdoc with rfl | rfl | ⟨m, hm, rfl⟩
          · simp at hx
          · rw [List.mem_singleton.1 hx]; exact ⟨by decide, by decide⟩
          · rw [List.mem_singleton.1 hx]
            show i64R ((1 : Nat) : Int)
            exact ⟨by decide, by decide⟩
        · rcases hcan x hx with ⟨g, _⟩ | ⟨m, hm, g⟩ | g | g
          · show i64R (x.1 : Int)
            rw [g]; exact ⟨by decide, by decide⟩
          · rw [g]
            show i64R ((3 : Nat) : Int)
            exact ⟨by decide, by decide⟩
          · rw [g]; exact ⟨by decide, by decide⟩
          · rw [g]; exact ⟨by decide, by decide⟩
      · rcases List.mem_append.1 hx with hx | hx
        · rcases hdoc with rfl | rfl | ⟨m, hm, rfl⟩
          · simp at hx
          · rw [List.mem_singleton.1 hx]; exact ⟨by decide, by decide⟩
          · rw [List.mem_singleton.1 hx]
            show i64R (m : Int)
            exact ⟨by omega, by omega⟩
        · rcases hcan x hx with ⟨_, g⟩ | ⟨m, hm, g⟩ | g | g
          · show i64R x.2.2
            rw [g]; exact ⟨by decide, by decide⟩
          · rw [g]
            show i64R (m : Int)
            exact ⟨by omega, by omega⟩
          · rw [g]; exact ⟨by decide, by decide⟩
          · rw [g]; exact ⟨by decide, by decide⟩
    have hpd := D_Print (y.map toZ) (by rw [List.length_map]; omega) hokz
    rw [← stA_map] at hpd
    rw [hpd]
    simp only [Option.bind_some, asSIT, asT_t, asC_c, asS_s, asI_i, asN_n]
    refine (back20_loop y (by omega) (fun x hx => by have := hnm x hx; omega) 100 _ _ _ _ 100 0 (by omega) (by omega)).trans ?_
    rw [List.drop_zero]
    have htl := textsP_len (y.map toZ) hokz
    rw [List.length_map] at htl
    by_cases hv : y.all vName = true
    · rw [if_pos hv] at hpr ⊢
      obtain ⟨g1, g2⟩ := hpr
      rw [g1]
      simp only
      rw [D_Parse _ (by omega), g2]
      simp only [Option.bind_some, asRIT, asT_t, asC_c, asR_r, asI_i, asN_n]
      rw [cond_eq rfl, cond_eq rfl, D_same20 y y (by omega)]
      simp only [Option.bind_some, asB_b, decide_true, cond_true]
    · rw [if_neg hv] at hpr ⊢
      rw [hpr]; rfl
  · obtain ⟨h1, h2⟩ := parseP_bad h0
    rw [cond_bne h0, h1]
    rcases h2 with h2 | h2
    · rw [cond_eq h2]; rfl
    · rw [cond_ne (by omega), cond_eq h2]; rfl
theorem D_PathBack (l : List StZ) (s : List UInt8) (zs : List Int) (b : Bool) (hr : ∀ y ∈ l, i64R y.1 ∧ i64R y.2.2) : D id_law20PathBack [.row 3 (l.map stZ), .str s, .row 1 (zs.map (AV.int .i64)), .bool b] = some ⟨.bool true, false, []⟩ := by
  refine den_fn (N := 100) (F := law20PathBack) rfl rfl ?_
  rw [law20PathBack_eq]
  show law20PathBackr D 100 (l.map stZ) s _ b = _
  unfold law20PathBackr
  obtain ⟨x, h1, h2, o, e⟩ := D_StepsB l hr false
  obtain ⟨t, ht, et⟩ := D_text20 s zs b
  rw [e]
  simp only [Option.bind_some, asR_r]
  rw [D_Print x (by omega) h2, et]
  simp only [Option.bind_some, asSIT, asT_t, asC_c, asS_s, asI_i, asN_n]
  have htl := textsP_len x h2
  by_cases hp : (parseP (textsP x)).2 = 0 ∧ (parseP (textsP x)).1.map toZ = x
  · have e2 : printP x = (textsP x, 0) := by unfold printP; rw [if_pos hp]
    rw [e2]
    simp only
    rw [cond_eq rfl, D_Parse _ (by omega)]
    simp only [Option.bind_some, asRIT, asT_t, asC_c, asR_r, asI_i, asN_n]
    rw [cond_beq hp.1]
    have e3 : x.map stZ = (parseP (textsP x)).1.map stA := by rw [stA_map, hp.2]
    have hlen := parseP_len20 (s := textsP x)
    rw [e3, D_same20 _ _ (by omega)]
    simp only [Option.bind_some, asB_b, decide_true, Bool.not_true, cond_false]
    exact back20 t ht
  · have e2 : printP x = ([], 6) := by unfold printP; rw [if_neg hp]
    rw [e2]
    simp only
    rw [cond_ne (by omega), cond_beq rfl]
    exact back20 t ht
end Go.Proofs.YtlionohbndehgaaDoor.Vf
