
/- The laws LinesSplit and LinesBlanks come to true, whatever the input. No condition but what an int holds. -/
import Derived.Test.YtnapopfbmdghkaaDoorVfLinesC
import Derived.Test.YtnapopfbmdghkaaDoorVfIntact
namespace Go.Proofs.YtnapopfbmdghkaaDoor.Vf
set_option linter.unusedVariables false
set_option linter.unusedSimpArgs false

theorem split_law_loop (b : List UInt8) (hb : b.length ≤ 1000000) (l : List Ln) (hin : ∀ y ∈ l, y.f ≤ y.t ∧ y.t ≤ b.length) (hl : l.length ≤ 2000000) (N : Nat) (k0) (k1) (u v x y : Int) : ∀ (n i : Nat), l.length < i + n → i ≤ l.length →
    law02LinesSplit_L1 D N k0 k1 n b b (l.map Ln.av) (l.map Ln.av) u v x y (l.length : Nat) i = k1 b b u v x y := by
  intro n
  induction n with
  | zero => intro i h h'; omega
  | succ n ih =>
    intro i h h'
    simp only [law02LinesSplit_L1, law02LinesSplit_L1s]
    by_cases hi : i < l.length
    · have hx : l[i]? = some l[i] := List.getElem?_eq_getElem hi
      obtain ⟨g1, g2⟩ := hin l[i] (List.getElem_mem hi)
      generalize l[i] = z at hx g1 g2
      have e1 : D id_linesIndent [.bytes b, .agg [.int .i64 z.f, .int .i64 z.t, .int .i64 z.n]] = _ := D_Indent b z g1 g2 hb
      have e2 : D id_ref01Indent [.bytes b, .agg [.int .i64 z.f, .int .i64 z.t, .int .i64 z.n]] = _ := D_refIndent b z g1 g2 hb
      have e3 : D id_linesBlank [.bytes b, .agg [.int .i64 z.f, .int .i64 z.t, .int .i64 z.n]] = _ := D_Blank b z g1 g2 hb
      have e4 : D id_ref01Blank [.bytes b, .agg [.int .i64 z.f, .int .i64 z.t, .int .i64 z.n]] = _ := D_refBlank b z g1 g2 hb
      rw [cond_d (by omega), need_d (by omega)]
      simp only [Int.toNat_natCast, List.getElem?_map, hx, Option.map_some, Option.bind_some, asIIIA_av, beq_self_eq_true, Bool.and_self, Bool.not_true, cond_false, need_d (show (0 : Int) ≤ (i : Int) by omega), e1, e2, e3, e4, asI_i, asB_b, bne_self_eq_false]
      rw [wrap_i64 (by omega) (by omega), show (i : Int) + 1 = ((i + 1 : Nat) : Int) by omega]
      exact ih (i + 1) (by omega) (by omega)
    · rw [cond_nd (by omega)]

theorem D_LinesSplit (s : List UInt8) (off : Int) (h1 : off ≤ 9223372036854775807) : D id_law02LinesSplit [.bytes s, .int .i64 off] = some ⟨.bool true, false, []⟩ := by
  refine den_fn (N := 202) (F := law02LinesSplit) rfl rfl ?_
  rw [law02LinesSplit_eq]
  show law02LinesSplitr D 202 s off = _
  unfold law02LinesSplitr
  rw [show (200 : Int) = ((200 : Nat) : Int) from rfl, D_Cut s 200 (by omega)]
  have hb : (s.take 200).length ≤ 200 := by simp; omega
  generalize s.take 200 = b at hb
  have hin : ∀ y ∈ splitL b, y.f ≤ y.t ∧ y.t ≤ b.length := fun y hy => by have := (tiled b).inside y hy; omega
  have hf : ∀ y ∈ splitL b, y.f ≤ 2000000 := fun y hy => by have := (tiled b).inside y hy; omega
  have hl : (splitL b).length ≤ 201 := by have := splitFrom_len b (b.length + 1) (bomAt b); unfold splitL; omega
  simp only [Option.bind_some, asY_y]
  rw [D_Lend b (by omega)]
  simp only [Option.bind_some, asL_l]
  rw [D_Split b (by omega), D_refSplit b (by omega), D_Break b (by omega), D_refBreak b (by omega)]
  simp only [Option.bind_some, asR_r, asS_s, List.length_map, beq_self_eq_true, Bool.not_true, cond_false, bne_self_eq_false]
  rw [show (!decide ((4 : Nat) = 0)) = true from rfl]
  simp only [need_true]
  rw [wrap_i64 (by omega) (by omega), D_Within off ((b.length : Int) + 2) (by omega) (by omega)]
  have g0 := Int.emod_nonneg off (b := (b.length : Int) + 2) (by omega)
  have g1 := Int.emod_lt_of_pos off (b := (b.length : Int) + 2) (by omega)
  have fin : ∀ o : Int, o ≤ 9223372036854775807 → ((D id_linesAt [AV.row 3 ((splitL b).map Ln.av), AV.int .i64 o]).bind fun r8 =>
        asIIT r8.v fun i3 i4 =>
        (D id_ref01At [AV.row 3 ((splitL b).map Ln.av), AV.int .i64 o]).bind fun r9 =>
        asIIT r9.v fun i5 i6 =>
        law02LinesSplit_L1 D 202
          (fun b5 =>
            some ⟨AV.bool b5, false, []⟩)
          (fun s12 s13 i41 i42 i43 i44 =>
            bif (i41 : Int) == i43 then
              (bif (i42 : Int) == i44 then
                ((D id_keepIntact [AV.lent s13, AV.bytes s12]).bind fun r14 =>
                asB r14.v fun b6 =>
                bif b6 then
                  ((D id_law02Wakes []).bind fun r15 =>
                  asB r15.v fun b7 =>
                  some ⟨AV.bool b7, false, []⟩)
                else
                  some ⟨AV.bool false, false, []⟩)
              else
                some ⟨AV.bool false, false, []⟩)
            else
              some ⟨AV.bool false, false, []⟩)
          202 b b ((splitL b).map Ln.av) ((splitL b).map Ln.av) i3 i4 i5 i6 (((splitL b).length : Nat) : Int) 0) = some ⟨.bool true, false, []⟩ := by
    intro o ho
    rw [D_At _ o hf (by omega) ho, D_refAt _ o (by omega) ho]
    simp only [Option.bind_some, asIIT_av]
    have := split_law_loop b (by omega) (splitL b) hin (by omega) 202 (fun b5 =>
            some (⟨AV.bool b5, false, []⟩ : Res))
          (fun s12 s13 i41 i42 i43 i44 =>
            bif (i41 : Int) == i43 then
              (bif (i42 : Int) == i44 then
                ((D id_keepIntact [AV.lent s13, AV.bytes s12]).bind fun r14 =>
                asB r14.v fun b6 =>
                bif b6 then
                  ((D id_law02Wakes []).bind fun r15 =>
                  asB r15.v fun b7 =>
                  some ⟨AV.bool b7, false, []⟩)
                else
                  some ⟨AV.bool false, false, []⟩)
              else
                some ⟨AV.bool false, false, []⟩)
            else
              some ⟨AV.bool false, false, []⟩) (atL (splitL b) o).1 (atL (splitL b) o).2 (atL (splitL b) o).1 (atL (splitL b) o).2 202 0 (by omega) (by omega)
    refine Eq.trans this ?_
    rw [D_Intact b b (by omega)]
    simp only [beq_self_eq_true, cond_true, Option.bind_some, asB_b, D_wakes02, decide_true]
  cases (Int.tmod off 4 != 3)
  · exact fin off h1
  · exact fin _ (by omega)

theorem blanks_loop (N : Nat) (k0) (s : List UInt8) (cr : Bool) (m : Nat) (hm : m ≤ 1000) : ∀ (n i : Nat) (acc : List UInt8), m < i + n → i ≤ m → acc.length ≤ i → law02LinesBlanks_L1 D N k0 n (m : Nat) s cr acc i = k0 (m : Nat) s cr (acc ++ List.replicate (m - i) 32) := by
  intro n
  induction n with
  | zero => intro i acc h h'; omega
  | succ n ih =>
    intro i acc h h' ha
    simp only [law02LinesBlanks_L1, law02LinesBlanks_L1s]
    by_cases hi : i < m
    · rw [cond_d (by omega), need_d (by simp; omega), wrap_i64 (by omega) (by omega), show (i : Int) + 1 = ((i + 1 : Nat) : Int) by omega, ih (i + 1) _ (by omega) (by omega) (by simp; omega)]
      have e : m - i = (m - (i + 1)) + 1 := by omega
      rw [e, List.replicate_succ]; simp
    · have e : m - i = 0 := by omega
      rw [cond_nd (by omega), e]; simp

/-- Neither a break nor a blank. -/
def dark (c : UInt8) : Bool := c != 10 && c != 13 && c != 32
theorem blanks_inner (N : Nat) (k0) (m : Int) (cr : Bool) (t : List UInt8) (ht : t.length ≤ 1000) : ∀ (n i : Nat) (acc : List UInt8), t.length < i + n → i ≤ t.length → acc.length ≤ 1000 + i →
    law02LinesBlanks_L2 D N k0 n m cr acc t (t.length : Nat) i = k0 m cr (acc ++ (t.drop i).filter dark) := by
  intro n
  induction n with
  | zero => intro i acc h h'; omega
  | succ n ih =>
    intro i acc h h' ha
    simp only [law02LinesBlanks_L2, law02LinesBlanks_L2s]
    by_cases hi : i < t.length
    · have hc := byte_lt (t.getD i 0)
      rw [cond_d (by omega), need_d (by omega), drop_step hi]
      simp only [Int.toNat_natCast]
      rw [get_bn hi, wrap_i64 (by omega) (by omega), show (i : Int) + 1 = ((i + 1 : Nat) : Int) by omega]
      have ho : UInt8.ofNat (t.getD i 0).toNat = t.getD i 0 := by simp
      have no : dark (t.getD i 0) = false → law02LinesBlanks_L2 D N k0 n m cr acc t (t.length : Nat) ((i + 1 : Nat) : Int) = k0 m cr (acc ++ (t.getD i 0 :: t.drop (i + 1)).filter dark) := by
        intro hal
        rw [ih (i + 1) _ (by omega) (by omega) (by omega), List.filter_cons_of_neg (by rw [hal]; simp)]
      have q : ∀ k : UInt8, (t.getD i 0).toNat = k.toNat → t.getD i 0 = k := fun k h => UInt8.toNat_inj.1 h
      by_cases h1 : (t.getD i 0).toNat = 10
      · rw [cond_beq (by omega)]; exact no (by rw [q 10 h1]; rfl)
      by_cases h2 : (t.getD i 0).toNat = 13
      · rw [cond_bne (by omega), cond_beq (by omega)]; exact no (by rw [q 13 h2]; rfl)
      by_cases h3 : (t.getD i 0).toNat = 32
      · rw [cond_bne (by omega), cond_bne (by omega), cond_beq (by omega)]; exact no (by rw [q 32 h3]; rfl)
      have hd : dark (t.getD i 0) = true := by
        unfold dark
        simp only [Bool.and_eq_true, bne_iff_ne, ne_eq]
        exact ⟨⟨fun e => h1 (by rw [e]; rfl), fun e => h2 (by rw [e]; rfl)⟩, fun e => h3 (by rw [e]; rfl)⟩
      rw [cond_bne (by omega), cond_bne (by omega), cond_bne (by omega), need_d2 (by omega) (by omega), need_d (by simp; omega), ho, ih (i + 1) _ (by omega) (by omega) (by simp; omega), List.filter_cons_of_pos hd]
      simp
    · rw [cond_nd (by omega), List.drop_eq_nil_of_le (by omega)]; simp

theorem indexByte_app {c : UInt8} : ∀ {t : List UInt8} {r : List UInt8}, (∀ x ∈ t, x ≠ c) → Lib.indexByte (t ++ c :: r) c = t.length
  | [], r, h => by
    show (if (c == c) = true then (0 : Int) else (if (Lib.indexByte r c == -1) = true then -1 else Lib.indexByte r c + 1)) = _
    rw [if_pos (by simp)]; rfl
  | x :: t, r, h => by
    have ih := indexByte_app (t := t) (r := r) (fun y hy => h y (.tail _ hy))
    show (if (x == c) = true then (0 : Int) else if (Lib.indexByte (t ++ c :: r) c == -1) = true then -1 else Lib.indexByte (t ++ c :: r) c + 1) = _
    rw [ih, if_neg (by simpa using h x (.head _)), if_neg (by simp)]
    simp

/-- A break. -/
def nl (cr : Bool) : List UInt8 := bif cr then [13, 10] else [10]
/-- A text without breaks, and a break, is one line. -/
theorem split_one (t : List UInt8) (cr : Bool) (h : ∀ c ∈ t, c ≠ 10 ∧ c ≠ 13) : splitL (t ++ nl cr) = [⟨bomAt (t ++ nl cr), t.length, t.length + (nl cr).length⟩] ∧ bomAt (t ++ nl cr) ≤ t.length := by
  have hbt : bomAt (t ++ nl cr) ≤ t.length := by
    unfold bomAt
    split
    · rename_i hc
      by_cases h3 : 3 ≤ t.length
      · exact h3
      · exfalso
        have hh := hc.2
        match t, h3, h, hh with
        | [], _, _, hh => cases cr <;> simp [nl] at hh
        | [x], _, _, hh => cases cr <;> simp [nl] at hh
        | [x, y], _, _, hh => cases cr <;> simp [nl] at hh
        | x :: y :: z :: r, h3, _, _ => simp at h3
    · omega
  refine ⟨?_, hbt⟩
  generalize hB : bomAt (t ++ nl cr) = a at hbt
  unfold splitL
  rw [hB]
  have hd : (t ++ nl cr).drop a = t.drop a ++ nl cr := by
    rw [List.drop_append_of_le_length hbt]
  cases cr
  · have hi : Lib.indexByte ((t ++ [10]).drop a) 10 = (t.length - a : Nat) := by
      have e : (t ++ [10]).drop a = t.drop a ++ 10 :: [] := hd
      rw [e, indexByte_app (fun x hx => (h x (List.mem_of_mem_drop hx)).1), List.length_drop]
    show splitFrom (t ++ [10]) ((t ++ [10]).length + 1) a = [⟨a, t.length, t.length + 1⟩]
    simp only [splitFrom]
    rw [if_pos (by simp; omega), hi, if_neg (by omega)]
    simp only [Int.toNat_natCast, show a + (t.length - a) = t.length by omega]
    have h13 : ¬ (0 < t.length - a ∧ (t ++ [10])[t.length - 1]? = some 13) := by
      rintro ⟨h1, h2⟩
      rw [List.getElem?_append_left (by omega)] at h2
      exact (h 13 (List.mem_of_getElem? h2)).2 rfl
    rw [if_neg h13]
    have e2 : splitFrom (t ++ [10]) (t ++ [10]).length (t.length + 1) = [] := by
      have : (t ++ [10]).length = t.length + 1 := by simp
      rw [this]
      simp only [splitFrom]
      rw [if_neg (by simp)]
    rw [e2]
  · have hi : Lib.indexByte ((t ++ [13, 10]).drop a) 10 = (t.length + 1 - a : Nat) := by
      have e : (t ++ [13, 10]).drop a = (t.drop a ++ [13]) ++ 10 :: [] := by rw [List.append_assoc]; exact hd
      rw [e, indexByte_app (fun x hx => ?_)]
      · simp; omega
      · rcases List.mem_append.1 hx with hx | hx
        · exact (h x (List.mem_of_mem_drop hx)).1
        · simp only [List.mem_singleton] at hx; rw [hx]; decide
    show splitFrom (t ++ [13, 10]) ((t ++ [13, 10]).length + 1) a = [⟨a, t.length, t.length + 2⟩]
    simp only [splitFrom]
    rw [if_pos (by simp; omega), hi, if_neg (by omega)]
    simp only [Int.toNat_natCast, show a + (t.length + 1 - a) = t.length + 1 by omega]
    have h13 : (0 < t.length + 1 - a ∧ (t ++ [13, 10])[t.length + 1 - 1]? = some 13) := by
      refine ⟨by omega, ?_⟩
      rw [show t.length + 1 - 1 = t.length by omega, List.getElem?_append_right (Nat.le_refl _)]; simp
    rw [if_pos h13]
    have e2 : splitFrom (t ++ [13, 10]) (t ++ [13, 10]).length (t.length + 1 + 1) = [] := by
      have : (t ++ [13, 10]).length = (t.length + 1) + 1 := by simp
      rw [this]
      simp only [splitFrom]
      rw [if_neg (by simp)]
    rw [e2]
    rfl

theorem lead_rep (m : Nat) (u r : List UInt8) (hu : ∀ c ∈ u, c ≠ 32) : lead (List.replicate m 32 ++ u) = m := by
  induction m with
  | zero =>
    cases u with
    | nil => rfl
    | cons c u =>
      simp only [List.replicate_zero, List.nil_append, lead]
      exact if_neg (fun e => hu c (.head _) (UInt8.toNat_inj.1 e))
  | succ m ih =>
    rw [List.replicate_succ]
    simp only [List.cons_append, lead]
    rw [ih]; rfl

theorem D_LinesBlanks (v : Int) (s : List UInt8) (cr : Bool) : D id_law02LinesBlanks [.int .i64 v, .str s, .bool cr] = some ⟨.bool true, false, []⟩ := by
  refine den_fn (N := 30) (F := law02LinesBlanks) rfl rfl ?_
  rw [law02LinesBlanks_eq]
  show law02LinesBlanksr D 30 v s cr = _
  unfold law02LinesBlanksr
  rw [D_Within v 20 (by omega) (by omega)]
  have g0 := Int.emod_nonneg v (b := 20) (by omega)
  have g1 := Int.emod_lt_of_pos v (b := 20) (by omega)
  obtain ⟨m, hm⟩ : ∃ m : Nat, v % 20 = m := ⟨(v % 20).toNat, by omega⟩
  have hm20 : m < 20 := by omega
  rw [hm]
  clear g0 g1 hm
  simp only [Option.bind_some, asI_i]
  refine (blanks_loop 30 _ s cr m (by omega) 30 0 [] (by omega) (by omega) (by simp)).trans ?_
  rw [show (20 : Int) = ((20 : Nat) : Int) from rfl, D_Text s 20 (by omega)]
  have hs : (s.take 20).length ≤ 20 := by simp; omega
  generalize s.take 20 = s at hs
  simp only [Option.bind_some, asS_s, List.nil_append, Nat.sub_zero]
  refine (blanks_inner 30 _ (m : Nat) cr s (by omega) 30 0 (List.replicate m 32) (by omega) (by omega) (by simp; omega)).trans ?_
  simp only [List.drop_zero]
  have hu : ∀ c ∈ s.filter dark, c ≠ 10 ∧ c ≠ 13 ∧ c ≠ 32 := by
    intro c hc
    have := (List.mem_filter.1 hc).2
    unfold dark at this
    simp only [Bool.and_eq_true, bne_iff_ne, ne_eq] at this
    exact ⟨this.1.1, this.1.2, this.2⟩
  have hul : (s.filter dark).length ≤ 20 := Nat.le_trans (List.length_filter_le _ _) hs
  generalize s.filter dark = u at hu hul
  have ht : ∀ c ∈ List.replicate m (32 : UInt8) ++ u, c ≠ 10 ∧ c ≠ 13 := by
    intro c hc
    rcases List.mem_append.1 hc with hc | hc
    · rw [List.eq_of_mem_replicate hc]; decide
    · exact ⟨(hu c hc).1, (hu c hc).2.1⟩
  obtain ⟨h1, h2⟩ := split_one (List.replicate m 32 ++ u) cr ht
  have hlead := lead_rep m u [] (fun c hc => (hu c hc).2.2)
  have hlen : (List.replicate m (32 : UInt8) ++ u).length = m + u.length := by simp
  -- a mark is ahead only where no blank is
  have hbom : ∀ r : List UInt8, bomAt ((List.replicate m 32 ++ u) ++ r) = 0 ∨ (m = 0 ∧ bomAt ((List.replicate m 32 ++ u) ++ r) = 3) := by
    intro r
    unfold bomAt
    split
    · rename_i hc
      cases m with
      | zero => exact .inr ⟨rfl, rfl⟩
      | succ m => exact absurd hc.2 (by rw [List.replicate_succ]; simp)
    · exact .inl rfl
  have hbm := hbom (nl cr)
  clear hbom
  generalize hT : List.replicate m (32 : UInt8) ++ u = t at h1 h2 hlead hlen hbm
  generalize bomAt (t ++ nl cr) = f at h1 h2 hbm
  have htl : t.length ≤ 40 := by omega
  have hnl : (nl cr).length ≤ 2 := by cases cr <;> decide
  have hbl : (t ++ nl cr).length = t.length + (nl cr).length := List.length_append
  have eS := D_Split (t ++ nl cr) (by omega)
  rw [h1] at eS
  have hlb : lineB (t ++ nl cr) ⟨f, t.length, t.length + (nl cr).length⟩ = t.drop f := by
    unfold lineB; simp
  have eI : D id_linesIndent [.bytes (t ++ nl cr), .agg [.int .i64 f, .int .i64 (t.length : Nat), .int .i64 ((t.length + (nl cr).length : Nat) : Int)]] = _ := D_Indent (t ++ nl cr) ⟨f, t.length, t.length + (nl cr).length⟩ h2 (by show t.length ≤ _; omega) (by omega)
  have eB : D id_linesBlank [.bytes (t ++ nl cr), .agg [.int .i64 f, .int .i64 (t.length : Nat), .int .i64 ((t.length + (nl cr).length : Nat) : Int)]] = _ := D_Blank (t ++ nl cr) ⟨f, t.length, t.length + (nl cr).length⟩ h2 (by show t.length ≤ _; omega) (by omega)
  rw [hlb] at eI eB
  have eK := D_Break (t ++ nl cr) (by omega)
  have hbk : breakL (t ++ nl cr) = nl cr := by
    unfold breakL
    rw [h1]
    show (if t.length < t.length + (nl cr).length then ((t ++ nl cr).take (t.length + (nl cr).length)).drop t.length else [10]) = nl cr
    have : 0 < (nl cr).length := by cases cr <;> decide
    rw [if_pos (by omega), List.take_of_length_le (by omega)]; simp
  rw [hbk] at eK
  have e1 : (((([⟨f, t.length, t.length + (nl cr).length⟩] : List Ln).map Ln.av).length : Nat) : Int) = 1 := rfl
  have e0 : (([⟨f, t.length, t.length + (nl cr).length⟩] : List Ln).map Ln.av)[Int.toNat 0]? = some (.agg [.int .i64 f, .int .i64 (t.length : Nat), .int .i64 ((t.length + (nl cr).length : Nat) : Int)]) := rfl
  have aI : ∀ {α : Type} (x y z : Int) (K : Int → Int → Int → Option α), asIIIA (.agg [.int .i64 x, .int .i64 y, .int .i64 z]) K = K x y z := fun _ _ _ _ => rfl
  have nn : ∀ {β : Type} (r : List β), r.length ≤ 2 → decide (t.length + r.length ≤ 9223372036854775807) = true := fun r h => by rw [decide_eq_true_eq]; omega
  have eL : (((t.length + (nl cr).length : Nat) : Int) == (((t ++ nl cr).length : Nat) : Int)) = true := by rw [hbl]; simp
  have eM : (decide (m = t.length) == ((t.length : Int) == (m : Int))) = true := by
    rw [beq_iff_eq, Bool.eq_iff_iff]; simp only [decide_eq_true_eq, beq_iff_eq]; omega
  have c10 : ((1 : Int) == 0) = false := rfl
  have c11 : ((1 : Int) == 1) = true := rfl
  have c03 : ((0 : Int) == 3) = false := rfl
  have c33 : ((3 : Int) == 3) = true := rfl
  have z0 : ((0 : Nat) : Int) = 0 := rfl
  have z3 : ((3 : Nat) : Int) = 3 := rfl
  have d0 : (decide ((0 : Int) ≤ 0)) = true := rfl
  have dd : (decide (m = t.length - 0)) = decide (m = t.length) := rfl
  rcases hbm with rfl | ⟨rfl, rfl⟩
  · rw [List.drop_zero, hlead] at eI eB
    rw [dd] at eB
    cases hm0 : ((m : Int) == 0) <;> cases cr
    all_goals
      simp only [nl, cond_true, cond_false, z0] at eS eI eB eK e1 e0 eL
      simp only [cond_true, cond_false, nn ([10] : List UInt8) (by decide), nn ([13, 10] : List UInt8) (by decide), nn ([10] : List Nat) (by decide), nn ([13, 10] : List Nat) (by decide), need_true, eS, Option.bind_some, asR_r, e1, c10, c11, d0, e0, aI, z0, c03, eI, asI_i, beq_self_eq_true, eB, asB_b, eM, eK, asS_s, eL, D_wakes02, hm0]
  · have hm0 : (((0 : Nat) : Int) == 0) = true := rfl
    cases cr
    all_goals
      simp only [nl, cond_true, cond_false, z3] at eS eI eB eK e1 e0 eL
      simp only [cond_true, cond_false, nn ([10] : List UInt8) (by decide), nn ([13, 10] : List UInt8) (by decide), nn ([10] : List Nat) (by decide), nn ([13, 10] : List Nat) (by decide), need_true, eS, Option.bind_some, asR_r, e1, c10, c11, d0, e0, aI, z3, c33, eK, asS_s, beq_self_eq_true, eL, D_wakes02, asB_b, hm0]
end Go.Proofs.YtnapopfbmdghkaaDoor.Vf
