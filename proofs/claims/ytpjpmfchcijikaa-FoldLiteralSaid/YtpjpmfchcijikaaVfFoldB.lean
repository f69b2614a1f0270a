
/- The reference's text of rows is the program's. No condition but sizes. -/
import Derived.Test.YtpjpmfchcijikaaVfFold
namespace Go.Proofs.Ytpjpmfchcijikaa.Vf
set_option linter.unusedVariables false
set_option linter.unusedSimpArgs false

theorem breaks_loop (N : Nat) (k0) : ∀ (n i : Nat) (acc : List UInt8), i < n → acc.length + i ≤ 1000000 → ref01Breaks_L1 D N k0 n i acc = k0 (acc ++ List.replicate i 10) := by
  intro n
  induction n with
  | zero => intro i acc h; omega
  | succ n ih =>
    intro i acc h ha
    simp only [ref01Breaks_L1, ref01Breaks_L1s]
    cases i with
    | zero => simp
    | succ i =>
      rw [cond_d (by omega), need_d (by simp; omega), wrap_i64 (by omega) (by omega), show ((i + 1 : Nat) : Int) - 1 = (i : Int) by omega, ih i _ (by omega) (by simp; omega), List.replicate_succ]
      simp
theorem D_breaks (n : Nat) (h : n ≤ 1000000) : D id_ref01Breaks [.int .i64 n] = some ⟨.str (List.replicate n 10), false, []⟩ := by
  refine den_fn (N := n + 1) (F := ref01Breaks) rfl rfl ?_
  rw [ref01Breaks_eq]
  show ref01Breaksr D _ n = _
  unfold ref01Breaksr
  rw [breaks_loop _ _ (n + 1) n [] (by omega) (by simp; omega)]
  rfl
theorem D_more (s : List UInt8) (h : s ≠ []) : D id_ref01More [.str s] = some ⟨.bool (innerL s), false, []⟩ := by
  refine den_fn (N := 0) (F := ref01More) rfl rfl ?_
  rw [ref01More_eq]
  show ref01Morer D 0 s = _
  unfold ref01Morer innerL
  cases s with
  | nil => exact absurd rfl h
  | cons c s =>
    have e : ((c :: s) == ([] : List UInt8)) = false := rfl
    rw [e]
    simp only [Bool.not_false, Bool.true_and, need_d (show (0 : Int) ≤ 0 by omega), show Int.toNat 0 = 0 from rfl, List.getElem?_cons_zero, Option.bind_some, List.getD_cons_zero]
    by_cases h9 : c.toNat = 9
    · rw [cond_eq (by omega), decide_eq_true h9, Bool.or_true]
    · rw [cond_ne (by omega), decide_eq_false h9, Bool.or_false]
      refine retB_congr ?_
      rw [Bool.eq_iff_iff]; simp only [beq_iff_eq, decide_eq_true_eq]; omega

theorem take_succ_getD (l : List (List UInt8)) (i : Nat) (h : i < l.length) : l.take (i + 1) = l.take i ++ [l.getD i []] := by
  rw [List.take_add_one, List.getElem?_eq_getElem h]
  simp [List.getD, h]
theorem drop_take_getD (l : List (List UInt8)) (i n : Nat) (h : i < n) (hn : n ≤ l.length) : (l.take n).drop i = l.getD i [] :: (l.take n).drop (i + 1) := by
  have hl : i < (l.take n).length := by rw [List.length_take]; omega
  rw [List.drop_eq_getElem_cons hl]
  simp [List.getElem_take, List.getD, show i < l.length by omega]
theorem join_snoc (a : List (List UInt8)) (x : List UInt8) : Lib.join (a ++ [x]) [10] = if a = [] then x else Lib.join a [10] ++ [10] ++ x := by
  cases a with
  | nil => simp [Lib.join_one]
  | cons y a =>
    rw [List.cons_append, Lib.join_cons, Lib.join_cons, if_neg (by simp)]
    simp [Lib.joinTail]

theorem lit_loop (l : List (List UInt8)) (n : Nat) (hn : n ≤ l.length) (hl : total l ≤ 100000) (S K : Bool) (d : Int) (p : List UInt8) (q : Int) (N : Nat) (k0) : ∀ (m i : Nat), n < i + m → i ≤ n →
    ref01Value_L2 D N k0 m (l.map AV.str) (n : Nat) (Lib.join (l.take i) [10]) p q i false S K d = k0 (l.map AV.str) (n : Nat) (Lib.join (l.take n) [10]) false S K d := by
  have hll : l.length ≤ 100000 := by unfold total at hl; omega
  intro m
  induction m with
  | zero => intro i h h'; omega
  | succ m ih =>
    intro i h h'
    simp only [ref01Value_L2, ref01Value_L2s]
    by_cases hi : i < n
    · have h1 := total_get l i (by omega)
      have h2 := join_len (l.take i)
      have h3 := total_take l i
      have hg : (l.map AV.str)[i]? = some (.str (l.getD i [])) := by rw [List.getElem?_map, List.getElem?_eq_getElem (by omega)]; simp [List.getD, show i < l.length by omega]
      rw [cond_d (by omega)]
      simp only [Bool.not_false, cond_true, Int.toNat_natCast, hg, Option.bind_some, asS_s]
      rw [wrap_i64 (by omega) (by omega), show (i : Int) + 1 = ((i + 1 : Nat) : Int) by omega]
      have js := join_snoc (l.take i) (l.getD i [])
      rw [← take_succ_getD l i (by omega)] at js
      have := ih (i + 1) (by omega) (by omega)
      rw [js] at this
      by_cases h0 : 0 < i
      · rw [cond_d (by omega), need_d (by simp only [List.length_cons, List.length_nil]; omega), need_d (by omega), need_d (by simp only [List.length_append, List.length_cons, List.length_nil]; omega)]
        rw [if_neg (by intro e; have := congrArg List.length e; rw [List.length_take, List.length_nil] at this; omega)] at this
        exact this
      · have : i = 0 := by omega
        subst this
        rw [cond_nd (by omega), need_d (by omega), need_d (by omega)]
        rw [if_pos (by simp)] at this
        exact this
    · have : i = n := by omega
      subst this
      rw [cond_nd (by omega)]

theorem fold_loop (l : List (List UInt8)) (n : Nat) (hn : n ≤ l.length) (hl : total l ≤ 100000) (S K : Bool) (d : Int) (N : Nat) (k0) : ∀ (m i e : Nat) (last acc : List UInt8), n < i + m → i ≤ n → e ≤ i → acc.length ≤ 4 * total l →
    acc ++ foldGo last e ((l.take n).drop i) = foldGo [] 0 (l.take n) →
    ref01Value_L2 D N k0 m (l.map AV.str) (n : Nat) acc last e i true S K d = k0 (l.map AV.str) (n : Nat) (foldGo [] 0 (l.take n)) true S K d := by
  have hll : l.length ≤ total l := by unfold total; omega
  have htot : ∀ acc r : List UInt8, acc ++ r = foldGo [] 0 (l.take n) → acc.length ≤ 4 * total l := by
    intro acc r h
    have h1 := foldGo_le (l.take n) [] 0
    rw [← h] at h1
    have h2 := total_take l n
    unfold total at h2 ⊢
    simp only [List.length_append] at h1
    omega
  intro m
  induction m with
  | zero => intro i e last acc h h'; omega
  | succ m ih =>
    intro i e last acc h h' he ha hacc
    simp only [ref01Value_L2, ref01Value_L2s]
    by_cases hi : i < n
    · have h1 := total_get l i (by omega)
      have hg : (l.map AV.str)[i]? = some (.str (l.getD i [])) := by rw [List.getElem?_map, List.getElem?_eq_getElem (by omega)]; simp [List.getD, show i < l.length by omega]
      rw [drop_take_getD l i n hi hn] at hacc
      rw [cond_d (by omega)]
      simp only [Bool.not_true, cond_false, Int.toNat_natCast, hg, Option.bind_some, asS_s, need_d (show (0 : Int) ≤ (i : Int) by omega)]
      rw [wrap_i64 (x := (i : Int) + 1) (by omega) (by omega), wrap_i64 (x := (e : Int) + 1) (by omega) (by omega), show (i : Int) + 1 = ((i + 1 : Nat) : Int) by omega, show (e : Int) + 1 = ((e + 1 : Nat) : Int) by omega]
      simp only [foldGo] at hacc
      generalize l.getD i [] = x at hacc h1
      by_cases hx : x = []
      · subst hx
        rw [if_pos rfl] at hacc
        exact ih (i + 1) (e + 1) last acc (by omega) (by omega) (by omega) ha hacc
      · rw [if_neg hx] at hacc
        rw [beq_false_of_ne hx]
        have go : ∀ y : List UInt8, y.length ≤ e + 1 → (if last = [] then List.replicate e 10 else betweenL last x e) = y →
            (need (decide (acc.length + y.length ≤ 9223372036854775807)) (need (decide ((acc ++ y).length + x.length ≤ 9223372036854775807)) (ref01Value_L2 D N k0 m (l.map AV.str) (n : Nat) ((acc ++ y) ++ x) x 0 ((i + 1 : Nat) : Int) true S K d))) = k0 (l.map AV.str) (n : Nat) (foldGo [] 0 (l.take n)) true S K d := by
          intro y hy e1
          rw [e1] at hacc
          have hacc' : (acc ++ y ++ x) ++ foldGo x 0 ((l.take n).drop (i + 1)) = foldGo [] 0 (l.take n) := by rw [← hacc]; simp only [List.append_assoc]
          rw [need_d (by omega), need_d (by simp; omega)]
          exact ih (i + 1) 0 x (acc ++ y ++ x) (by omega) (by omega) (by omega) (htot _ _ hacc') hacc'
        have z0 : ((0 : Nat) : Int) = 0 := rfl
        by_cases hl0 : last = []
        · subst hl0
          rw [D_breaks e (by omega)]
          exact go _ (by simp) (if_pos rfl)
        · rw [if_neg hl0] at go
          rw [beq_false_of_ne hl0, D_more _ hl0, D_more _ hx, D_breaks (e + 1) (by omega), D_breaks e (by omega)]
          simp only [cond_false, Option.bind_some, asB_b, asS_s]
          unfold betweenL at go
          cases h2 : innerL last
          · cases h3 : innerL x
            · rw [h2, h3] at go
              simp only [cond_false, Bool.false_eq_true, or_self, if_false] at go ⊢
              by_cases h0 : e = 0
              · subst h0
                exact go [32] (by simp) (if_pos rfl)
              · rw [cond_ne (by omega)]
                exact go _ (by simp) (if_neg h0)
            · rw [h2, h3] at go
              exact go _ (by simp) (if_pos (.inr rfl))
          · rw [h2] at go
            exact go _ (by simp) (if_pos (.inl rfl))
    · have : i = n := by omega
      subst this
      rw [cond_nd (by omega)]
      rw [List.drop_eq_nil_of_le (by rw [List.length_take]; omega)] at hacc
      simp only [foldGo, List.append_nil] at hacc
      rw [hacc]

theorem D_refValue (F S K : Bool) (d : Int) (l : List (List UInt8)) (hl : total l ≤ 100000) : D id_ref01Value [.agg [.bool F, .bool S, .bool K, .int .i64 d], .row 1 (l.map AV.str)] = some ⟨.str (valueL F S K l), false, []⟩ := by
  have hll : l.length ≤ 100000 := by unfold total at hl; omega
  refine den_fn (N := l.length + 1) (F := ref01Value) rfl rfl ?_
  rw [ref01Value_eq]
  show ref01Valuer D _ F S K d (l.map AV.str) = _
  unfold ref01Valuer
  rw [List.length_map, refVal_loop l (by omega) F S K d _ _ (l.length + 1) l.length (by omega) (Nat.le_refl _)]
  have hn := trimE_le l l.length
  unfold valueL
  generalize trimE l l.length = n at hn
  have ht : total (l.take n) ≤ 100000 := Nat.le_trans (total_take l n) hl
  by_cases h0 : n = 0
  · subst h0
    rw [cond_eq (by omega), List.length_map, D_breaks l.length (by omega)]
    have e1 : foldGo [] 0 (l.take 0) = [] := by simp [foldGo]
    have e2 : Lib.join (l.take 0) [10] = [] := by simp [Lib.join_nil]
    rw [e1, e2]
    cases F <;> cases S <;> cases K <;> simp [asS]
  · rw [cond_ne (by omega)]
    have hf : (foldGo [] 0 (l.take n)).length ≤ 1000000 := by
      have := foldGo_le (l.take n) [] 0
      have h2 : (l.take n).length ≤ 100000 := by rw [List.length_take]; omega
      unfold total at ht
      omega
    have hj : (Lib.join (l.take n) [10]).length ≤ 1000000 := by have := join_len (l.take n); omega
    have w0 : IntKind.i64.wrap (IntKind.i64.wrap (1 + (((l.map AV.str).length : Nat) : Int)) - (n : Int)) = ((l.length - n + 1 : Nat) : Int) := by rw [List.length_map, wrap_i64 (x := 1 + (l.length : Int)) (by omega) (by omega), wrap_i64 (by omega) (by omega)]; omega
    have fin : ∀ X : List UInt8, X.length ≤ 1000000 → (bif S then (some (⟨AV.str X, false, []⟩ : Res)) else bif K then
                ((D id_ref01Breaks [AV.int .i64 (IntKind.i64.wrap ((IntKind.i64.wrap (1 + (((l.map AV.str).length : Nat) : Int))) - (n : Int)))]).bind fun r8 =>
                asS r8.v fun s26 =>
                need (decide (X.length + s26.length ≤ 9223372036854775807)) <|
                some ⟨AV.str (X ++ s26), false, []⟩)
              else
                need (decide (X.length + (([10] : List UInt8) : List UInt8).length ≤ 9223372036854775807)) <|
                some ⟨AV.str (X ++ ([10] : List UInt8)), false, []⟩) = some ⟨.str (X ++ ((if S = false ∧ 0 < n then [10] else []) ++ (if S = false ∧ K = true then List.replicate (l.length - n) 10 else []))), false, []⟩ := by
      intro X hX
      have hp : 0 < n := by omega
      rw [w0, D_breaks (l.length - n + 1) (by omega)]
      simp only [Option.bind_some, asS_s]
      rw [need_d (show X.length + (List.replicate (l.length - n + 1) (10 : UInt8)).length ≤ 9223372036854775807 by simp; omega), need_d (show X.length + ([10] : List UInt8).length ≤ 9223372036854775807 by simp; omega), List.replicate_succ]
      cases S <;> cases K <;> simp [hp]
    cases F
    · have h := lit_loop l n hn hl S K d [] 0 (l.length + 1) (fun l9 i18 s25 b27 b28 b29 i19 =>
            bif b28 then
              (some (⟨AV.str s25, false, []⟩ : Res))
            else
              bif b29 then
                ((D id_ref01Breaks [AV.int .i64 (IntKind.i64.wrap ((IntKind.i64.wrap (1 + ((l9.length : Nat) : Int))) - i18))]).bind fun r8 =>
                asS r8.v fun s26 =>
                need (decide (s25.length + s26.length ≤ 9223372036854775807)) <|
                some ⟨AV.str (s25 ++ s26), false, []⟩)
              else
                need (decide (s25.length + (([10] : List UInt8) : List UInt8).length ≤ 9223372036854775807)) <|
                some ⟨AV.str (s25 ++ ([10] : List UInt8)), false, []⟩) (l.length + 1) 0 (by omega) (by omega)
      have e2 : Lib.join (l.take 0) [10] = [] := by simp [Lib.join_nil]
      rw [e2] at h
      refine Eq.trans h ?_
      exact fin _ hj
    · refine (fold_loop l n hn hl S K d (l.length + 1) _ (l.length + 1) 0 0 [] [] (by omega) (by omega) (by omega) (by simp) (by simp)).trans ?_
      exact fin _ hf

theorem texts_loop (N : Nat) (k0) (ws : List (List UInt8)) (F S K : Bool) : ∀ (n j : Nat) (acc : List (List UInt8)), 10 < j + n → j ≤ 10 → acc.length = j → total acc ≤ 13 * j →
    ∃ l : List (List UInt8), total l ≤ 130 ∧ law07FoldValues_L1 D N k0 n (ws.map AV.str) F S K j (acc.map AV.str) = k0 F S K (l.map AV.str) := by
  intro n
  induction n with
  | zero => intro j acc h h'; omega
  | succ n ih =>
    intro j acc h h' ha ht
    simp only [law07FoldValues_L1, law07FoldValues_L1s]
    by_cases hj : j < ws.length
    · rw [cond_d (by simp; omega)]
      by_cases h5 : j < 10
      · have hg : (ws.map AV.str)[j]? = some (.str (ws.getD j [])) := by rw [List.getElem?_map, List.getElem?_eq_getElem hj]; simp [List.getD, hj]
        rw [cond_d (by omega), need_d (by omega)]
        simp only [Int.toNat_natCast, hg, Option.bind_some, asS_s]
        rw [show (12 : Int) = ((12 : Nat) : Int) from rfl, D_Text _ 12 (by omega)]
        simp only [Option.bind_some, asS_s, List.drop_zero, List.take_length]
        have h12 : ((ws.getD j []).take 12).length ≤ 12 := by rw [List.length_take]; omega
        generalize (ws.getD j []).take 12 = x at h12
        rw [need_d (by simp; omega), wrap_i64 (by omega) (by omega), show (j : Int) + 1 = ((j + 1 : Nat) : Int) by omega]
        have e : acc.map AV.str ++ [AV.str x] = (acc ++ [x]).map AV.str := by simp
        rw [e]
        refine ih (j + 1) (acc ++ [x]) (by omega) (by omega) (by simp; omega) ?_
        unfold total at ht ⊢
        simp only [List.map_append, List.map_cons, List.map_nil, List.sum_append, List.sum_cons, List.sum_nil, List.length_append, List.length_cons, List.length_nil]
        omega
      · rw [cond_nd (by omega)]; exact ⟨acc, by omega, rfl⟩
    · rw [cond_nd (by simp; omega)]; exact ⟨acc, by omega, rfl⟩

theorem D_CopyString (xs : List AV) (h : xs.length ≤ 1000000) : D id_keepCopyString [.row 1 xs] = some ⟨.row 1 xs, true, []⟩ := by
  refine den_fn (N := 0) (F := keepCopyString) rfl rfl ?_
  rw [keepCopyString_eq]
  simp [keepCopyStringr, need, show xs.length ≤ 1099511627776 by omega]

theorem D_FoldValues (ws : List (List UInt8)) (F S K : Bool) : D id_law07FoldValues [.row 1 (ws.map AV.str), .bool F, .bool S, .bool K] = some ⟨.bool true, false, []⟩ := by
  refine den_fn (N := 11) (F := law07FoldValues) rfl rfl ?_
  rw [law07FoldValues_eq]
  show law07FoldValuesr D 11 _ F S K = _
  unfold law07FoldValuesr
  obtain ⟨l, hl, e⟩ := texts_loop 11 (fun b13 b14 b15 l6 =>
      (D id_keepCopyString [AV.row 1 ((l6.drop 0).take l6.length)]).bind fun r2 =>
      asR 1 r2.v fun l7 =>
      (D id_foldValue [AV.agg [AV.bool b13, AV.bool b14, AV.bool b15, AV.int .i64 0], AV.row 1 l7]).bind fun r3 =>
      asS r3.v fun s3 =>
      (D id_ref01Value [AV.agg [AV.bool b13, AV.bool b14, AV.bool b15, AV.int .i64 0], AV.row 1 ((l6.drop 0).take l6.length)]).bind fun r4 =>
      asS r4.v fun s4 =>
      bif s3 == s4 then
        ((D id_law07Wakes []).bind fun r5 =>
        asB r5.v fun b16 =>
        some (⟨AV.bool b16, false, []⟩ : Res))
      else
        some ⟨AV.bool false, false, []⟩) ws F S K 11 0 [] (by omega) (by omega) rfl (by simp [total])
  refine Eq.trans e ?_
  clear e
  have hll : l.length ≤ 130 := by unfold total at hl; omega
  simp only [List.drop_zero, List.take_length]
  rw [D_CopyString _ (by simp; omega)]
  simp only [Option.bind_some, asR_r]
  rw [D_Value F S K 0 l (by omega), D_refValue F S K 0 l (by omega)]
  simp only [Option.bind_some, asS_s, beq_self_eq_true, cond_true, D_wakes07, asB_b]
end Go.Proofs.Ytpjpmfchcijikaa.Vf
