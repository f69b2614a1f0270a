
/- The laws FoldDeeper, FoldWords, FoldChomps and FoldLiteral come to true, whatever the input. No condition but the rows' kind. -/
import Derived.Test.YtpjpmfchcijikaaVfFoldB
namespace Go.Proofs.Ytpjpmfchcijikaa.Vf
set_option linter.unusedVariables false
set_option linter.unusedSimpArgs false

def rowsW (g : Nat) : Nat → List (List UInt8)
  | 0 => []
  | k + 1 => rowsW g k ++ (if 0 < k then List.replicate g [] else []) ++ [[UInt8.ofNat (97 + k)]]
def wantW (g : Nat) : Nat → List UInt8
  | 0 => []
  | k + 1 => wantW g k ++ (if 0 < k then List.replicate g 10 ++ (if g = 0 then [32] else []) else []) ++ [UInt8.ofNat (97 + k)]

set_option maxRecDepth 10000 in
theorem words_val : ∀ n : Fin 5, ∀ g : Fin 4, valueL true true false (rowsW g.val (n.val + 2)) = wantW g.val (n.val + 2) ∧ total (rowsW g.val (n.val + 2)) ≤ 100000 := by decide

set_option maxRecDepth 10000 in
theorem words_run (k0 : List UInt8 → List AV → Option Res) : ∀ n g : Nat, n < 5 → g < 4 → law07FoldWords_L1 D 10 k0 10 ((n + 2 : Nat) : Int) (g : Nat) [] 0 [] = k0 (wantW g (n + 2)) ((rowsW g (n + 2)).map AV.str) := by
  intro n g hn hg
  rcases (show n = 0 ∨ n = 1 ∨ n = 2 ∨ n = 3 ∨ n = 4 by omega) with rfl | rfl | rfl | rfl | rfl <;>
  rcases (show g = 0 ∨ g = 1 ∨ g = 2 ∨ g = 3 by omega) with rfl | rfl | rfl | rfl <;> kernel_rfl

theorem D_FoldWords (v u : Int) : D id_law07FoldWords [.int .i64 v, .int .i64 u] = some ⟨.bool true, false, []⟩ := by
  refine den_fn (N := 10) (F := law07FoldWords) rfl rfl ?_
  rw [law07FoldWords_eq]
  show law07FoldWordsr D 10 v u = _
  unfold law07FoldWordsr
  rw [D_Within v 5 (by omega) (by omega), D_Within u 4 (by omega) (by omega)]
  have g0 := Int.emod_nonneg v (b := 5) (by omega)
  have g1 := Int.emod_lt_of_pos v (b := 5) (by omega)
  have g2 := Int.emod_nonneg u (b := 4) (by omega)
  have g3 := Int.emod_lt_of_pos u (b := 4) (by omega)
  obtain ⟨n, hn⟩ : ∃ n : Nat, v % 5 = n := ⟨(v % 5).toNat, by omega⟩
  obtain ⟨g, hg⟩ : ∃ g : Nat, u % 4 = g := ⟨(u % 4).toNat, by omega⟩
  rw [hn, hg]
  simp only [Option.bind_some, asI_i]
  rw [wrap_i64 (by omega) (by omega), show 2 + (n : Int) = ((n + 2 : Nat) : Int) by omega]
  refine (words_run _ n g (by omega) (by omega)).trans ?_
  obtain ⟨h1, h2⟩ := words_val ⟨n, by omega⟩ ⟨g, by omega⟩
  simp only [List.drop_zero, List.take_length]
  rw [D_Value true true false 0 _ h2, h1]
  simp only [Option.bind_some, asS_s, beq_self_eq_true, cond_true, D_wakes07, asB_b]

set_option maxRecDepth 10000 in
theorem deeper_run (k0) : ∀ n : Nat, n < 4 → law07FoldDeeper_L1 D 10 k0 10 (n : Nat) [97] 0 [AV.str [97]] true true false 0 = k0 ([97] ++ List.replicate n 10) (([97] :: List.replicate n []).map AV.str) true true false 0 := by
  intro n hn
  rcases (show n = 0 ∨ n = 1 ∨ n = 2 ∨ n = 3 by omega) with rfl | rfl | rfl | rfl <;> kernel_rfl
set_option maxRecDepth 10000 in
theorem deeper_val : ∀ n : Fin 4, valueL true true false (([97] :: List.replicate n.val []) ++ [[32, 98], [99]]) = ([97] ++ List.replicate n.val 10) ++ [10, 32, 98, 10, 99] ∧ total (([97] :: List.replicate n.val []) ++ [[32, 98], [99]]) ≤ 100000 := by decide

theorem D_FoldDeeper (v : Int) : D id_law07FoldDeeper [.int .i64 v] = some ⟨.bool true, false, []⟩ := by
  refine den_fn (N := 10) (F := law07FoldDeeper) rfl rfl ?_
  rw [law07FoldDeeper_eq]
  show law07FoldDeeperr D 10 v = _
  unfold law07FoldDeeperr
  rw [D_Within v 4 (by omega) (by omega)]
  have g0 := Int.emod_nonneg v (b := 4) (by omega)
  have g1 := Int.emod_lt_of_pos v (b := 4) (by omega)
  obtain ⟨n, hn⟩ : ∃ n : Nat, v % 4 = n := ⟨(v % 4).toNat, by omega⟩
  rw [hn]
  simp only [Option.bind_some, asI_i]
  rw [need_d (by decide)]
  refine (deeper_run _ n (by omega)).trans ?_
  obtain ⟨h1, h2⟩ := deeper_val ⟨n, by omega⟩
  simp only [List.drop_zero, List.take_length]
  have e : ((([97] : List UInt8) :: List.replicate n []).map AV.str ++ [AV.str ([32, 98] : List UInt8), AV.str ([99] : List UInt8)]) = (((([97] : List UInt8) :: List.replicate n []) ++ [[32, 98], [99]]).map AV.str) := by simp
  have hn4 : n < 4 := by omega
  rw [e, need_d (by simp; omega), need_d (by simp; omega), D_Value true true false 0 _ h2, h1]
  have v1 : D id_foldValue [AV.agg [AV.bool true, AV.bool false, AV.bool false, AV.int .i64 0], AV.row 1 [AV.str ([] : List UInt8), AV.str ([97] : List UInt8), AV.str ([9, 98] : List UInt8)]] = some ⟨.str [10, 97, 10, 9, 98, 10], false, []⟩ := D_Value true false false 0 [[], [97], [9, 98]] (by decide)
  have v2 : D id_foldValue [AV.agg [AV.bool true, AV.bool true, AV.bool false, AV.int .i64 0], AV.row 1 []] = some ⟨.str [], false, []⟩ := D_Value true true false 0 [] (by decide)
  have v3 : D id_foldValue [AV.agg [AV.bool false, AV.bool false, AV.bool true, AV.int .i64 0], AV.row 1 [AV.str ([] : List UInt8), AV.str ([] : List UInt8)]] = some ⟨.str [10, 10], false, []⟩ := D_Value false false true 0 [[], []] (by decide)
  have v4 : D id_foldValue [AV.agg [AV.bool false, AV.bool false, AV.bool false, AV.int .i64 0], AV.row 1 [AV.str ([] : List UInt8), AV.str ([] : List UInt8)]] = some ⟨.str [], false, []⟩ := D_Value false false false 0 [[], []] (by decide)
  simp only [Option.bind_some, asS_s, beq_self_eq_true, cond_true, v1, v2, v3, v4, D_wakes07, asB_b]

-- rows with empty ones behind them
theorem getD_app_left {l r : List (List UInt8)} {i : Nat} (h : i < l.length) : (l ++ r).getD i [] = l.getD i [] := by simp [List.getD, List.getElem?_append_left h]
theorem trimE_app (a : List (List UInt8)) (x : List UInt8) (hx : x ≠ []) : ∀ (m n : Nat), n ≤ m → trimE (a ++ [x] ++ List.replicate m []) (a.length + 1 + n) = a.length + 1 := by
  intro m n
  induction n with
  | zero =>
    intro _
    simp only [Nat.add_zero, trimE]
    rw [getD_app_left (by simp)]
    have : (a ++ [x]).getD a.length [] = x := by simp [List.getD]
    rw [this, if_neg hx]
  | succ n ih =>
    intro h
    rw [show a.length + 1 + (n + 1) = (a.length + 1 + n) + 1 by omega]
    simp only [trimE]
    have : (a ++ [x] ++ List.replicate m []).getD (a.length + 1 + n) [] = [] := by
      have hl : (a ++ [x]).length = a.length + 1 := by simp
      simp only [List.getD]
      rw [List.getElem?_append_right (by omega), hl, show a.length + 1 + n - (a.length + 1) = n by omega, List.getElem?_replicate, if_pos (by omega)]
      rfl
    rw [if_pos this]
    exact ih (by omega)
theorem valueL_app (F S K : Bool) (a : List (List UInt8)) (x : List UInt8) (hx : x ≠ []) (n : Nat) : valueL F S K (a ++ [x] ++ List.replicate n []) =
    (if F = true then foldGo [] 0 (a ++ [x]) else Lib.join (a ++ [x]) [10]) ++ ((if S = false then [10] else []) ++ (if S = false ∧ K = true then List.replicate n 10 else [])) := by
  have hl : (a ++ [x] ++ List.replicate n []).length = a.length + 1 + n := by simp; omega
  have ht := trimE_app a x hx n n (Nat.le_refl _)
  rw [← hl] at ht
  unfold valueL
  have e1 : (a ++ [x] ++ List.replicate n []).take (a.length + 1) = a ++ [x] := by
    rw [List.take_append_of_le_length (by simp), List.take_of_length_le (by simp)]
  have e2 : (a ++ [x] ++ List.replicate n []).length - (a.length + 1) = n := by omega
  rw [ht, e1, e2]
  cases S <;> simp

theorem foldGo_last (x : List UInt8) (hx : x ≠ []) : ∀ (a : List (List UInt8)) (last : List UInt8) (e : Nat), ∃ p, foldGo last e (a ++ [x]) = p ++ x
  | [], last, e => by
    simp only [List.nil_append, foldGo, if_neg hx, List.append_nil]
    exact ⟨_, rfl⟩
  | y :: a, last, e => by
    simp only [List.cons_append, foldGo]
    split
    · exact foldGo_last x hx a last (e + 1)
    · obtain ⟨p, hp⟩ := foldGo_last x hx a y 0
      rw [hp]
      exact ⟨_, (List.append_assoc _ _ _).symm⟩
theorem join_last (x : List UInt8) (a : List (List UInt8)) : ∃ p, Lib.join (a ++ [x]) [10] = p ++ x := by
  rw [join_snoc]
  split
  · exact ⟨[], rfl⟩
  · exact ⟨_, rfl⟩

theorem chomps_texts (N : Nat) (k0) (ws : List (List UInt8)) (F : Bool) (z : Int) : ∀ (n j : Nat) (acc : List (List UInt8)), 8 < j + n → j ≤ 8 → acc.length = j → total acc ≤ 11 * j →
    ∃ l : List (List UInt8), total l ≤ 88 ∧ law07FoldChomps_L1 D N k0 n (ws.map AV.str) F z j (acc.map AV.str) = k0 F z (l.map AV.str) := by
  intro n
  induction n with
  | zero => intro j acc h h'; omega
  | succ n ih =>
    intro j acc h h' ha ht
    simp only [law07FoldChomps_L1, law07FoldChomps_L1s]
    by_cases hj : j < ws.length
    · rw [cond_d (by simp; omega)]
      by_cases h5 : j < 8
      · have hg : (ws.map AV.str)[j]? = some (.str (ws.getD j [])) := by rw [List.getElem?_map, List.getElem?_eq_getElem hj]; simp [List.getD, hj]
        rw [cond_d (by omega), need_d (by omega)]
        simp only [Int.toNat_natCast, hg, Option.bind_some, asS_s]
        rw [show (10 : Int) = ((10 : Nat) : Int) from rfl, D_Text _ 10 (by omega)]
        simp only [Option.bind_some, asS_s, List.drop_zero, List.take_length]
        have h12 : ((ws.getD j []).take 10).length ≤ 10 := by rw [List.length_take]; omega
        generalize (ws.getD j []).take 10 = x at h12
        rw [need_d (by simp; omega), wrap_i64 (by omega) (by omega), show (j : Int) + 1 = ((j + 1 : Nat) : Int) by omega]
        have e : acc.map AV.str ++ [AV.str x] = (acc ++ [x]).map AV.str := by simp
        rw [e]
        refine ih (j + 1) (acc ++ [x]) (by omega) (by omega) (by simp; omega) ?_
        unfold total at ht ⊢
        simp only [List.map_append, List.map_cons, List.map_nil, List.sum_append, List.sum_cons, List.sum_nil, List.length_append, List.length_cons, List.length_nil]
        omega
      · rw [cond_nd (by omega)]; exact ⟨acc, by omega, rfl⟩
    · rw [cond_nd (by simp; omega)]; exact ⟨acc, by omega, rfl⟩
theorem chomps_empties (N : Nat) (k0) (F : Bool) (m : Nat) (hm : m ≤ 100) : ∀ (n i : Nat) (acc : List (List UInt8)), m < i + n → i ≤ m → acc.length ≤ 1000 + i →
    law07FoldChomps_L2 D N k0 n F (m : Nat) i (acc.map AV.str) = k0 F (m : Nat) ((acc ++ List.replicate (m - i) []).map AV.str) := by
  intro n
  induction n with
  | zero => intro i acc h h'; omega
  | succ n ih =>
    intro i acc h h' ha
    simp only [law07FoldChomps_L2, law07FoldChomps_L2s]
    by_cases hi : i < m
    · rw [cond_d (by omega), List.drop_zero, List.take_length, need_d (by simp; omega), wrap_i64 (by omega) (by omega), show (i : Int) + 1 = ((i + 1 : Nat) : Int) by omega]
      have e : acc.map AV.str ++ [AV.str ([] : List UInt8)] = (acc ++ [[]]).map AV.str := by simp
      rw [e, ih (i + 1) (acc ++ [[]]) (by omega) (by omega) (by simp; omega), show m - i = (m - (i + 1)) + 1 by omega, List.replicate_succ]
      simp
    · rw [cond_nd (by omega), show m - i = 0 by omega]; simp

theorem D_FoldChomps (ws : List (List UInt8)) (F : Bool) (v : Int) : D id_law07FoldChomps [.row 1 (ws.map AV.str), .bool F, .int .i64 v] = some ⟨.bool true, false, []⟩ := by
  refine den_fn (N := 10) (F := law07FoldChomps) rfl rfl ?_
  rw [law07FoldChomps_eq]
  show law07FoldChompsr D 10 _ F v = _
  unfold law07FoldChompsr
  have ct := fun k0 => chomps_texts 10 k0 ws F v 10 0 [] (by omega) (by omega) rfl (by simp [total])
  obtain ⟨l, hl, e⟩ := ct _
  refine Eq.trans e ?_
  clear e ct
  have hll : l.length ≤ 88 := by unfold total at hl; omega
  rw [D_Within v 4 (by omega) (by omega)]
  have g0 := Int.emod_nonneg v (b := 4) (by omega)
  have g1 := Int.emod_lt_of_pos v (b := 4) (by omega)
  obtain ⟨m, hm⟩ : ∃ m : Nat, v % 4 = m := ⟨(v % 4).toNat, by omega⟩
  rw [hm]
  simp only [Option.bind_some, asI_i, List.drop_zero, List.take_length]
  rw [need_d (by simp; omega)]
  have e1 : l.map AV.str ++ [AV.str ([120] : List UInt8)] = (l ++ [[120]]).map AV.str := by simp
  rw [e1]
  refine (chomps_empties 10 _ F m (by omega) 10 0 (l ++ [[120]]) (by omega) (by omega) (by simp; omega)).trans ?_
  simp only [List.drop_zero, List.take_length, Nat.sub_zero]
  have ht : total (l ++ [[120]] ++ List.replicate m []) ≤ 100000 := by
    have hs : ∀ k, ((List.replicate k ([] : List UInt8)).map List.length).sum = 0 := by
      intro k
      induction k with
      | zero => rfl
      | succ k ih => rw [List.replicate_succ, List.map_cons, List.sum_cons, ih]; rfl
    unfold total at hl ⊢
    simp only [List.map_append, List.sum_append, List.map_cons, List.map_nil, List.sum_cons, List.sum_nil, List.length_append, List.length_cons, List.length_nil, List.length_replicate, hs]
    omega
  rw [D_Value F true false 0 _ ht, D_Value F false false 0 _ ht, D_Value F false true 0 _ ht, valueL_app F true false l [120] (by simp) m, valueL_app F false false l [120] (by simp) m, valueL_app F false true l [120] (by simp) m]
  have hX : ∃ p, (if F = true then foldGo [] 0 (l ++ [[120]]) else Lib.join (l ++ [[120]]) [10]) = p ++ [120] := by
    cases F
    · exact join_last [120] l
    · exact foldGo_last [120] (by simp) l [] 0
  have hXl : (if F = true then foldGo [] 0 (l ++ [[120]]) else Lib.join (l ++ [[120]]) [10]).length ≤ 1000 := by
    have t2 : total (l ++ [[120]]) ≤ 90 := by
      unfold total at hl ⊢
      simp only [List.map_append, List.sum_append, List.map_cons, List.map_nil, List.sum_cons, List.sum_nil, List.length_append, List.length_cons, List.length_nil]
      omega
    split
    · have := foldGo_le (l ++ [[120]]) [] 0
      unfold total at t2
      omega
    · have := join_len (l ++ [[120]]); omega
  generalize (if F = true then foldGo [] 0 (l ++ [[120]]) else Lib.join (l ++ [[120]]) [10]) = X at hX hXl
  obtain ⟨p, rfl⟩ := hX
  simp only [Option.bind_some, asS_s, Bool.true_eq_false, false_and, if_false, List.append_nil, if_true, and_false, and_self, Bool.false_eq_true, Int.toNat_natCast]
  have hpl : p.length ≤ 999 := by simp at hXl; omega
  have e3 : ([10, 10, 10] : List UInt8).take m = List.replicate m 10 := by
    rcases (show m = 0 ∨ m = 1 ∨ m = 2 ∨ m = 3 by omega) with rfl | rfl | rfl | rfl <;> rfl
  rw [need_d (by simp; omega)]
  simp only [e3, beq_self_eq_true, cond_true]
  rw [need_d2 (by omega) (by simp; omega), need_d (by simp; omega)]
  have e4 : (p ++ [120] ++ ([10] ++ List.replicate m 10) == p ++ [120] ++ [10] ++ List.replicate m 10) = true := by simp
  rw [e4]
  have hlen : (p ++ [120]).length = p.length + 1 := by simp
  rw [cond_true, cond_d (by omega), wrap_i64 (by omega) (by omega), need_d (by omega)]
  have e5 : Int.toNat (((p ++ [120]).length : Nat) - 1 : Int) = p.length := by omega
  have e6 : (p ++ [120])[p.length]? = some (120 : UInt8) := by rw [List.getElem?_append_right (Nat.le_refl _)]; simp
  rw [e5, e6]
  simp only [Option.bind_some]
  rw [cond_eq (by rfl), D_wakes07]; rfl
end Go.Proofs.Ytpjpmfchcijikaa.Vf
