
/- What rows come to by a header, the program's way and the reference's, as plain functions on lists. No condition but sizes. -/
import Derived.Test.YtpjpmfchcijikaaDoorVfChars
namespace Go.Proofs.YtpjpmfchcijikaaDoor.Vf
set_option linter.unusedVariables false
set_option linter.unusedSimpArgs false

theorem get_row {α : Type} {l : List (List UInt8)} {i : Nat} {f : AV → Option α} (h : i < l.length) : ((l.map AV.str)[i]?).bind f = f (.str (l.getD i [])) := by
  rw [List.getElem?_map, List.getElem?_eq_getElem h]; simp [List.getD, h]

def total (l : List (List UInt8)) : Nat := (l.map List.length).sum + l.length
theorem total_take (l : List (List UInt8)) : ∀ n, total (l.take n) ≤ total l := by
  induction l with
  | nil => intro n; simp [total]
  | cons a l ih =>
    intro n
    cases n with
    | zero => simp [total]
    | succ n =>
      have := ih n
      simp only [total, List.take_succ_cons, List.map_cons, List.sum_cons, List.length_cons] at this ⊢
      omega
theorem total_get (l : List (List UInt8)) : ∀ i, i < l.length → (l.getD i []).length ≤ total l := by
  induction l with
  | nil => intro i h; simp at h
  | cons a l ih =>
    intro i h
    simp only [total, List.map_cons, List.sum_cons, List.length_cons]
    cases i with
    | zero => simp only [List.getD_cons_zero]; omega
    | succ i =>
      have := ih i (by simpa using h)
      simp only [List.getD_cons_succ]
      unfold total at this
      omega

/-- How many rows there are without the last empty ones. -/
def trimE (l : List (List UInt8)) : Nat → Nat
  | 0 => 0
  | n + 1 => if l.getD n [] = [] then trimE l n else n + 1
theorem trimE_le (l : List (List UInt8)) : ∀ n, trimE l n ≤ n
  | 0 => Nat.le_refl _
  | n + 1 => by simp only [trimE]; split; have := trimE_le l n; omega; omega

theorem val_loop (l : List (List UInt8)) (hl : l.length ≤ 1000000) (F S K : Bool) (d : Int) (N : Nat) (k0) : ∀ (n i : Nat), i < n → i ≤ l.length →
    foldValue_L1 D N k0 n (l.map AV.str) i F S K d = k0 (l.map AV.str) (trimE l i : Nat) F S K d := by
  intro n
  induction n with
  | zero => intro i h; omega
  | succ n ih =>
    intro i h hi
    simp only [foldValue_L1, foldValue_L1s]
    cases i with
    | zero => rfl
    | succ i =>
      rw [cond_d (by omega), wrap_i64 (by omega) (by omega), show ((i + 1 : Nat) : Int) - 1 = (i : Int) by omega, need_d (by omega)]
      simp only [Int.toNat_natCast, trimE]
      rw [get_row (by omega)]
      simp only [asS_s]
      by_cases h0 : l.getD i [] = []
      · rw [h0, if_pos rfl]; exact ih i (by omega) (by omega)
      · rw [if_neg h0, beq_false_of_ne h0]; rfl
/-- The text of rows. -/
def valueL (F S K : Bool) (l : List (List UInt8)) : List UInt8 :=
  (if F = true then foldGo [] 0 (l.take (trimE l l.length)) else Lib.join (l.take (trimE l l.length)) [10]) ++
    ((if S = false ∧ 0 < trimE l l.length then [10] else []) ++ (if S = false ∧ K = true then List.replicate (l.length - trimE l l.length) 10 else []))

theorem D_Repeat (n : Nat) (h : n ≤ 1000000) : D id_stringsRepeat [.str [10], .int .i64 n] = some ⟨.str (List.replicate n 10), false, []⟩ := by
  refine den_ext ?_
  have e : Lib.repeatL [10] n = List.replicate n 10 := by
    clear h
    induction n with
    | zero => rfl
    | succ n ih => rw [List.replicate_succ, ← ih]; rfl
  have e2 : (decide ((0 : Int) ≤ n) && decide ((n : Int) ≤ 1000000) && decide (([10] : List UInt8).length ≤ 1000000)) = true := by simp; omega
  show (bif decide ((0 : Int) ≤ n) && decide ((n : Int) ≤ 1000000) && decide (([10] : List UInt8).length ≤ 1000000) then some (⟨.str (Lib.repeatL [10] (n : Int).toNat), false, []⟩ : Res) else none) = _
  rw [e2, Int.toNat_natCast, e]; rfl
theorem join_len (l : List (List UInt8)) : (Lib.join l [10]).length ≤ total l := by
  cases l with
  | nil => simp [Lib.join_nil, total]
  | cons x r =>
    rw [Lib.join_cons]
    have h : ∀ r : List (List UInt8), (Lib.joinTail [10] r).length = (r.map List.length).sum + r.length := by
      intro r
      induction r with
      | nil => rfl
      | cons a r ih =>
        have e : Lib.joinTail [10] (a :: r) = [10] ++ a ++ Lib.joinTail [10] r := by simp [Lib.joinTail]
        rw [e]; simp only [List.length_append, List.length_cons, List.length_nil, ih, List.map_cons, List.sum_cons]; omega
    simp only [List.length_append, h, total, List.map_cons, List.sum_cons, List.length_cons]; omega
theorem D_Join (l : List (List UInt8)) (h : total l ≤ 100000) : D id_stringsJoin [.row 1 (l.map AV.str), .str [10]] = some ⟨.str (Lib.join l [10]), false, []⟩ := by
  refine den_ext ?_
  show ((strsOf (l.map AV.str)).bind fun l => bif decide (l.length ≤ 1000000) && decide ((Lib.join l [10]).length ≤ 1000000000) then some (⟨.str (Lib.join l [10]), false, []⟩ : Res) else none) = _
  rw [strsOf_map]
  have := join_len l
  have hl : l.length ≤ total l := by unfold total; omega
  have e : (decide (l.length ≤ 1000000) && decide ((Lib.join l [10]).length ≤ 1000000000)) = true := by simp only [Bool.and_eq_true, decide_eq_true_eq]; omega
  simp only [Option.bind_some, e, cond_true]
theorem D_folded (l : List (List UInt8)) (h : total l ≤ 100000) : D id_foldFolded [.row 1 (l.map AV.str)] = some ⟨.str (foldGo [] 0 l), false, []⟩ := by
  refine den_ext ?_
  show ((strsOf (l.map AV.str)).bind fun l => bif decide ((l.map List.length).sum + l.length ≤ 1000000) then some (⟨.str (foldGo [] 0 l), false, []⟩ : Res) else none) = _
  rw [strsOf_map]
  simp only [Option.bind_some]
  unfold total at h
  rw [cond_d (by omega)]
theorem foldGo_le : ∀ (r : List (List UInt8)) (last : List UInt8) (e : Nat), (foldGo last e r).length ≤ e + 2 * r.length + (r.map List.length).sum
  | [], last, e => by simp [foldGo]
  | s :: r, last, e => by
    simp only [foldGo]
    split
    · have := foldGo_le r last (e + 1)
      rename_i h; subst h
      simp only [List.length_cons, List.map_cons, List.length_nil, List.sum_cons]; omega
    · have := foldGo_le r s 0
      simp only [List.length_append, List.length_cons, List.map_cons, List.sum_cons]
      split
      · simp only [List.length_replicate]; omega
      · have : (betweenL last s e).length ≤ e + 1 := by
          unfold betweenL; split
          · simp
          · split
            · simp
            · simp
        omega

theorem D_Value (F S K : Bool) (d : Int) (l : List (List UInt8)) (hl : total l ≤ 100000) : D id_foldValue [.agg [.bool F, .bool S, .bool K, .int .i64 d], .row 1 (l.map AV.str)] = some ⟨.str (valueL F S K l), false, []⟩ := by
  have hll : l.length ≤ 100000 := by unfold total at hl; omega
  refine den_fn (N := l.length + 1) (F := foldValue) rfl rfl ?_
  rw [foldValue_eq]
  show foldValuer D _ F S K d (l.map AV.str) = _
  unfold foldValuer
  rw [List.length_map, val_loop l (by omega) F S K d _ _ (l.length + 1) l.length (by omega) (Nat.le_refl _)]
  have hn := trimE_le l l.length
  unfold valueL
  generalize trimE l l.length = n at hn
  have ht : total (l.take n) ≤ 100000 := Nat.le_trans (total_take l n) hl
  have e0 : ((l.map AV.str).take (Int.toNat (n : Int))).drop 0 = (l.take n).map AV.str := by rw [Int.toNat_natCast, List.drop_zero, List.map_take]
  have w0 : IntKind.i64.wrap (((l.map AV.str).length : Nat) - (n : Int)) = ((l.length - n : Nat) : Int) := by rw [List.length_map, wrap_i64 (by omega) (by omega)]; omega
  have hf : (foldGo [] 0 (l.take n)).length ≤ 1000000 := by
    have := foldGo_le (l.take n) [] 0
    have h2 : (l.take n).length ≤ 100000 := by rw [List.length_take]; omega
    unfold total at ht
    omega
  have hj : (Lib.join (l.take n) [10]).length ≤ 1000000 := by have := join_len (l.take n); omega
  have nd : (decide ((0 : Int) ≤ (n : Int)) && decide ((n : Int) ≤ (((l.map AV.str).length : Nat) : Int))) = true := by simp; omega
  have fa := D_folded (l.take n) ht
  have jo := D_Join (l.take n) ht
  have re := D_Repeat (l.length - n) (by omega)
  rw [← e0] at fa jo
  rw [w0]
  generalize hX : foldGo [] 0 (l.take n) = X at hf fa
  generalize hY : Lib.join (l.take n) [10] = Y at hj jo
  have need_len : ∀ (a b : List UInt8) (x : Option Res), a.length ≤ 3000000 → b.length ≤ 3000000 → need (decide (a.length + b.length ≤ 9223372036854775807)) x = x := fun a b x h1 h2 => need_d (by omega)
  have r1 : (List.replicate (l.length - n) (10 : UInt8)).length ≤ 1000000 := by simp; omega
  generalize List.replicate (l.length - n) (10 : UInt8) = Z at re r1
  have r2 : (([10] : List UInt8) ++ Z).length ≤ 2000000 := by simp; omega
  have r3 : (([] : List UInt8) ++ Z).length ≤ 2000000 := by simp; omega
  have r4 : ([10] : List UInt8).length ≤ 2000000 := by simp
  have r5 : ([] : List UInt8).length ≤ 2000000 := by simp
  by_cases hn0 : 0 < n
  · have hc : decide ((n : Int) > 0) = true := by simp; omega
    rw [hc]
    cases F <;> cases S <;> cases K <;> simp (disch := omega) only [Bool.not_true, Bool.not_false, cond_true, cond_false, re, fa, jo, nd, need_true, Option.bind_some, asS_s, need_len, hn0, if_true, if_false, and_self, and_true, true_and, and_false, false_and, Bool.false_eq_true, reduceCtorEq, List.append_nil, List.nil_append]
  · have hc : decide ((n : Int) > 0) = false := by simp; omega
    rw [hc]
    cases F <;> cases S <;> cases K <;> simp (disch := omega) only [Bool.not_true, Bool.not_false, cond_true, cond_false, re, fa, jo, nd, need_true, Option.bind_some, asS_s, need_len, hn0, if_true, if_false, and_self, and_true, true_and, and_false, false_and, Bool.false_eq_true, reduceCtorEq, List.append_nil, List.nil_append]

theorem D_wakes07 : D id_law07Wakes [] = some ⟨.bool true, false, []⟩ := by
  refine den_fn (N := 0) (F := law07Wakes) rfl rfl ?_
  rw [law07Wakes_eq]
  show law07Wakesr D 0 = _
  unfold law07Wakesr
  have e : D id_foldValue [AV.agg [AV.bool true, AV.bool false, AV.bool false, AV.int .i64 0], AV.row 1 [AV.str ([97] : List UInt8), AV.str ([98] : List UInt8)]] = _ := D_Value true false false 0 [[97], [98]] (by decide)
  rw [e]
  rfl
end Go.Proofs.YtpjpmfchcijikaaDoor.Vf
