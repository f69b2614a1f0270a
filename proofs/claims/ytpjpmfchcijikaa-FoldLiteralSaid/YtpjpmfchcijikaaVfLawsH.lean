
/- The law FoldLiteral comes to true, whatever the input. No condition but the rows' kind. -/
import Derived.Test.YtpjpmfchcijikaaVfLawsF
namespace Go.Proofs.Ytpjpmfchcijikaa.Vf
set_option linter.unusedVariables false
set_option linter.unusedSimpArgs false

/-- Rows, each with its break. -/
def flatR (l : List (List UInt8)) : List UInt8 := (l.map (· ++ [10])).flatten
theorem flatR_snoc (l : List (List UInt8)) (x : List UInt8) : flatR (l ++ [x]) = flatR l ++ (x ++ [10]) := by simp [flatR]
theorem flatR_len (l : List (List UInt8)) : (flatR l).length = total l := by
  unfold flatR total
  induction l with
  | nil => rfl
  | cons a l ih =>
    simp only [List.map_cons, List.flatten_cons, List.length_append, ih, List.sum_cons, List.length_cons, List.length_nil]; omega
theorem join_flat (l : List (List UInt8)) (x : List UInt8) : Lib.join (l ++ [x]) [10] = flatR l ++ x := by
  cases l with
  | nil => simp [Lib.join_one, flatR]
  | cons y l =>
    rw [List.cons_append, Lib.join_cons]
    have h : ∀ (l : List (List UInt8)) (y : List UInt8), y ++ Lib.joinTail [10] (l ++ [x]) = flatR (y :: l) ++ x := by
      intro l
      induction l with
      | nil => intro y; simp [Lib.joinTail, flatR]
      | cons z l ih =>
        intro y
        have := ih z
        have e : Lib.joinTail [10] (z :: l ++ [x]) = [10] ++ (z ++ Lib.joinTail [10] (l ++ [x])) := by simp [Lib.joinTail]
        rw [e, this]
        simp [flatR]
    exact h l y

theorem lit_texts (N : Nat) (k0) (ws : List (List UInt8)) (z : List UInt8) : ∀ (n j : Nat) (acc : List (List UInt8)), 8 < j + n → j ≤ 8 → acc.length = j → total acc ≤ 13 * j →
    ∃ l : List (List UInt8), total l ≤ 104 ∧ law07FoldLiteral_L1 D N k0 n (ws.map AV.str) z (flatR acc) j (acc.map AV.str) = k0 (ws.map AV.str) z (flatR l) (l.map AV.str) := by
  intro n
  induction n with
  | zero => intro j acc h h'; omega
  | succ n ih =>
    intro j acc h h' ha ht
    simp only [law07FoldLiteral_L1, law07FoldLiteral_L1s]
    by_cases hj : j < ws.length
    · rw [cond_d (by simp; omega)]
      by_cases h5 : j < 8
      · have hg : (ws.map AV.str)[j]? = some (.str (ws.getD j [])) := by rw [List.getElem?_map, List.getElem?_eq_getElem hj]; simp [List.getD, hj]
        rw [cond_d (by omega), need_d (by omega)]
        simp only [Int.toNat_natCast, hg, Option.bind_some, asS_s]
        rw [show (12 : Int) = ((12 : Nat) : Int) from rfl, D_Text _ 12 (by omega)]
        simp only [Option.bind_some, asS_s, List.drop_zero, List.take_length]
        have h12 : ((ws.getD j []).take 12).length ≤ 12 := by rw [List.length_take]; omega
        generalize (ws.getD j []).take 12 = x at h12
        have e : acc.map AV.str ++ [AV.str x] = (acc ++ [x]).map AV.str := by simp
        have ex : ((acc ++ [x]).map AV.str)[0 + j]? = some (.str x) := by rw [List.getElem?_map, Nat.zero_add, List.getElem?_append_right (by omega), ha]; simp
        have ef : (AV.str x).flat[0]? = some (.str x) := rfl
        have hfl := flatR_len acc
        rw [need_d (by simp; omega), e, need_d2 (by omega) (by simp; omega), ex]
        simp only [Option.bind_some, ef, asS_s]
        rw [need_d (by simp; omega), need_d (by simp only [List.length_append, List.length_cons, List.length_nil]; omega), wrap_i64 (by omega) (by omega), show (j : Int) + 1 = ((j + 1 : Nat) : Int) by omega, ← flatR_snoc]
        refine ih (j + 1) (acc ++ [x]) (by omega) (by omega) (by simp; omega) ?_
        unfold total at ht ⊢
        simp only [List.map_append, List.map_cons, List.map_nil, List.sum_append, List.sum_cons, List.sum_nil, List.length_append, List.length_cons, List.length_nil]
        omega
      · rw [cond_nd (by omega)]; exact ⟨acc, by omega, rfl⟩
    · rw [cond_nd (by simp; omega)]; exact ⟨acc, by omega, rfl⟩

theorem lit_empties (N : Nat) (k0) (ws : List AV) (s : List UInt8) (m : Nat) (hm : Int.tmod ((ws.length : Nat) : Int) 4 = m) (hm4 : m < 4) : ∀ (n i : Nat) (acc : List (List UInt8)), m < i + n → i ≤ m → acc.length ≤ 1000 + i →
    law07FoldLiteral_L2 D N k0 n ws s i (acc.map AV.str) = k0 s (m : Nat) ((acc ++ List.replicate (m - i) []).map AV.str) := by
  intro n
  induction n with
  | zero => intro i acc h h'; omega
  | succ n ih =>
    intro i acc h h' ha
    simp only [law07FoldLiteral_L2, law07FoldLiteral_L2s]
    rw [show (!decide ((4 : Nat) = 0)) = true from rfl, hm]
    simp only [need_true]
    by_cases hi : i < m
    · rw [cond_d (by omega), List.drop_zero, List.take_length, need_d (by simp; omega), wrap_i64 (by omega) (by omega), show (i : Int) + 1 = ((i + 1 : Nat) : Int) by omega]
      have e : acc.map AV.str ++ [AV.str ([] : List UInt8)] = (acc ++ [[]]).map AV.str := by simp
      rw [e, ih (i + 1) (acc ++ [[]]) (by omega) (by omega) (by simp; omega), show m - i = (m - (i + 1)) + 1 by omega, List.replicate_succ]
      simp
    · have : i = m := by omega
      subst this
      rw [cond_nd (by omega), show i - i = 0 by omega]; simp
theorem lit_breaks (N : Nat) (k0) (s : List UInt8) (l : List AV) (m : Nat) (hm4 : m < 4) : ∀ (n i : Nat) (acc : List UInt8), m < i + n → i ≤ m → acc.length ≤ 1000000 + i →
    law07FoldLiteral_L3 D N k0 n s (m : Nat) acc i l = k0 s (acc ++ List.replicate (m - i) 10) l := by
  intro n
  induction n with
  | zero => intro i acc h h'; omega
  | succ n ih =>
    intro i acc h h' ha
    simp only [law07FoldLiteral_L3, law07FoldLiteral_L3s]
    by_cases hi : i < m
    · rw [cond_d (by omega), need_d (by simp; omega), wrap_i64 (by omega) (by omega), show (i : Int) + 1 = ((i + 1 : Nat) : Int) by omega, ih (i + 1) _ (by omega) (by omega) (by simp; omega), show m - i = (m - (i + 1)) + 1 by omega, List.replicate_succ]
      simp
    · rw [cond_nd (by omega), show m - i = 0 by omega]; simp

theorem D_FoldLiteral (ws : List (List UInt8)) (z : List UInt8) : D id_law07FoldLiteral [.row 1 (ws.map AV.str), .str z] = some ⟨.bool true, false, []⟩ := by
  refine den_fn (N := 10) (F := law07FoldLiteral) rfl rfl ?_
  rw [law07FoldLiteral_eq]
  show law07FoldLiteralr D 10 _ z = _
  unfold law07FoldLiteralr
  have ct := fun k0 => lit_texts 10 k0 ws z 10 0 [] (by omega) (by omega) rfl (by simp [total])
  obtain ⟨l, hl, e⟩ := ct _
  refine Eq.trans e ?_
  clear e ct
  have hll : l.length ≤ 104 := by unfold total at hl; omega
  have hfl := flatR_len l
  rw [show (9 : Int) = ((9 : Nat) : Int) from rfl, D_Text z 9 (by omega)]
  have hz : (z.take 9).length ≤ 9 := by rw [List.length_take]; omega
  generalize z.take 9 = z at hz
  simp only [Option.bind_some, asS_s, List.drop_zero, List.take_length]
  have hx : ([120] ++ z : List UInt8) ≠ [] := by simp
  have hxl : ([120] ++ z : List UInt8).length ≤ 10 := by simp; omega
  rw [need_d (by simp; omega), need_d (by simp; omega), need_d (by simp only [List.length_append, List.length_cons, List.length_nil]; omega)]
  generalize ([120] ++ z : List UInt8) = x at hx hxl
  have e1 : l.map AV.str ++ [AV.str x] = (l ++ [x]).map AV.str := by simp
  have hm : ∃ m : Nat, Int.tmod (((ws.map AV.str).length : Nat) : Int) 4 = m ∧ m < 4 := by
    refine ⟨(ws.map AV.str).length % 4, ?_, Nat.mod_lt _ (by omega)⟩
    rw [Int.tmod_eq_emod_of_nonneg (by omega)]; omega
  obtain ⟨m, hm, hm4⟩ := hm
  rw [e1]
  refine (lit_empties 10 _ (ws.map AV.str) (flatR l ++ x) m hm hm4 10 0 (l ++ [x]) (by omega) (by omega) (by simp; omega)).trans ?_
  rw [need_d (by simp only [List.length_append, List.length_cons, List.length_nil]; omega)]
  refine (lit_breaks 10 _ (flatR l ++ x) _ m hm4 10 0 _ (by omega) (by omega) (by simp only [List.length_append, List.length_cons, List.length_nil]; omega)).trans ?_
  simp only [List.drop_zero, List.take_length, Nat.sub_zero]
  have ht : total (l ++ [x] ++ List.replicate m []) ≤ 100000 := by
    have hs : ∀ k, ((List.replicate k ([] : List UInt8)).map List.length).sum = 0 := by
      intro k
      induction k with
      | zero => rfl
      | succ k ih => rw [List.replicate_succ, List.map_cons, List.sum_cons, ih]; rfl
    unfold total at hl ⊢
    simp only [List.map_append, List.sum_append, List.map_cons, List.map_nil, List.sum_cons, List.sum_nil, List.length_append, List.length_cons, List.length_nil, List.length_replicate, hs]
    omega
  have v1 := valueL_app false false false l x hx m
  have v2 := valueL_app false true false l x hx m
  have v3 := valueL_app false false true l x hx m
  rw [join_flat] at v1 v2 v3
  simp only [Bool.false_eq_true, if_false, if_true, Bool.true_eq_false, false_and, and_false, and_self, List.append_nil] at v1 v2 v3
  rw [D_Value false false false 0 _ ht, D_Value false true false 0 _ ht, D_Value false false true 0 _ ht, v1, v2, v3]
  simp only [Option.bind_some, asS_s, beq_self_eq_true, cond_true, D_wakes07, asB_b]
  rw [need_d (by simp only [List.length_append, List.length_cons, List.length_nil]; omega)]
  have e4 : (flatR l ++ x ++ ([10] ++ List.replicate m 10) == flatR l ++ x ++ [10] ++ List.replicate m 10) = true := by simp
  rw [e4]; rfl
end Go.Proofs.Ytpjpmfchcijikaa.Vf
