
/- Paths: a path and steps behind it (PathJoins), as many as may be (PathLong). No condition. -/
import Derived.Test.YtlionohbndehgaaDoorVfPathG
namespace Go.Proofs.YtlionohbndehgaaDoor.Vf
set_option linter.unusedVariables false
set_option linter.unusedSimpArgs false

def repL (w : List UInt8) (n : Nat) : List UInt8 := (List.replicate n w).flatten
theorem repL_len (w : List UInt8) (n : Nat) : (repL w n).length = n * w.length := by
  unfold repL; rw [List.length_flatten, List.map_replicate, List.sum_replicate_nat]
theorem dots20_loop (N : Nat) (k0 : Int → Int → Bool → List UInt8 → Option Res) (n : Nat) (hn : n ≤ 1000) (i5 : Int) (b : Bool) : ∀ (f i : Nat) (s : List UInt8), n < f + i → i ≤ n → s.length ≤ 1000 + 2 * i →
    law20PathLong_L1 D N k0 f n i5 b s i = k0 n i5 b (s ++ repL [46, 97] (n - i)) := by
  intro f
  induction f with
  | zero => intro i s h hi _; omega
  | succ f ih =>
    intro i s h hi hs
    simp only [law20PathLong_L1, law20PathLong_L1s]
    by_cases hlt : i < n
    · rw [cond_d (by omega), need_d (by simp; omega), wrap_i64 (by omega) (by omega), show (i : Int) + 1 = ((i + 1 : Nat) : Int) by omega, ih (i + 1) _ (by omega) (by omega) (by rw [List.length_append]; simp; omega), List.append_assoc]
      obtain ⟨m, hm⟩ : ∃ m, n - i = m + 1 := ⟨n - i - 1, by omega⟩
      rw [hm, show n - (i + 1) = m by omega]
      rfl
    · rw [cond_nd (by omega), show n - i = 0 by omega]
      simp [repL]
theorem blanks20_loop (N : Nat) (k0 : Int → List UInt8 → Option Res) (n : Nat) (hn : n ≤ 1000) : ∀ (f i : Nat) (s : List UInt8), n < f + i → i ≤ n → s.length ≤ 1000 + i →
    law20PathLong_L2 D N k0 f n s i = k0 n (s ++ repL [32] (n - i)) := by
  intro f
  induction f with
  | zero => intro i s h hi _; omega
  | succ f ih =>
    intro i s h hi hs
    simp only [law20PathLong_L2, law20PathLong_L2s]
    by_cases hlt : i < n
    · rw [cond_d (by omega), need_d (by simp; omega), wrap_i64 (by omega) (by omega), show (i : Int) + 1 = ((i + 1 : Nat) : Int) by omega, ih (i + 1) _ (by omega) (by omega) (by rw [List.length_append]; simp; omega), List.append_assoc]
      obtain ⟨m, hm⟩ : ∃ m, n - i = m + 1 := ⟨n - i - 1, by omega⟩
      rw [hm, show n - (i + 1) = m by omega]
      rfl
    · rw [cond_nd (by omega), show n - i = 0 by omega]
      simp [repL]
def okL (k : Nat) : List Stp × Int := if 30 + k ≤ 32 then (List.replicate (30 + k) (2, [97], 0), 0) else ([], 10)
def okD (k : Nat) : List Stp × Int := if 31 + k ≤ 32 then ((1, [], 3) :: List.replicate (30 + k) (2, [97], 0), 0) else ([], 10)
def okB (k : Nat) : List Stp × Int := if 126 + k ≤ 128 then ([(2, repL [32] (126 + k), 0)], 0) else ([], 10)
theorem dots_all1 : ∀ k : Fin 5, parseP (repL [46, 97] (30 + k.1)) = okL k.1 := by decide +kernel
theorem dots_all2 : ∀ k : Fin 5, parseP ([64, 51] ++ repL [46, 97] (30 + k.1)) = okD k.1 := by decide +kernel
theorem blanks_all1 : ∀ k : Fin 5, parseP (([46, 34] ++ repL [32] (126 + k.1)) ++ [34]) = okB k.1 := by decide +kernel
theorem dots_all (k : Fin 5) : parseP (repL [46, 97] (30 + k.1)) = (if 30 + k.1 ≤ 32 then (List.replicate (30 + k.1) (2, [97], 0), 0) else ([], 10)) ∧
    parseP ([64, 51] ++ repL [46, 97] (30 + k.1)) = (if 31 + k.1 ≤ 32 then ((1, [], 3) :: List.replicate (30 + k.1) (2, [97], 0), 0) else ([], 10)) := ⟨dots_all1 k, dots_all2 k⟩
theorem blanks_all (k : Fin 5) : parseP (([46, 34] ++ repL [32] (126 + k.1)) ++ [34]) = (if 126 + k.1 ≤ 128 then ([(2, repL [32] (126 + k.1), 0)], 0) else ([], 10)) := blanks_all1 k

set_option maxHeartbeats 1000000 in
theorem long20_tail (N : Nat) (hN : 200 ≤ N) (i : Int) :
    (
    (D id_keepWithin [AV.int .i64 i, AV.int .i64 5]).bind fun r3 =>
    asI .i64 r3.v fun i14 =>
    law20PathLong_L2 D N
      (fun i19 s8 =>
        need (decide ((([46, 34] : List UInt8) : List UInt8).length + s8.length ≤ 9223372036854775807)) <|
        need (decide ((([46, 34] : List UInt8) ++ s8 : List UInt8).length + (([34] : List UInt8) : List UInt8).length ≤ 9223372036854775807)) <|
        (D id_pathParse [AV.str ((([46, 34] : List UInt8) ++ s8) ++ ([34] : List UInt8))]).bind fun r4 =>
        asRIT r4.v fun l2 i20 =>
        bif decide ((i19 : Int) > 128) then
          (bif (i20 : Int) == 10 then
            (bif (((l2.length : Nat) : Int) : Int) == 0 then
              ((D id_law20Wakes []).bind fun r5 =>
              asB r5.v fun b6 =>
              some ⟨AV.bool b6, false, []⟩)
            else
              some ⟨AV.bool false, false, []⟩)
          else
            some ⟨AV.bool false, false, []⟩)
        else
          bif (i20 : Int) == 0 then
            (bif (((l2.length : Nat) : Int) : Int) == 1 then
              (need (decide (0 ≤ (0 : Int))) <|
              (l2[Int.toNat 0]?).bind fun e1 =>
              asISIA e1 fun i21 s9 i22 =>
              bif s9 == s8 then
                ((D id_law20Wakes []).bind fun r6 =>
                asB r6.v fun b7 =>
                some ⟨AV.bool b7, false, []⟩)
              else
                some ⟨AV.bool false, false, []⟩)
            else
              some ⟨AV.bool false, false, []⟩)
          else
            some ⟨AV.bool false, false, []⟩)
      N (IntKind.i64.wrap (126 + i14)) ([] : List UInt8) 0) = some ⟨.bool true, false, []⟩ := by
  rw [D_Within i 5 (by omega) (by omega)]
  obtain ⟨k, ek⟩ : ∃ k : Fin 5, i % 5 = ((k.1 : Nat) : Int) := ⟨⟨(i % 5).toNat, by omega⟩, by simp only; omega⟩
  simp only [Option.bind_some, asI_i, ek]
  have hk := k.2
  rw [wrap_i64 (by omega) (by omega), show (126 : Int) + ((k.1 : Nat) : Int) = ((126 + k.1 : Nat) : Int) by omega]
  refine (blanks20_loop N _ (126 + k.1) (by omega) N 0 [] (by omega) (by omega) (by simp)).trans ?_
  have hb := blanks_all k
  have hl : (repL [32] (126 + k.1)).length = 126 + k.1 := by rw [repL_len]; simp
  rw [List.nil_append, Nat.sub_zero]
  generalize hs : repL [32] (126 + k.1) = s at hb hl ⊢
  rw [need_d (by simp; omega), need_d (by simp; omega), D_Parse _ (by simp; omega), hb]
  by_cases h : 126 + k.1 ≤ 128
  · rw [if_pos h]
    simp only [Option.bind_some, asRIT, asT_t, asC_c, asR_r, asI_i, asN_n]
    rw [cond_nd (by omega)]
    simp only [List.map_cons, List.map_nil, stA, List.length_cons, List.length_nil, need_d (show (0 : Int) ≤ 0 by omega), show Int.toNat 0 = 0 from rfl, List.getElem?_cons_zero, Option.bind_some, asISIA, asA_a, asC_c, asI_i, asS_s, asN_n, D_wakes20, asB_b, beq_self_eq_true, cond_true]
    rfl
  · rw [if_neg h]
    simp only [Option.bind_some, asRIT, asT_t, asC_c, asR_r, asI_i, asN_n]
    rw [cond_d (by omega)]
    simp only [List.map_nil, List.length_nil, D_wakes20, Option.bind_some, asB_b]
    rfl

set_option maxHeartbeats 2000000 in
theorem D_PathLong (i1 i2 : Int) (b : Bool) : D id_law20PathLong [.int .i64 i1, .int .i64 i2, .bool b] = some ⟨.bool true, false, []⟩ := by
  refine den_fn (N := 200) (F := law20PathLong) rfl rfl ?_
  rw [law20PathLong_eq]
  show law20PathLongr D 200 i1 i2 b = _
  unfold law20PathLongr
  rw [D_Within i1 5 (by omega) (by omega)]
  obtain ⟨k, ek⟩ : ∃ k : Fin 5, i1 % 5 = ((k.1 : Nat) : Int) := ⟨⟨(i1 % 5).toNat, by omega⟩, by simp only; omega⟩
  simp only [Option.bind_some, asI_i, ek]
  have hk := k.2
  obtain ⟨d1, d2⟩ := dots_all k
  rw [wrap_i64 (x := 30 + ((k.1 : Nat) : Int)) (by omega) (by omega), show (30 : Int) + ((k.1 : Nat) : Int) = ((30 + k.1 : Nat) : Int) by omega]
  have hl : (repL [46, 97] (30 + k.1)).length = 2 * (30 + k.1) := by rw [repL_len]; simp; omega
  generalize hs : repL [46, 97] (30 + k.1) = s at d1 d2 hl
  cases b
  · rw [cond_false]
    refine (dots20_loop 200 _ (30 + k.1) (by omega) i2 false 200 0 [] (by omega) (by omega) (by simp)).trans ?_
    rw [List.nil_append, Nat.sub_zero, hs]
    simp only [cond_false]
    rw [D_Parse s (by omega), d1]
    by_cases h : 30 + k.1 ≤ 32
    · rw [if_pos h]
      simp only [Option.bind_some, asRIT, asT_t, asC_c, asR_r, asI_i, asN_n, List.length_map, List.length_replicate]
      rw [cond_nd (by omega), cond_beq rfl, cond_beq rfl]
      exact long20_tail 200 (by omega) i2
    · rw [if_neg h]
      simp only [Option.bind_some, asRIT, asT_t, asC_c, asR_r, asI_i, asN_n, List.map_nil, List.length_nil]
      rw [cond_d (by omega), cond_beq rfl, cond_beq (show (((0 : Nat) : Int)) = 0 from rfl)]
      exact long20_tail 200 (by omega) i2
  · rw [cond_true]
    refine (dots20_loop 200 _ (30 + k.1) (by omega) i2 true 200 0 [64, 51] (by omega) (by omega) (by simp)).trans ?_
    rw [Nat.sub_zero, hs]
    simp only [cond_true]
    rw [D_Parse _ (by simp; omega), d2, wrap_i64 (x := ((30 + k.1 : Nat) : Int) + 1) (by omega) (by omega)]
    by_cases h : 31 + k.1 ≤ 32
    · rw [if_pos h]
      simp only [Option.bind_some, asRIT, asT_t, asC_c, asR_r, asI_i, asN_n, List.length_map, List.length_replicate, List.length_cons]
      rw [cond_nd (by omega), cond_beq rfl, cond_beq (by omega)]
      exact long20_tail 200 (by omega) i2
    · rw [if_neg h]
      simp only [Option.bind_some, asRIT, asT_t, asC_c, asR_r, asI_i, asN_n, List.map_nil, List.length_nil]
      rw [cond_d (by omega), cond_beq rfl, cond_beq (show (((0 : Nat) : Int)) = 0 from rfl)]
      exact long20_tail 200 (by omega) i2

theorem D_PathJoins (s t : List UInt8) (zs us : List Int) : D id_law20PathJoins [.str s, .str t, .row 1 (zs.map (AV.int .i64)), .row 1 (us.map (AV.int .i64))] = some ⟨.bool true, false, []⟩ := by
  refine den_fn (N := 0) (F := law20PathJoins) rfl rfl ?_
  rw [law20PathJoins_eq]
  show law20PathJoinsr D 0 s t _ _ = _
  unfold law20PathJoinsr
  obtain ⟨a, ha, ea⟩ := D_text20 s zs false
  obtain ⟨b, hb, eb⟩ := D_text20 t us false
  rw [ea, eb]
  simp only [Option.bind_some, asS_s]
  rw [D_Parse a (by omega), D_Parse b (by omega)]
  simp only [Option.bind_some, asRIT, asT_t, asC_c, asR_r, asI_i, asN_n, D_wakes20, asB_b, List.length_map]
  by_cases h1 : (parseP a).2 = 0
  case neg => rw [cond_bne h1]
  rw [cond_beq h1]
  by_cases h2 : (parseP b).2 = 0
  case neg => rw [cond_bne h2]
  rw [cond_beq h2]
  obtain ⟨_, l1, _⟩ := parseP_ok h1
  obtain ⟨_, l2, _⟩ := parseP_ok h2
  rw [wrap_i64 (by omega) (by omega)]
  by_cases h3 : 32 < (parseP a).1.length + (parseP b).1.length
  · rw [cond_d (by omega)]
  rw [cond_nd (by omega)]
  have fin : (∀ z ∈ (parseP b).1.head?, z.1 ≠ 1) → (need (decide (a.length + b.length ≤ 9223372036854775807)) <|
          (D id_pathParse [AV.str (a ++ b)]).bind fun r13 =>
          asRIT r13.v fun l7 i6 =>
          bif (i6 : Int) == 0 then
            ((D id_keepCopyPathStep [AV.row 3 ((parseP a).1.map stA)]).bind fun r14 =>
            need r14.own <|
            asR 3 r14.v fun l8 =>
            need (decide (((l8.drop 0).take l8.length).length + (parseP b).1.length ≤ 1099511627776)) <|
            (D id_keepSamePathStep [AV.row 3 l7, AV.row 3 (((((l8.drop 0).take l8.length) ++ (parseP b).1.map stA).drop 0).take ((((l8.drop 0).take l8.length) ++ (parseP b).1.map stA).length))]).bind fun r15 =>
            asB r15.v fun b7 =>
            bif b7 then
              (some (⟨AV.bool true, false, []⟩ : Res))
            else
              some ⟨AV.bool false, false, []⟩)
          else
            some ⟨AV.bool false, false, []⟩) = some ⟨.bool true, false, []⟩ := by
    intro hz
    have hj := join20 (a := a) (b := b) (by rw [List.length_append]; omega) h1 h2 (by omega) hz
    rw [need_d (by omega), D_Parse _ (by rw [List.length_append]; omega), hj]
    simp only [Option.bind_some, asRIT, asT_t, asC_c, asR_r, asI_i, asN_n]
    rw [cond_eq rfl, D_copy20 _ (by rw [List.length_map]; omega)]
    simp only [Option.bind_some, need_true, asR_r, List.drop_zero, List.take_length]
    rw [need_d (by rw [List.length_map]; omega), ← List.map_append, D_same20 _ _ (by rw [List.length_append]; omega)]
    simp only [Option.bind_some, asB_b, decide_true, cond_true]
  by_cases h4 : 0 < (parseP b).1.length
  · rw [cond_d (by omega), need_d (by omega)]
    cases hp : (parseP b).1 with
    | nil => rw [hp] at h4; simp at h4
    | cons x r =>
      obtain ⟨k, nm, n⟩ := x
      rw [hp] at fin
      simp only [List.map_cons, stA, show Int.toNat 0 = 0 from rfl, List.getElem?_cons_zero, Option.bind_some, asISIA, asA_a, asC_c, asI_i, asS_s, asN_n] at fin ⊢
      by_cases hk : k = 1
      · rw [cond_eq (by omega)]
      · rw [cond_ne (by omega)]
        refine fin fun z hz => ?_
        simp only [List.head?_cons, Option.mem_def, Option.some.injEq] at hz
        subst hz; exact hk
  · rw [cond_nd (by omega)]
    refine fin fun z hz => ?_
    have : (parseP b).1 = [] := List.eq_nil_of_length_eq_zero (by omega)
    rw [this] at hz; cases hz
end Go.Proofs.YtlionohbndehgaaDoor.Vf
