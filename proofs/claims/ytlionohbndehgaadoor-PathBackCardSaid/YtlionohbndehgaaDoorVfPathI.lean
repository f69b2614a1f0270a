
/- Paths as they are printed, by the program and by the reference. No condition but sizes. -/
import Derived.Test.YtlionohbndehgaaDoorVfPathH
import Derived.Test.YtlionohbndehgaaDoorVfDoubleD
namespace Go.Proofs.YtlionohbndehgaaDoor.Vf
set_option linter.unusedVariables false
set_option linter.unusedSimpArgs false

/-- A step of any numbers. -/
abbrev StZ := Int × List UInt8 × Int
def stZ (x : StZ) : AV := .agg [.int .i64 x.1, .str x.2.1, .int .i64 x.2.2]
def toZ (x : Stp) : StZ := ((x.1 : Int), x.2.1, x.2.2)
theorem stA_toZ (x : Stp) : stA x = stZ (toZ x) := rfl
theorem stA_map (l : List Stp) : l.map stA = (l.map toZ).map stZ := by rw [List.map_map]; rfl
def i64R (n : Int) : Prop := -9223372036854775808 ≤ n ∧ n ≤ 9223372036854775807
theorem D_Itoa (n : Int) (h : i64R n) : D id_strconvItoa [.int .i64 n] = some ⟨.str (Lib.itoa n), false, []⟩ := by
  refine D_ext ?_
  have e : X id_strconvItoa [.int .i64 n] = bif decide (-9223372036854775808 ≤ n) && decide (n ≤ 9223372036854775807) then some (⟨.str (Lib.itoa n), false, []⟩ : Res) else none := rfl
  rw [e, decide_eq_true h.1, decide_eq_true h.2]; rfl
theorem nDigits_le : ∀ (k u : Nat), u < 10 ^ k → Lib.nDigits u ≤ k + 1
  | 0, u, h => by rw [Lib.nDigits]; split <;> omega
  | k + 1, u, h => by
    rw [Lib.nDigits]
    split
    · omega
    · have := nDigits_le k (u / 10) (by rw [Nat.pow_succ] at h; omega)
      omega
theorem itoa_len (n : Int) (h : i64R n) : (Lib.itoa n).length ≤ 25 := by
  unfold i64R at h
  unfold Lib.itoa
  have e : (10 : Nat) ^ 20 = 100000000000000000000 := by decide
  split
  · have := nDigits_le 20 n.natAbs (by rw [e]; omega)
    rw [List.length_cons, Lib.decDigits_length]; omega
  · have := nDigits_le 20 n.toNat (by rw [e]; omega)
    rw [Lib.decDigits_length]; omega

/-- A name's text. -/
def nameT (s : List UInt8) : List UInt8 := if nameP s = true then 46 :: s else 46 :: (if Lib.validD s = true then putL s else [])
def textP (x : StZ) : List UInt8 :=
  if x.1 = 1 then (if x.2.2 = -1 then [64, 42] else 64 :: Lib.itoa x.2.2)
  else if x.1 = 2 then nameT x.2.1
  else if x.1 = 3 then (91 :: Lib.itoa x.2.2) ++ [93]
  else if x.1 = 4 then [46, 42] else [46, 46]
theorem putGo_len20 : ∀ (k : Nat) (l : List UInt8), (putGo k l).length ≤ 10 * k := putGo_len
theorem putL_len (s : List UInt8) : (putL s).length ≤ 10 * s.length + 2 := by
  unfold putL
  have := putGo_len s.length s
  simp only [List.length_cons, List.length_append, List.length_nil]; omega
theorem nameT_len (s : List UInt8) : (nameT s).length ≤ 10 * s.length + 3 := by
  unfold nameT
  have := putL_len s
  split
  · simp only [List.length_cons]; omega
  · split
    · simp only [List.length_cons]; omega
    · simp
theorem textP_len (x : StZ) (h : i64R x.2.2) : (textP x).length ≤ 10 * x.2.1.length + 30 := by
  unfold textP
  have h1 := itoa_len x.2.2 h
  have h2 := nameT_len x.2.1
  split
  · split
    · simp
    · simp only [List.length_cons]; omega
  · split
    · omega
    · split
      · simp only [List.length_cons, List.length_append, List.length_nil]; omega
      · split <;> simp
theorem D_pText (k : Int) (s : List UInt8) (n : Int) (hs : s.length ≤ 1000) (hn : i64R n) : D id_pathText [.agg [.int .i64 k, .str s, .int .i64 n]] = some ⟨.str (textP (k, s, n)), false, []⟩ := by
  have hi := itoa_len n hn
  have hp := putL_len s
  refine den_fn (N := 0) (F := pathText) rfl rfl ?_
  rw [pathText_eq]
  show pathTextr D 0 k s n = _
  unfold pathTextr
  rw [D_Itoa n hn, D_Name s (by omega), D_Put6 s (by omega)]
  simp only [Option.bind_some, asS_s, asB_b, asSBT, asT_t, asC_c, asN_n]
  unfold textP nameT
  by_cases h1 : k = 1
  · subst h1
    rw [if_pos rfl]
    simp only [Int.reduceBEq, cond_true]
    by_cases hm : n = -1
    · rw [cond_eq hm, if_pos hm]
    · rw [cond_ne hm, if_neg hm, need_d (by simp; omega)]; rfl
  · rw [if_neg h1, cond_ne h1, cond_ne h1]
    by_cases h2 : k = 2
    · subst h2
      rw [if_pos rfl]
      simp only [Int.reduceBEq, cond_true]
      cases hnm : nameP s
      · simp only [cond_false, Bool.false_eq_true, if_false]
        rw [need_d (by
          split
          · simp; omega
          · simp)]
        rfl
      · simp only [cond_true, if_true]
        rw [need_d (by simp; omega)]; rfl
    · rw [if_neg h2, cond_ne h2, cond_ne h2]
      by_cases h3 : k = 3
      · rw [cond_eq h3, if_pos h3, need_d (by simp; omega), need_d (by simp; omega)]; rfl
      · rw [cond_ne h3, if_neg h3]
        by_cases h4 : k = 4
        · rw [cond_eq h4, if_pos h4]
        · rw [cond_ne h4, if_neg h4]
def okZ (x : StZ) : Prop := i64R x.1 ∧ x.2.1.length ≤ 200 ∧ i64R x.2.2
def textsP (l : List StZ) : List UInt8 := (l.map textP).flatten
theorem textsP_len : ∀ l : List StZ, (∀ x ∈ l, okZ x) → (textsP l).length ≤ 2030 * l.length
  | [], _ => by simp [textsP]
  | x :: l, h => by
    have h1 := textP_len x (h x List.mem_cons_self).2.2
    have h2 := textsP_len l fun y hy => h y (List.mem_cons_of_mem _ hy)
    have h3 := (h x List.mem_cons_self).2.1
    unfold textsP at h2 ⊢
    simp only [List.map_cons, List.flatten_cons, List.length_append, List.length_cons]; omega
theorem print_loop (l : List StZ) (hl : l.length ≤ 40) (ho : ∀ x ∈ l, okZ x) (N : Nat) (l2 : List AV) (k0 : List AV → List UInt8 → Option Res) : ∀ (n i : Nat) (s : List UInt8), l.length < n + i → i ≤ l.length → s.length ≤ 2030 * i →
    pathPrint_L1 D N k0 n l2 s (l.map stZ) ((l.length : Nat) : Int) (i : Int) = k0 l2 (s ++ textsP (l.drop i)) := by
  intro n
  induction n with
  | zero => intro i s h _; omega
  | succ n ih =>
    intro i s h hi hs
    simp only [pathPrint_L1, pathPrint_L1s]
    by_cases hlt : i < l.length
    · have e1 : (l.map stZ)[i]? = some (stZ l[i]) := by rw [List.getElem?_map, List.getElem?_eq_getElem hlt]; rfl
      have hx := ho l[i] (List.getElem_mem hlt)
      have hd : textsP (l.drop i) = textP l[i] ++ textsP (l.drop (i + 1)) := by rw [List.drop_eq_getElem_cons hlt]; rfl
      rw [cond_d (by omega), need_d (by omega), Int.toNat_natCast, e1, hd]
      generalize l[i] = x at hx
      obtain ⟨k, nm, v⟩ := x
      have ht := textP_len (k, nm, v) hx.2.2
      have hx2 := hx.2.1
      simp only at ht hx2
      simp only [stZ, Option.bind_some, asISIA, asA_a, asC_c, asI_i, asS_s, asN_n]
      rw [D_pText k nm v (by omega) hx.2.2]
      simp only [Option.bind_some, asS_s]
      rw [need_d (by omega), wrap_i64 (by omega) (by omega), show (i : Int) + 1 = ((i + 1 : Nat) : Int) by omega, ih (i + 1) _ (by omega) (by omega) (by rw [List.length_append]; omega), List.append_assoc]
    · rw [cond_nd (by omega), List.drop_eq_nil_of_le (by omega)]
      simp [textsP]
theorem eqZ_loop (a b : List StZ) (hab : a.length = b.length) (ha : a.length ≤ 1000000) (N : Nat) (k0 : Bool → Option Res) (k1 : Option Res) : ∀ (n i : Nat), a.length < n + i → i ≤ a.length →
    slicesEqualScholiumPathStepScholiumPathStep_L1 D N k0 k1 n (a.map stZ) (b.map stZ) ((a.length : Nat) : Int) (i : Int) = if a.drop i = b.drop i then k1 else k0 false := by
  intro n
  induction n with
  | zero => intro i h; omega
  | succ n ih =>
    intro i h hi
    simp only [slicesEqualScholiumPathStepScholiumPathStep_L1, slicesEqualScholiumPathStepScholiumPathStep_L1s]
    by_cases hlt : i < a.length
    · have e1 : (a.map stZ)[i]? = some (stZ a[i]) := by rw [List.getElem?_map, List.getElem?_eq_getElem hlt]; rfl
      have e2 : (b.map stZ)[i]? = some (stZ (b[i]'(by omega))) := by rw [List.getElem?_map, List.getElem?_eq_getElem (by omega)]; rfl
      have d1 : a.drop i = a[i] :: a.drop (i + 1) := List.drop_eq_getElem_cons hlt
      have d2 : b.drop i = (b[i]'(by omega)) :: b.drop (i + 1) := List.drop_eq_getElem_cons (by omega)
      rw [cond_d (by omega)]
      simp only [need_d (show (0 : Int) ≤ (i : Int) by omega), Int.toNat_natCast]
      rw [e1, e2, d1, d2]
      generalize a[i] = x
      generalize b[i]'(by omega) = y
      obtain ⟨x1, x2, x3⟩ := x
      obtain ⟨y1, y2, y3⟩ := y
      simp only [stZ, Option.bind_some, asISIA, asA_a, asC_c, asI_i, asS_s, asN_n, List.cons.injEq, Prod.mk.injEq]
      by_cases h1 : x1 = y1
      · by_cases h2 : x2 = y2
        · by_cases h3 : x3 = y3
          · subst h1; subst h2; subst h3
            simp only [beq_self_eq_true, Bool.and_self, Bool.not_true, cond_false, true_and]
            rw [wrap_i64 (by omega) (by omega), show (i : Int) + 1 = ((i + 1 : Nat) : Int) by omega]
            exact ih (i + 1) (by omega) (by omega)
          · simp [h3, beq_false_of_ne h3]
        · simp [h2, beq_false_of_ne h2]
      · simp [beq_false_of_ne h1, h1]
    · rw [cond_nd (by omega), List.drop_eq_nil_of_le (by omega), List.drop_eq_nil_of_le (by omega), if_pos rfl]
theorem D_eqZ (a b : List StZ) (ha : a.length ≤ 1000000) : D id_slicesEqualScholiumPathStepScholiumPathStep [.row 3 (a.map stZ), .row 3 (b.map stZ)] = some ⟨.bool (decide (a = b)), false, []⟩ := by
  refine den_fn (N := a.length + 1) (F := slicesEqualScholiumPathStepScholiumPathStep) rfl rfl ?_
  rw [slicesEqualScholiumPathStepScholiumPathStep_eq]
  show slicesEqualScholiumPathStepScholiumPathStepr D _ _ _ = _
  unfold slicesEqualScholiumPathStepScholiumPathStepr
  simp only [List.length_map]
  by_cases h : a.length = b.length
  · rw [cond_beq (by omega)]
    refine (eqZ_loop a b h ha _ _ _ (a.length + 1) 0 (by omega) (by omega)).trans ?_
    simp only [List.drop_zero]
    by_cases hab : a = b
    · rw [if_pos hab, decide_eq_true hab]
    · rw [if_neg hab, decide_eq_false hab]
  · rw [cond_bne (by omega), decide_eq_false (fun e => h (by rw [e]))]
/-- The text of steps, if it reads as them. -/
def printP (l : List StZ) : List UInt8 × Int := if (parseP (textsP l)).2 = 0 ∧ (parseP (textsP l)).1.map toZ = l then (textsP l, 0) else ([], 6)
theorem parseP_len20 {s : List UInt8} : (parseP s).1.length ≤ 32 := by
  unfold parseP
  split
  · simp
  · split
    · simp
    · rename_i h
      simp only [not_or] at h
      dsimp only
      omega
theorem D_Print (l : List StZ) (hl : l.length ≤ 40) (ho : ∀ x ∈ l, okZ x) : D id_pathPrint [.row 3 (l.map stZ)] = some ⟨.tup [.str (printP l).1, .int .i64 (printP l).2], false, []⟩ := by
  refine den_fn (N := 100) (F := pathPrint) rfl rfl ?_
  rw [pathPrint_eq]
  show pathPrintr D 100 (l.map stZ) = _
  unfold pathPrintr
  rw [List.length_map]
  refine (print_loop l hl ho 100 _ _ 100 0 [] (by omega) (by omega) (by simp)).trans ?_
  rw [List.drop_zero, List.nil_append]
  have ht := textsP_len l ho
  rw [D_Parse _ (by omega)]
  simp only [Option.bind_some, asRIT, asT_t, asC_c, asR_r, asI_i, asN_n]
  unfold printP
  by_cases h0 : (parseP (textsP l)).2 = 0
  · have hp := parseP_len20 (s := textsP l)
    rw [cond_beq h0, stA_map, D_eqZ _ _ (by rw [List.length_map]; omega)]
    simp only [Option.bind_some, asB_b]
    by_cases he : (parseP (textsP l)).1.map toZ = l
    · rw [decide_eq_true he, if_pos ⟨h0, he⟩]; rfl
    · rw [decide_eq_false he, if_neg (fun h => he h.2)]; rfl
  · rw [cond_bne h0, if_neg (fun h => h0 h.1)]
end Go.Proofs.YtlionohbndehgaaDoor.Vf
