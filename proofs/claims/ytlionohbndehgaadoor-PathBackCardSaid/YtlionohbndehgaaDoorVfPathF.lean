
/- Paths: the chapter's example, lists compared and copied, texts of pieces. No condition but sizes. -/
import Derived.Test.YtlionohbndehgaaDoorVfPathE
namespace Go.Proofs.YtlionohbndehgaaDoor.Vf
set_option linter.unusedVariables false
set_option linter.unusedSimpArgs false

theorem D_wakes20 : D id_law20Wakes [] = some ⟨.bool true, false, []⟩ := by
  refine den_fn (N := 0) (F := law20Wakes) rfl rfl ?_
  rw [law20Wakes_eq]
  show law20Wakesr D 0 = _
  unfold law20Wakesr
  have e : parseP ([64, 49, 46, 97, 91, 50, 93, 46, 46] : List UInt8) = ([(1, [], 1), (2, [97], 0), (3, [], 2), (5, [], 0)], 0) := by decide +kernel
  rw [D_Parse _ (by simp), e]
  rfl

theorem same20_loop (a b : List Stp) (hab : a.length = b.length) (ha : a.length ≤ 1000000) (N : Nat) (k0 : Bool → Option Res) (k1 : Option Res) : ∀ (n i : Nat), a.length < n + i → i ≤ a.length →
    keepSamePathStep_L1 D N k0 k1 n (a.map stA) (b.map stA) i = if a.drop i = b.drop i then k1 else k0 false := by
  intro n
  induction n with
  | zero => intro i h _; omega
  | succ n ih =>
    intro i h hi
    simp only [keepSamePathStep_L1, keepSamePathStep_L1s]
    by_cases hlt : i < a.length
    · have e1 : (a.map stA)[i]? = some (stA a[i]) := by rw [List.getElem?_map, List.getElem?_eq_getElem hlt]; rfl
      have e2 : (b.map stA)[i]? = some (stA (b[i]'(by omega))) := by rw [List.getElem?_map, List.getElem?_eq_getElem (by omega)]; rfl
      have d1 : a.drop i = a[i] :: a.drop (i + 1) := List.drop_eq_getElem_cons hlt
      have d2 : b.drop i = (b[i]'(by omega)) :: b.drop (i + 1) := List.drop_eq_getElem_cons (by omega)
      rw [List.length_map, cond_d (by omega)]
      simp only [need_d (show (0 : Int) ≤ (i : Int) by omega), Int.toNat_natCast]
      rw [e1, e2, d1, d2]
      generalize a[i] = x
      generalize b[i]'(by omega) = y
      obtain ⟨x1, x2, x3⟩ := x
      obtain ⟨y1, y2, y3⟩ := y
      simp only [stA, Option.bind_some, asISIA, asA_a, asC_c, asI_i, asS_s, asN_n, List.cons.injEq, Prod.mk.injEq]
      by_cases h1 : x1 = y1
      · by_cases h2 : x2 = y2
        · by_cases h3 : x3 = y3
          · subst h1; subst h2; subst h3
            simp only [beq_self_eq_true, Bool.and_self, Bool.not_true, cond_false, true_and]
            rw [wrap_i64 (by omega) (by omega), show (i : Int) + 1 = ((i + 1 : Nat) : Int) by omega]
            exact ih (i + 1) (by omega) (by omega)
          · simp [h3, beq_false_of_ne h3]
        · simp [h2, beq_false_of_ne h2]
      · have : ((x1 : Int) == (y1 : Int)) = false := beq_false_of_ne (by omega)
        simp [this, h1]
    · rw [List.length_map, cond_nd (by omega), List.drop_eq_nil_of_le (by omega), List.drop_eq_nil_of_le (by omega), if_pos rfl]
theorem D_same20 (a b : List Stp) (ha : a.length ≤ 1000000) : D id_keepSamePathStep [.row 3 (a.map stA), .row 3 (b.map stA)] = some ⟨.bool (decide (a = b)), false, []⟩ := by
  refine den_fn (N := a.length + 1) (F := keepSamePathStep) rfl rfl ?_
  rw [keepSamePathStep_eq]
  show keepSamePathStepr D _ _ _ = _
  unfold keepSamePathStepr
  simp only [List.length_map]
  by_cases h : a.length = b.length
  · rw [cond_beq (by omega)]
    refine (same20_loop a b h ha _ _ _ (a.length + 1) 0 (by omega) (by omega)).trans ?_
    simp only [List.drop_zero]
    by_cases hab : a = b
    · rw [if_pos hab, decide_eq_true hab]
    · rw [if_neg hab, decide_eq_false hab]
  · rw [cond_bne (by omega), decide_eq_false (fun e => h (by rw [e]))]
def pieces20 : List (List UInt8) := [[46, 97], [46, 98], [91, 48, 93], [91, 49, 93], [46, 42], [46, 46], [46, 34, 120, 32, 121, 34], [46, 34, 97, 92, 110, 34], [46, 99, 45, 100, 95, 49], [91, 49, 50, 93], [64], [64, 42], [64, 48], [64, 49], [46], [91], [93], [91, 48, 49, 93], [91, 45, 49, 93], [42], [97], [34], [91, 57, 57, 57, 57, 57, 57, 57, 93]]
theorem piece20 (j : Nat) (h : j < 23) : (pieces20.map AV.str)[j]? = some (.str (pieces20.getD j [])) ∧ (pieces20.getD j []).length ≤ 9 := by
  have : ∀ j, j < 23 → (pieces20.getD j []).length ≤ 9 := by decide
  refine ⟨?_, this j h⟩
  rw [List.getElem?_map, List.getD_eq_getElem?_getD]
  have : j < pieces20.length := h
  rw [List.getElem?_eq_getElem this]; rfl

theorem text20_loop (zs : List Int) (N : Nat) (k0 : List UInt8 → Option Res) : ∀ (n i : Nat) (t : List UInt8), 41 ≤ n + i → i ≤ 40 → t.length ≤ 9 * i →
    ∃ t' : List UInt8, t'.length ≤ 360 ∧ law20Text_L1 D N k0 n (zs.map (AV.int .i64)) (pieces20.map AV.str) t i = k0 t' := by
  intro n
  induction n with
  | zero => intro i t h h7 _; omega
  | succ n ih =>
    intro i t h h7 ht
    simp only [law20Text_L1, law20Text_L1s, List.length_map]
    by_cases hlt : i < zs.length
    · rw [cond_d (by omega)]
      by_cases hl7 : i < 40
      · rw [cond_d (by omega), need_d (by omega)]
        simp only [Int.toNat_natCast]
        have e1 : (zs.map (AV.int .i64))[i]? = some (.int .i64 zs[i]) := by rw [List.getElem?_map, List.getElem?_eq_getElem hlt]; rfl
        rw [e1, show ((pieces20.length : Nat) : Int) = 23 from rfl]
        simp only [Option.bind_some, asI_i]
        rw [D_Within _ 60 (by omega) (by omega)]
        simp only [Option.bind_some, asI_i]
        obtain ⟨j, hj, ej⟩ : ∃ j : Nat, j < 60 ∧ zs[i] % 60 = (j : Int) := ⟨(zs[i] % 60).toNat, by omega, by omega⟩
        rw [ej]
        by_cases h23 : 23 ≤ j
        · rw [cond_d (by omega), need_nd (by omega), show Int.tmod (j : Int) 10 = ((j % 10 : Nat) : Int) from rfl, need_d (by omega)]
          simp only [Int.toNat_natCast]
          obtain ⟨e2, e3⟩ := piece20 (j % 10) (by omega)
          rw [e2]
          simp only [Option.bind_some, asS_s]
          rw [need_d (by omega), wrap_i64 (by omega) (by omega), show (i : Int) + 1 = ((i + 1 : Nat) : Int) by omega]
          exact ih (i + 1) _ (by omega) (by omega) (by rw [List.length_append]; omega)
        · rw [cond_nd (by omega), need_d (by omega)]
          simp only [Int.toNat_natCast]
          obtain ⟨e2, e3⟩ := piece20 j (by omega)
          rw [e2]
          simp only [Option.bind_some, asS_s]
          rw [need_d (by omega), wrap_i64 (by omega) (by omega), show (i : Int) + 1 = ((i + 1 : Nat) : Int) by omega]
          exact ih (i + 1) _ (by omega) (by omega) (by rw [List.length_append]; omega)
      · rw [cond_nd (by omega)]
        exact ⟨t, by omega, rfl⟩
    · rw [cond_nd (by omega)]
      exact ⟨t, by omega, rfl⟩
theorem D_text20 (s : List UInt8) (zs : List Int) (raw : Bool) : ∃ t : List UInt8, t.length ≤ 360 ∧ D id_law20Text [.str s, .row 1 (zs.map (AV.int .i64)), .bool raw] = some ⟨.str t, false, []⟩ := by
  cases raw
  · obtain ⟨t', h, e⟩ := text20_loop zs 100 (fun s8 => some ⟨.str s8, false, []⟩) 100 0 [] (by omega) (by omega) (by simp)
    refine ⟨t', h, den_fn (N := 100) (F := law20Text) rfl rfl ?_⟩
    rw [law20Text_eq]
    exact e
  · refine ⟨s.take 60, by rw [List.length_take]; omega, den_fn (N := 0) (F := law20Text) rfl rfl ?_⟩
    rw [law20Text_eq]
    show law20Textr D 0 s _ true = _
    unfold law20Textr
    rw [show (60 : Int) = ((60 : Nat) : Int) from rfl, cond_true, D_Text _ 60 (by omega)]
    rfl
end Go.Proofs.YtlionohbndehgaaDoor.Vf
