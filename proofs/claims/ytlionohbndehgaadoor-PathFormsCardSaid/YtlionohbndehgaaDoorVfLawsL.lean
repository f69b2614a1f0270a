
/- The law PathForms comes to true, whatever the input. No condition. -/
import Derived.Test.YtlionohbndehgaaDoorVfPathG
namespace Go.Proofs.YtlionohbndehgaaDoor.Vf
set_option linter.unusedVariables false
set_option linter.unusedSimpArgs false

theorem need_tt {α : Type} {c : Bool} {x : Option α} (h : c = true) : need c x = x := by subst h; rfl
/-- A text, and how many steps it has as a path. -/
def formB (p : AV × AV) : Bool := match p with
  | (.str s, .int .i64 n) => decide (s.length ≤ 1000) && ((parseP s).2 == 0) == (decide (n > 0) || s == []) && decide (((parseP s).1.length : Int) = n) && (decide ((parseP s).2 = 0) || decide ((parseP s).2 = 6))
  | _ => false
theorem formB_ok {p : AV × AV} (h : formB p = true) : ∃ (s : List UInt8) (n : Int), p = (.str s, .int .i64 n) ∧ s.length ≤ 1000 ∧ (((parseP s).2 == 0) = (decide (n > 0) || s == [])) ∧ ((parseP s).1.length : Int) = n ∧ ((parseP s).2 = 0 ∨ (parseP s).2 = 6) := by
  unfold formB at h
  split at h
  · rename_i s n
    simp only [Bool.and_eq_true, Bool.or_eq_true, decide_eq_true_eq, beq_iff_eq] at h
    exact ⟨s, n, rfl, h.1.1.1, h.1.1.2, h.1.2, h.2⟩
  · cases h
theorem forms20_loop (N : Nat) (k0 : Option Res) (k1 : Bool → Option Res) (r : Res) (hk0 : k0 = some r) : ∀ (n : Nat) (m : List (AV × AV)) (o : Option (AV × AV)), m.length < n → (∀ p ∈ m, formB p = true) → law20PathForms_L1 D N k0 k1 n m o = some r := by
  intro n
  induction n with
  | zero => intro m o h; omega
  | succ n ih =>
    intro m o h hm
    simp only [law20PathForms_L1, law20PathForms_L1s]
    cases hl : m.length with
    | zero => rw [hl] at h; exact hk0
    | succ j0 =>
      rw [← hl]
      have hne : Nat.beq m.length 0 = false := by rw [hl]; rfl
      rw [hne, cond_false]
      refine anyN_of (by omega) fun j hj => ?_
      rw [List.getElem?_eq_getElem hj]
      have hp := hm m[j] (List.getElem_mem hj)
      have hgo : ∀ o', law20PathForms_L1 D N k0 k1 n (m.eraseIdx j) o' = some r := fun o' => ih _ o' (by rw [List.length_eraseIdx]; split <;> omega) fun p hp => hm p ((List.eraseIdx_sublist _ _).subset hp)
      generalize m[j] = p at hp
      obtain ⟨s, n', rfl, h1, h2, h3, h4⟩ := formB_ok hp
      simp only [Option.bind_some, asS_s, asI_i]
      rw [D_Parse s (by omega)]
      simp only [Option.bind_some, asRIT, asT_t, asC_c, asR_r, asI_i, asN_n, hgo, h2, List.length_map]
      have hlen : (((parseP s).1.length : Int) != n') = false := by rw [h3]; simp
      rw [hlen]
      have h6 : ((parseP s).2 != 0) = true → ((parseP s).2 != 6) = false := by
        intro hh
        rcases h4 with h4 | h4
        · rw [h4] at hh; cases hh
        · rw [h4]; rfl
      cases hz : ((parseP s).2 != 0)
      · cases hn : decide (n' > 0) <;> cases hs : (s == []) <;> simp
      · rw [h6 hz]
        cases hn : decide (n' > 0) <;> cases hs : (s == []) <;> simp
theorem forms20_all (N : Nat) (hN : 100 ≤ N) (k0 : Option Res) (k1 : Bool → Option Res) (r : Res) (hk0 : k0 = some r) (m : List (AV × AV)) (o : Option (AV × AV)) (hl : decide (m.length ≤ 50) = true) (hm : m.all formB = true) : law20PathForms_L1 D N k0 k1 N m o = some r :=
  forms20_loop N k0 k1 r hk0 N m o (by have := of_decide_eq_true hl; omega) fun p hp => List.all_eq_true.1 hm p hp

theorem bind_asI (n : Int) (K : Int → Option Res) : ((some (⟨.int .i64 n, false, []⟩ : Res)).bind fun r => asI .i64 r.v K) = K n := by simp [asI]
set_option maxHeartbeats 4000000 in
theorem D_PathForms (i : Int) : D id_law20PathForms [.int .i64 i] = some ⟨.bool true, false, []⟩ := by
  refine den_fn (N := 100) (F := law20PathForms) rfl rfl ?_
  rw [law20PathForms_eq]
  show law20PathFormsr D 100 i = _
  unfold law20PathFormsr
  rw [D_Within i 8 (by omega) (by omega)]
  have hk : i % 8 = 0 ∨ i % 8 = 1 ∨ i % 8 = 2 ∨ i % 8 = 3 ∨ i % 8 = 4 ∨ i % 8 = 5 ∨ i % 8 = 6 ∨ i % 8 = 7 := by omega
  rcases hk with hk | hk | hk | hk | hk | hk | hk | hk
  all_goals
    rw [hk]
    refine (bind_asI _ _).trans ?_
    iterate 23 refine (need_tt (by decide +kernel)).trans ?_
    refine (need_tt (by decide +kernel)).trans ?_
    refine forms20_all 100 (by omega) _ _ _ ?_ _ _ (by decide +kernel) (by decide +kernel)
    rw [D_wakes20]; rfl
end Go.Proofs.YtlionohbndehgaaDoor.Vf
