
/- The law PropsForms comes to true, whatever the input. No condition. -/
import Derived.Test.YtmpjohnbddnehaaDoorVfPropsB
namespace Go.Proofs.YtmpjohnbddnehaaDoor.Vf
set_option linter.unusedVariables false
set_option linter.unusedSimpArgs false

theorem need_t10 {α : Type} {c : Bool} {x : Option α} (h : c = true) : need c x = x := by subst h; rfl
/-- A text that has props that may not be. -/
def badB (v : AV) : Bool := match v with
  | .str s => decide (s.length ≤ 1000) && decide ((takeP s).1 = []) && decide ((takeP s).2.1 = []) && decide ((takeP s).2.2.1 = 0) && !(takeP s).2.2.2
  | _ => false
theorem badB_ok {v : AV} (h : badB v = true) : ∃ s : List UInt8, v = .str s ∧ s.length ≤ 1000 ∧ (takeP s).1 = [] ∧ (takeP s).2.1 = [] ∧ (takeP s).2.2.1 = 0 ∧ (takeP s).2.2.2 = false := by
  unfold badB at h
  split at h
  · rename_i s
    simp only [Bool.and_eq_true, decide_eq_true_eq, Bool.not_eq_true'] at h
    exact ⟨s, rfl, h.1.1.1.1, h.1.1.1.2, h.1.1.2, h.1.2, h.2⟩
  · cases h
theorem bad10_loop (N : Nat) (k0 : Bool → Option Res) (k1 : List UInt8 → Option Res) (s : List UInt8) (l : List AV) (hl : l.length ≤ 1000) (hb : ∀ v ∈ l, badB v = true) : ∀ (n i : Nat), l.length < i + n → i ≤ l.length →
    law10PropsForms_L1 D N k0 k1 n s l (l.length : Nat) (i : Nat) = k1 s := by
  intro n
  induction n with
  | zero => intro i h h'; omega
  | succ n ih =>
    intro i h h'
    simp only [law10PropsForms_L1, law10PropsForms_L1s]
    by_cases hi : i < l.length
    · have e0 : decide ((i : Int) < (l.length : Nat)) = true := decide_eq_true (by omega)
      have e1 : decide (0 ≤ (i : Int)) = true := decide_eq_true (by omega)
      rw [e0, cond_true, e1, need_t10 rfl, Int.toNat_natCast, List.getElem?_eq_getElem hi]
      obtain ⟨t, ht, h1, h2, h3, h4, h5⟩ := badB_ok (hb _ (List.getElem_mem hi))
      rw [Option.bind_some, ht]
      simp only [asS_s]
      rw [D_Take t (by omega), h2, h3, h4, h5]
      have ew : IntKind.i64.wrap ((i : Int) + 1) = ((i + 1 : Nat) : Int) := by rw [wrap_i64 (by omega) (by omega)]; rfl
      rw [ew]
      exact ih (i + 1) (by omega) (by omega)
    · have e0 : decide ((i : Int) < (l.length : Nat)) = false := decide_eq_false (by omega)
      rw [e0]; rfl
theorem bad10_all (N : Nat) (k0 : Bool → Option Res) (k1 : List UInt8 → Option Res) (r : Option Res) (s : List UInt8) (l : List AV) (i3 : Int) (h3 : i3 = (l.length : Nat)) (hl : decide (l.length ≤ 50) = true) (hN : 100 ≤ N) (hb : l.all badB = true) (hk : k1 s = r) :
    law10PropsForms_L1 D N k0 k1 N s l i3 0 = r := by
  have hl' := of_decide_eq_true hl
  subst h3; rw [← hk]
  exact bad10_loop N k0 k1 s l (by omega) (fun v hv => List.all_eq_true.1 hb v hv) N 0 (by omega) (by omega)
/-- A text, and how many of its bytes are props. -/
def propB (p : AV × AV) : Bool := match p with
  | (.str s, .int .i64 n) => decide (s.length ≤ 1000) && decide ((((takeP s).2.2.1 : Nat) : Int) = n) && (takeP s).2.2.2
  | _ => false
theorem propB_ok {p : AV × AV} (h : propB p = true) : ∃ (s : List UInt8) (n : Int), p = (.str s, .int .i64 n) ∧ s.length ≤ 1000 ∧ (((takeP s).2.2.1 : Nat) : Int) = n ∧ (takeP s).2.2.2 = true := by
  unfold propB at h
  split at h
  · rename_i s n
    simp only [Bool.and_eq_true, decide_eq_true_eq] at h
    exact ⟨s, n, rfl, h.1.1, h.1.2, h.2⟩
  · cases h
theorem forms10_loop (N : Nat) (k0 : Option Res) (k1 : Bool → Option Res) (r : Res) (hk0 : k0 = some r) : ∀ (n : Nat) (m : List (AV × AV)) (o : Option (AV × AV)), m.length < n → (∀ p ∈ m, propB p = true) → law10PropsForms_L2 D N k0 k1 n m o = some r := by
  intro n
  induction n with
  | zero => intro m o h; omega
  | succ n ih =>
    intro m o h hm
    simp only [law10PropsForms_L2, law10PropsForms_L2s]
    cases hl : m.length with
    | zero => rw [hl] at h; exact hk0
    | succ j0 =>
      rw [← hl]
      have hne : Nat.beq m.length 0 = false := by rw [hl]; rfl
      rw [hne, cond_false]
      refine anyN_of (by omega) fun j hj => ?_
      rw [List.getElem?_eq_getElem hj]
      have hp := hm m[j] (List.getElem_mem hj)
      have hgo : ∀ o', law10PropsForms_L2 D N k0 k1 n (m.eraseIdx j) o' = some r := fun o' => ih _ o' (by rw [List.length_eraseIdx]; split <;> omega) fun p hp => hm p ((List.eraseIdx_sublist _ _).subset hp)
      generalize m[j] = p at hp
      obtain ⟨s, n', rfl, h1, h2, h3⟩ := propB_ok hp
      simp only [Option.bind_some, asS_s, asI_i]
      rw [D_Take s (by omega), h2, h3]
      have he : ((n' : Int) != n') = false := by simp
      show (bif !true then k1 false else bif (n' : Int) != n' then k1 false else law10PropsForms_L2 D N k0 k1 n (m.eraseIdx j) _) = some r
      rw [he]
      exact hgo _
theorem forms10_all (N : Nat) (hN : 100 ≤ N) (k0 : Option Res) (k1 : Bool → Option Res) (r : Res) (hk0 : k0 = some r) (m : List (AV × AV)) (o : Option (AV × AV)) (hl : decide (m.length ≤ 50) = true) (hm : m.all propB = true) : law10PropsForms_L2 D N k0 k1 N m o = some r :=
  forms10_loop N k0 k1 r hk0 N m o (by have := of_decide_eq_true hl; omega) fun p hp => List.all_eq_true.1 hm p hp

theorem bind_asI10 (n : Int) (K : Int → Option Res) : ((some (⟨.int .i64 n, false, []⟩ : Res)).bind fun r => asI .i64 r.v K) = K n := by simp [asI]
set_option maxHeartbeats 4000000 in
theorem D_PropsForms (i : Int) : D id_law10PropsForms [.int .i64 i] = some ⟨.bool true, false, []⟩ := by
  refine den_fn (N := 105) (F := law10PropsForms) rfl rfl ?_
  rw [law10PropsForms_eq]
  show law10PropsFormsr D 105 i = _
  unfold law10PropsFormsr
  rw [D_Within i 8 (by omega) (by omega)]
  have hk : i % 8 = 0 ∨ i % 8 = 1 ∨ i % 8 = 2 ∨ i % 8 = 3 ∨ i % 8 = 4 ∨ i % 8 = 5 ∨ i % 8 = 6 ∨ i % 8 = 7 := by omega
  rcases hk with hk | hk | hk | hk | hk | hk | hk | hk
  all_goals
    rw [hk]
    refine (bind_asI10 _ _).trans ?_
    iterate 15 refine (need_t10 (by decide +kernel)).trans ?_
    refine bad10_all 105 _ _ _ _ _ _ (by decide +kernel) (by decide +kernel) (by omega) (by decide +kernel) ?_
    iterate 11 refine (need_t10 (by decide +kernel)).trans ?_
    refine (need_t10 (by decide +kernel)).trans ?_
    refine forms10_all 105 (by omega) _ _ _ ?_ _ _ (by decide +kernel) (by decide +kernel)
    rw [D_wakes10]; rfl
end Go.Proofs.YtmpjohnbddnehaaDoor.Vf
