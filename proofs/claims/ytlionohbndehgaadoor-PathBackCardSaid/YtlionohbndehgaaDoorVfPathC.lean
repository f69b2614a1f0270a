
/- Paths: all steps. No condition but sizes. -/
import Derived.Test.YtlionohbndehgaaDoorVfPathB
namespace Go.Proofs.YtlionohbndehgaaDoor.Vf
set_option linter.unusedVariables false
set_option linter.unusedSimpArgs false

theorem stepP_len {s r : List UInt8} {x : Stp} (hs : s.length ≤ 100000) (h : stepP s = some (x, r)) : r.length < s.length := by
  obtain ⟨x', r', b, _, h2, h3⟩ := D_Step s hs
  rw [h] at h2
  cases b
  · cases h2
  · simp only [if_true, Option.some.injEq, Prod.mk.injEq] at h2
    rw [h2.2]; exact h3 rfl
/-- All the steps. -/
def stepsL : Nat → List UInt8 → Option (List Stp)
  | 0, _ => none
  | k + 1, s => if s = [] then some [] else match stepP s with
    | none => none
    | some (x, r) => (stepsL k r).map (x :: ·)
def firstP : List UInt8 → Option (List Stp × List UInt8)
  | [] => some ([], [])
  | c :: l => if c.toNat = 64 then (match l with
      | [] => none
      | d :: r => if d.toNat = 42 then some ([(1, [], -1)], r) else (numP (d :: r)).map fun p => ([(1, [], (p.1 : Int))], p.2))
    else some ([], c :: l)
def parseP (s : List UInt8) : List Stp × Int :=
  match (firstP s).bind fun p => (stepsL (p.2.length + 1) p.2).map fun l => p.1 ++ l with
  | none => ([], 6)
  | some l => if 32 < l.length ∨ l.any (fun x => decide (128 < x.2.1.length)) = true then ([], 10) else (l, 0)
theorem stepsL_fuel : ∀ (n m : Nat) (s : List UInt8), s.length ≤ 100000 → s.length < n → s.length < m → stepsL n s = stepsL m s
  | 0, m, s, _, h, _ => by omega
  | n + 1, 0, s, _, _, h => by omega
  | n + 1, m + 1, s, hs, h, h' => by
    simp only [stepsL]
    cases hx : stepP s with
    | none => rfl
    | some p =>
      obtain ⟨x, r⟩ := p
      have := stepP_len hs hx
      simp only
      rw [stepsL_fuel n m r (by omega) (by omega) (by omega)]

theorem D_First (s : List UInt8) (hs : s.length ≤ 100000) : ∃ (l : List Stp) (r : List UInt8) (b : Bool), D id_pathFirst [.str s] = some ⟨.tup [.row 3 (l.map stA), .str r, .bool b], true, []⟩ ∧ firstP s = (if b = true then some (l, r) else none) ∧ r.length ≤ s.length ∧ l.length ≤ 1 := by
  have wrap : ∀ (l : List Stp) (r : List UInt8) (b : Bool), pathFirstr D 0 s = some ⟨.tup [.row 3 (l.map stA), .str r, .bool b], true, []⟩ → D id_pathFirst [.str s] = some ⟨.tup [.row 3 (l.map stA), .str r, .bool b], true, []⟩ := by
    intro l r b h
    refine den_fn (N := 0) (F := pathFirst) rfl rfl ?_
    rw [pathFirst_eq]; exact h
  cases s with
  | nil =>
    refine ⟨[], [], true, wrap _ _ _ ?_, rfl, Nat.le_refl _, by simp⟩
    unfold pathFirstr
    rw [pre0]; rfl
  | cons c l =>
    simp only [List.length_cons] at hs
    simp only [firstP]
    by_cases h64 : c.toNat = 64
    · rw [if_pos h64]
      cases l with
      | nil =>
        have hn := D_Number [] (by simp)
        refine ⟨[(1, [], 0)], [], false, wrap _ _ _ ?_, rfl, by simp, by simp⟩
        unfold pathFirstr
        rw [pre1 64 c []]
        simp only [Option.bind_some, asSBT, asT_t, asC_c, asS_s, asB_b, asN_n]
        rw [decide_eq_true (show c.toNat = (64 : UInt8).toNat from h64), if_pos (show c.toNat = (64 : UInt8).toNat from h64), pre0, hn]
        rfl
      | cons d r =>
        have hn := D_Number (d :: r) (by simp only [List.length_cons] at hs ⊢; omega)
        dsimp only
        by_cases h42 : d.toNat = 42
        · refine ⟨[(1, [], -1)], r, true, wrap _ _ _ ?_, by rw [if_pos h42, if_pos rfl], by simp only [List.length_cons]; omega, by simp⟩
          unfold pathFirstr
          rw [pre1 64 c (d :: r)]
          simp only [Option.bind_some, asSBT, asT_t, asC_c, asS_s, asB_b, asN_n]
          rw [decide_eq_true (show c.toNat = (64 : UInt8).toNat from h64), if_pos (show c.toNat = (64 : UInt8).toNat from h64), pre1 42 d r]
          simp only [Option.bind_some, asSBT, asT_t, asC_c, asS_s, asB_b, asN_n]
          rw [decide_eq_true (show d.toNat = (42 : UInt8).toNat from h42), if_pos (show d.toNat = (42 : UInt8).toNat from h42)]
          rfl
        · rw [if_neg h42]
          have hrun : ∀ (x : Option (Nat × List UInt8)), numP (d :: r) = x → pathFirstr D 0 (c :: d :: r) = some ⟨.tup [.row 3 ([((1, [], ((x.getD (0, [])).1 : Int)) : Stp)].map stA), .str (x.getD (0, [])).2, .bool x.isSome], true, []⟩ := by
            intro x hx
            unfold pathFirstr
            rw [pre1 64 c (d :: r)]
            simp only [Option.bind_some, asSBT, asT_t, asC_c, asS_s, asB_b, asN_n]
            rw [decide_eq_true (show c.toNat = (64 : UInt8).toNat from h64), if_pos (show c.toNat = (64 : UInt8).toNat from h64), pre1 42 d r, hn, hx]
            simp only [Option.bind_some, asSBT, asT_t, asC_c, asS_s, asB_b, asN_n]
            rw [decide_eq_false (show ¬ d.toNat = (42 : UInt8).toNat from h42)]
            rfl
          cases hx : numP (d :: r) with
          | none => exact ⟨_, _, _, wrap _ _ _ (hrun none hx), rfl, by simp, by simp⟩
          | some p =>
            refine ⟨_, _, _, wrap _ _ _ (hrun (some p) hx), rfl, ?_, by simp⟩
            unfold numP at hx
            split at hx
            · simp only [Option.some.injEq] at hx
              rw [← hx]
              simp only [Option.getD_some, List.length_drop, List.length_cons]; omega
            · cases hx
    · rw [if_neg h64]
      refine ⟨[], c :: l, true, wrap _ _ _ ?_, rfl, Nat.le_refl _, by simp⟩
      unfold pathFirstr
      rw [pre1 64 c l]
      simp only [Option.bind_some, asSBT, asT_t, asC_c, asS_s, asB_b, asN_n]
      rw [decide_eq_false (show ¬ c.toNat = (64 : UInt8).toNat from h64)]
      rfl

theorem parse_loop (N : Nat) (k0 : Bool → List AV → Option Res) : ∀ (f : Nat) (s : List UInt8) (acc : List Stp), s.length ≤ 100000 → s.length + 1 < f → acc.length + s.length ≤ 200000 →
    (∃ l, stepsL f s = some l ∧ pathParse_L1 D N k0 f s true (acc.map stA) = k0 true ((acc ++ l).map stA)) ∨ (stepsL f s = none ∧ ∃ l, pathParse_L1 D N k0 f s true (acc.map stA) = k0 false l) := by
  intro f
  induction f with
  | zero => intro s acc _ h; omega
  | succ f ih =>
    intro s acc hs h ha
    simp only [stepsL]
    rw [show pathParse_L1 D N k0 (f + 1) s true (acc.map stA) = pathParse_L1s D N (pathParse_L1 D N k0 f) k0 s true (acc.map stA) from rfl]
    simp only [pathParse_L1s, cond_true]
    by_cases hn : s = []
    · subst hn
      exact .inl ⟨[], by rw [if_pos rfl], by rw [List.append_nil]; rfl⟩
    · have hb : (s == ([] : List UInt8)) = false := by cases s with | nil => exact absurd rfl hn | cons _ _ => rfl
      obtain ⟨x, r, b, h1, h2, h3⟩ := D_Step s hs
      rw [if_neg hn, hb, h1, h2]
      obtain ⟨k, nm, n⟩ := x
      simp only [Bool.not_false, cond_true, Option.bind_some, asASBT, asT_t, asC_c, stA, asA_a, asI_i, asS_s, asB_b, asN_n, List.drop_zero, List.take_length]
      rw [need_d (by simp; omega)]
      have hacc : (acc.map stA) ++ [AV.agg [AV.int .i64 (k : Nat), AV.str nm, AV.int .i64 n]] = (acc ++ [(k, nm, n)]).map stA := by simp [stA]
      rw [hacc]
      cases b
      · refine .inr ⟨rfl, ?_⟩
        obtain ⟨f, rfl⟩ : ∃ j, f = j + 1 := ⟨f - 1, by omega⟩
        exact ⟨_, rfl⟩
      · have hlt := h3 rfl
        rcases ih r (acc ++ [(k, nm, n)]) (by omega) (by omega) (by simp; omega) with ⟨l, g1, g2⟩ | ⟨g1, l, g2⟩
        · refine .inl ⟨(k, nm, n) :: l, ?_, ?_⟩
          · simp only [if_true, g1, Option.map_some]
          · rw [g2, List.append_assoc]; rfl
        · refine .inr ⟨by simp only [if_true, g1, Option.map_none], l, g2⟩
end Go.Proofs.YtlionohbndehgaaDoor.Vf
