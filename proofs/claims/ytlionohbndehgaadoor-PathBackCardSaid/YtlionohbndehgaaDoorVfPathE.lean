
/- Paths: Parse, and the chapter's example. No condition but sizes. -/
import Derived.Test.YtlionohbndehgaaDoorVfPathD
namespace Go.Proofs.YtlionohbndehgaaDoor.Vf
set_option linter.unusedVariables false
set_option linter.unusedSimpArgs false

theorem stepsL_count : ∀ (n : Nat) (s : List UInt8) (l : List Stp), s.length ≤ 100000 → stepsL n s = some l → l.length ≤ s.length
  | 0, s, l, _, h => by cases h
  | n + 1, s, l, hs, h => by
    simp only [stepsL] at h
    by_cases hn : s = []
    · rw [if_pos hn] at h; cases h; simp
    · rw [if_neg hn] at h
      cases hx : stepP s with
      | none => rw [hx] at h; cases h
      | some p =>
        obtain ⟨x, r⟩ := p
        rw [hx] at h
        have h1 := stepP_len hs hx
        simp only [Option.map_eq_some_iff] at h
        obtain ⟨l', h2, rfl⟩ := h
        have := stepsL_count n r l' (by omega) h2
        simp only [List.length_cons]; omega
theorem D_Parse (s : List UInt8) (hs : s.length ≤ 100000) : D id_pathParse [.str s] = some ⟨.tup [.row 3 ((parseP s).1.map stA), .int .i64 (parseP s).2], false, []⟩ := by
  refine den_fn (N := s.length + 10) (F := pathParse) rfl rfl ?_
  rw [pathParse_eq]
  show pathParser D _ s = _
  unfold pathParser
  obtain ⟨l, r, b, h1, h2, h3, h4⟩ := D_First s hs
  rw [h1]
  simp only [Option.bind_some, need_true, asRSBT, asT_t, asC_c, asR_r, asS_s, asB_b, asN_n]
  unfold parseP
  rw [h2]
  cases b
  · rfl
  · simp only [if_true, Option.bind_some]
    have hf := stepsL_fuel (r.length + 1) (s.length + 10) r (by omega) (by omega) (by omega)
    rw [hf]
    rcases parse_loop (s.length + 10) _ (s.length + 10) r l (by omega) (by omega) (by omega) with ⟨l', g1, g2⟩ | ⟨g1, l', g2⟩
    · refine (show _ = _ from g2).trans ?_
      have hc := stepsL_count _ _ _ (by omega) g1
      rw [g1]
      simp only [Option.map_some, Bool.not_true, cond_false, List.length_map, List.drop_zero]
      rw [show ((l ++ l').map stA).take (l ++ l').length = (l ++ l').map stA from List.take_of_length_le (by simp), D_ContainsFunc _ (by simp; omega)]
      by_cases h32 : 32 < (l ++ l').length
      · rw [cond_d (by omega), if_pos (.inl h32)]; rfl
      · rw [cond_nd (by omega)]
        simp only [Option.bind_some, asB_b]
        cases ha : (l ++ l').any fun x => decide (128 < x.2.1.length)
        · rw [if_neg (fun h => h.elim h32 (fun h => by first | exact Bool.noConfusion h | (rw [ha] at h; cases h)))]; rfl
        · rw [if_pos (.inr (by first | rfl | exact ha))]; rfl
    · refine (show _ = _ from g2).trans ?_
      rw [g1]; rfl
end Go.Proofs.YtlionohbndehgaaDoor.Vf
