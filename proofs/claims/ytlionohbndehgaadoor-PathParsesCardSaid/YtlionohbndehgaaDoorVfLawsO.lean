
/- The law PathParses comes to true, whatever the input. No condition. -/
import Derived.Test.YtlionohbndehgaaDoorVfPathH
namespace Go.Proofs.YtlionohbndehgaaDoor.Vf
set_option linter.unusedVariables false
set_option linter.unusedSimpArgs false

theorem parses_loop (N : Nat) (k0 : Bool → Option Res) (k1 : Option Res) (l : List Stp) (hl : l.length ≤ 1000000) : ∀ (n i : Nat), l.length < n + i → i ≤ l.length →
    law20PathParses_L1 D N k0 k1 n (l.map stA) (l.map stA) ((l.length : Nat) : Int) (i : Int) = k1 := by
  intro n
  induction n with
  | zero => intro i h _; omega
  | succ n ih =>
    intro i h hi
    simp only [law20PathParses_L1, law20PathParses_L1s]
    by_cases hlt : i < l.length
    · rw [cond_d (by omega)]
      have e1 : (l.map stA)[i]? = some (stA l[i]) := by rw [List.getElem?_map, List.getElem?_eq_getElem hlt]; rfl
      simp only [need_d (show (0 : Int) ≤ (i : Int) by omega), Int.toNat_natCast]
      rw [e1]
      simp only [stA, Option.bind_some, asISIA, asA_a, asC_c, asI_i, asS_s, asN_n, beq_self_eq_true, Bool.and_self, Bool.not_true, cond_false]
      rw [wrap_i64 (by omega) (by omega), show (i : Int) + 1 = ((i + 1 : Nat) : Int) by omega]
      exact ih (i + 1) (by omega) (by omega)
    · rw [cond_nd (by omega)]
theorem parseP_len {s : List UInt8} (hs : s.length ≤ 100000) : (parseP s).1.length ≤ 32 := by
  unfold parseP
  split
  · simp
  · split
    · simp
    · rename_i h
      simp only [not_or] at h
      dsimp only
      omega
theorem D_PathParses (s : List UInt8) (zs : List Int) (raw : Bool) : D id_law20PathParses [.str s, .row 1 (zs.map (AV.int .i64)), .bool raw] = some ⟨.bool true, false, []⟩ := by
  refine den_fn (N := 100) (F := law20PathParses) rfl rfl ?_
  rw [law20PathParses_eq]
  show law20PathParsesr D 100 s _ raw = _
  unfold law20PathParsesr
  obtain ⟨t, ht, et⟩ := D_text20 s zs raw
  rw [et]
  simp only [Option.bind_some, asS_s]
  rw [D_Parse t (by omega), D_ParsePath t (by omega)]
  simp only [pathR, Option.bind_some, asRIT, asT_t, asC_c, asR_r, asI_i, asN_n, D_wakes20, asB_b, List.length_map]
  rw [cond_beq rfl, cond_beq rfl]
  have hp := parseP_len (s := t) (by omega)
  exact (parses_loop 100 _ _ _ (by omega) 100 0 (by omega) (by omega)).trans rfl
end Go.Proofs.YtlionohbndehgaaDoor.Vf
