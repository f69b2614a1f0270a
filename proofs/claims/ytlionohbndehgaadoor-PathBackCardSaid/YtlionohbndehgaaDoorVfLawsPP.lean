
/- The law PathPrints comes to true, whatever the input. The steps' numbers are 64 bits wide. -/
import Derived.Test.YtlionohbndehgaaDoorVfPathJ
namespace Go.Proofs.YtlionohbndehgaaDoor.Vf
set_option linter.unusedVariables false
set_option linter.unusedSimpArgs false

/-- One more step, that is not out of bounds. -/
def Grows (go : List AV → Option Res) (acc : List StZ) (z : Option Res) : Prop := ∃ y : StZ, okZ y ∧ z = go ((acc ++ [y]).map stZ)
theorem grows_cond {go : List AV → Option Res} {acc : List StZ} {c : Bool} {x y : Option Res} (hx : Grows go acc x) (hy : Grows go acc y) : Grows go acc (bif c then x else y) := by
  cases c
  · exact hy
  · exact hx
theorem grows_leaf {go : List AV → Option Res} {acc : List StZ} (ha : acc.length ≤ 100) {k : Int} {s : List UInt8} {v : Int} (h : okZ (k, s, v)) :
    Grows go acc (need (decide ((((acc.map stZ).drop 0).take (acc.map stZ).length).length + [AV.agg [AV.int .i64 k, AV.str s, AV.int .i64 v]].length ≤ 1099511627776)) (go ((((acc.map stZ).drop 0).take (acc.map stZ).length) ++ [AV.agg [AV.int .i64 k, AV.str s, AV.int .i64 v]]))) := by
  refine ⟨(k, s, v), h, ?_⟩
  rw [need_d (by simp; omega), List.drop_zero, List.take_length, List.map_append]; rfl
theorem i64R_small {n : Int} (h0 : -1000000000 ≤ n) (h1 : n ≤ 1000000000) : i64R n := by unfold i64R; omega
set_option maxHeartbeats 4000000 in
theorem steps_step (N : Nat) (go : List AV → Bool → Int → List AV → Option Res) (k0 : List AV → Option Res) (l : List StZ) (hr : ∀ y ∈ l, i64R y.1 ∧ i64R y.2.2) (b : Bool) (acc : List StZ) (ha : acc.length ≤ 36) (i : Nat) (hi : i < l.length) (h36 : i < 36) :
    Grows (go (l.map stZ) b ((i + 1 : Nat) : Int)) acc (law20Steps_L1s D N go k0 (l.map stZ) b (i : Int) (acc.map stZ)) := by
  unfold law20Steps_L1s
  have e1 : (l.map stZ)[i]? = some (stZ l[i]) := by rw [List.getElem?_map, List.getElem?_eq_getElem hi]; rfl
  obtain ⟨hk, hv⟩ := hr l[i] (List.getElem_mem hi)
  have hlen : (((l.map stZ).length : Nat) : Int) = (l.length : Int) := by rw [List.length_map]
  rw [hlen, cond_d (by omega), cond_d (by omega)]
  generalize l[i] = x at e1 hk hv
  obtain ⟨k, nm, v⟩ := x
  simp only at hk hv
  have hw : IntKind.i64.wrap ((i : Int) + 1) = ((i + 1 : Nat) : Int) := by rw [wrap_i64 (by omega) (by omega)]; omega
  have hi0 : decide (0 ≤ (i : Int)) = true := decide_eq_true (by omega)
  have t140 : D id_keepText [AV.str nm, AV.int .i64 140] = some ⟨.str (nm.take 140), false, []⟩ := D_Text nm 140 (by omega)
  have w5 : D id_keepWithin [AV.int .i64 k, AV.int .i64 5] = some ⟨.int .i64 (k % 5), false, []⟩ := D_Within k 5 (by omega) (by omega)
  have wM : D id_keepWithin [AV.int .i64 v, AV.int .i64 1000000] = some ⟨.int .i64 (v % 1000000), false, []⟩ := D_Within v 1000000 (by omega) (by omega)
  have hk5 : IntKind.i64.wrap (1 + k % 5) = 1 + k % 5 := wrap_i64 (by omega) (by omega)
  have ht : (nm.take 140).length ≤ 200 := by rw [List.length_take]; omega
  have hn : ([] : List UInt8).length ≤ 200 := by simp
  have i4 : i64R 4 := i64R_small (by omega) (by omega)
  have i0 : i64R 0 := i64R_small (by omega) (by omega)
  have ik : i64R (1 + k % 5) := i64R_small (by omega) (by omega)
  have iM : i64R (v % 1000000) := i64R_small (by omega) (by omega)
  simp only [hi0, need_true, Int.toNat_natCast, e1, Option.bind_some, stZ, asISIA, asA_a, asC_c, asI_i, asS_s, asN_n, hw, w5, wM, t140, hk5]
  repeat' first
    | exact grows_leaf (by omega) ⟨by assumption, by assumption, by assumption⟩
    | with_reducible refine grows_cond ?_ ?_
    | rw [need_nd (show ¬ (6 : Nat) = 0 by decide)]
    | rw [need_nd (show ¬ (9 : Nat) = 0 by decide)]
theorem steps_loop (N : Nat) (l : List StZ) (hr : ∀ y ∈ l, i64R y.1 ∧ i64R y.2.2) (b : Bool) (k0 : List AV → Option Res) : ∀ (n i : Nat) (acc : List StZ), 37 ≤ n + i → i ≤ 36 → acc.length ≤ i → (∀ y ∈ acc, okZ y) →
    ∃ x : List StZ, x.length ≤ 36 ∧ (∀ y ∈ x, okZ y) ∧ law20Steps_L1 D N k0 n (l.map stZ) b (i : Int) (acc.map stZ) = k0 (x.map stZ) := by
  intro n
  induction n with
  | zero => intro i acc h; omega
  | succ n ih =>
    intro i acc h hi ha ho
    rw [show law20Steps_L1 D N k0 (n + 1) (l.map stZ) b (i : Int) (acc.map stZ) = law20Steps_L1s D N (law20Steps_L1 D N k0 n) k0 (l.map stZ) b (i : Int) (acc.map stZ) from rfl]
    by_cases hil : i < l.length ∧ i < 36
    · obtain ⟨y, hy, e⟩ := steps_step N (law20Steps_L1 D N k0 n) k0 l hr b acc (by omega) i hil.1 hil.2
      obtain ⟨x, h1, h2, h3⟩ := ih (i + 1) (acc ++ [y]) (by omega) (by omega) (by simp; omega) (fun z hz => by
        rcases List.mem_append.1 hz with hz | hz
        · exact ho z hz
        · rw [List.mem_singleton.1 hz]; exact hy)
      exact ⟨x, h1, h2, e.trans h3⟩
    · refine ⟨acc, by omega, ho, ?_⟩
      unfold law20Steps_L1s
      rw [show (((l.map stZ).length : Nat) : Int) = (l.length : Int) by rw [List.length_map]]
      by_cases hl : i < l.length
      · rw [cond_d (by omega), cond_nd (by omega)]
      · rw [cond_nd (by omega)]
theorem D_Steps (l : List StZ) (hr : ∀ y ∈ l, i64R y.1 ∧ i64R y.2.2) (b : Bool) : ∃ x : List StZ, x.length ≤ 36 ∧ (∀ y ∈ x, okZ y) ∧ ∃ o, D id_law20Steps [.row 3 (l.map stZ), .bool b] = some ⟨.row 3 (x.map stZ), o, []⟩ := by
  obtain ⟨x, h1, h2, h3⟩ := steps_loop 100 l hr b (fun l44 => some ⟨AV.row 3 ((l44.drop 0).take l44.length), true, []⟩) 100 0 [] (by omega) (by omega) (by simp) (by simp)
  refine ⟨x, h1, h2, true, ?_⟩
  refine den_fn (N := 100) (F := law20Steps) rfl rfl ?_
  rw [law20Steps_eq]
  refine Eq.trans (show _ = _ from h3) ?_
  rw [List.drop_zero, List.take_length]
end Go.Proofs.YtlionohbndehgaaDoor.Vf
