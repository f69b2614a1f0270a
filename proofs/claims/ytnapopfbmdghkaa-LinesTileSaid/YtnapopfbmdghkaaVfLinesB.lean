
/- Lines lie one behind the other; the law LinesTile comes to true, whatever the input. No condition. -/
import Derived.Test.YtnapopfbmdghkaaVfLines
namespace Go.Proofs.Ytnapopfbmdghkaa.Vf
set_option linter.unusedVariables false
set_option linter.unusedSimpArgs false

/-- Lines one behind the other, from a place to the end. -/
def Tiled (b : List UInt8) : Nat → List Ln → Prop
  | a, [] => a = b.length
  | a, x :: r => x.f = a ∧ a < b.length ∧ a ≤ x.t ∧ x.t ≤ x.n ∧ x.n ≤ b.length ∧ a < x.n ∧ (∀ j, a ≤ j → j < x.t → b.getD j 0 ≠ 10) ∧
    ((b.take x.n).drop x.t = [10] ∨ (b.take x.n).drop x.t = [13, 10] ∨ ((b.take x.n).drop x.t = [] ∧ r = [])) ∧ Tiled b x.n r

theorem drop_take1 {b : List UInt8} {i : Nat} (h : i < b.length) : (b.take (i + 1)).drop i = [b.getD i 0] := by
  have hl : i < (b.take (i + 1)).length := by rw [List.length_take]; omega
  rw [drop_step hl, List.drop_eq_nil_of_le (by rw [List.length_take]; omega)]
  simp only [List.getD, List.getElem?_take, if_pos (Nat.lt_succ_self i)]

theorem tiled_split (b : List UInt8) : ∀ (k a : Nat), a ≤ b.length → b.length < a + k → Tiled b a (splitFrom b k a) := by
  intro k
  induction k with
  | zero => intro a h1 h2; omega
  | succ k ih =>
    intro a h1 h2
    simp only [splitFrom]
    by_cases hlt : a < b.length
    · rw [if_pos hlt]
      have hge := Lib.indexByte_ge (b.drop a) 10
      by_cases hneg : Lib.indexByte (b.drop a) 10 < 0
      · rw [if_pos hneg]
        refine ⟨rfl, hlt, Nat.le_of_lt hlt, Nat.le_refl _, Nat.le_refl _, hlt, fun j h3 h4 e => ?_, .inr (.inr ⟨by simp, rfl⟩), rfl⟩
        have h4' : j < b.length := h4
        refine Lib.indexByte_none (l := b.drop a) (c := 10) (by omega) (j - a) ?_
        rw [List.getElem?_drop, show a + (j - a) = j by omega, ← e, List.getElem?_eq_getElem h4']
        simp [List.getD, List.getElem?_eq_getElem h4']
      · rw [if_neg hneg]
        obtain ⟨m, hm⟩ : ∃ m : Nat, Lib.indexByte (b.drop a) 10 = m := ⟨_, (Int.toNat_of_nonneg (by omega)).symm⟩
        obtain ⟨hat, hbef⟩ := Lib.indexByte_some hm
        have hmlt := (List.getElem?_eq_some_iff.1 hat).1
        rw [List.length_drop] at hmlt
        rw [List.getElem?_drop] at hat
        rw [hm]
        simp only [Int.toNat_natCast]
        have h10 : b.getD (a + m) 0 = 10 := by simp only [List.getD, hat, Option.getD_some]
        have before : ∀ j, a ≤ j → j < a + m → b.getD j 0 ≠ 10 := by
          intro j h3 h4 e
          refine hbef (j - a) (by omega) ?_
          rw [List.getElem?_drop, show a + (j - a) = j by omega, ← e]
          simp only [List.getD, List.getElem?_eq_getElem (show j < b.length by omega), Option.getD_some]
        by_cases hc : 0 < m ∧ b[a + m - 1]? = some 13
        · rw [if_pos hc]
          refine ⟨rfl, hlt, ?_, ?_, ?_, ?_, fun j h3 h4 => before j h3 ?_, .inr (.inl ?_), ih (a + m + 1) (by omega) (by omega)⟩
          · show a ≤ a + m - 1; omega
          · show a + m - 1 ≤ a + m + 1; omega
          · show a + m + 1 ≤ b.length; omega
          · show a < a + m + 1; omega
          · have : j < a + m - 1 := h4
            omega
          · show (b.take (a + m + 1)).drop (a + m - 1) = [13, 10]
            have hl : a + m - 1 < (b.take (a + m + 1)).length := by rw [List.length_take]; omega
            rw [drop_step hl, show a + m - 1 + 1 = a + m by omega, drop_take1 (by omega), h10]
            simp only [List.getD, List.getElem?_take, if_pos (show a + m - 1 < a + m + 1 by omega), hc.2, Option.getD_some]
        · rw [if_neg hc]
          refine ⟨rfl, hlt, ?_, ?_, ?_, ?_, before, .inl ?_, ih (a + m + 1) (by omega) (by omega)⟩
          · show a ≤ a + m; omega
          · show a + m ≤ a + m + 1; omega
          · show a + m + 1 ≤ b.length; omega
          · show a < a + m + 1; omega
          · show (b.take (a + m + 1)).drop (a + m) = [10]
            rw [drop_take1 (by omega), h10]
    · rw [if_neg hlt]
      show a = b.length
      omega

theorem bomAt_le (b : List UInt8) : bomAt b ≤ b.length := by unfold bomAt; split <;> omega
theorem tiled (b : List UInt8) : Tiled b (bomAt b) (splitL b) := tiled_split b _ _ (bomAt_le b) (by omega)
theorem Tiled.ge {b : List UInt8} : ∀ {l : List Ln} {a : Nat}, Tiled b a l → ∀ y ∈ l, a ≤ y.f
  | [], _, _, y, hy => by cases hy
  | x :: r, a, h, y, hy => by
    rcases List.mem_cons.1 hy with rfl | hy
    · exact Nat.le_of_eq h.1.symm
    · have := h.2.2.2.2.2.2.2.2.ge y hy
      have := h.2.2.2.2.2.1
      omega
theorem Tiled.inside {b : List UInt8} : ∀ {l : List Ln} {a : Nat}, Tiled b a l → ∀ y ∈ l, y.f ≤ y.t ∧ y.t ≤ y.n ∧ y.n ≤ b.length ∧ y.f < b.length
  | [], _, _, y, hy => by cases hy
  | x :: r, a, h, y, hy => by
    rcases List.mem_cons.1 hy with rfl | hy
    · obtain ⟨h1, h2, h3, h4, h5, _⟩ := h; omega
    · exact h.2.2.2.2.2.2.2.2.inside y hy

/-- On which line a byte of a line lies. -/
theorem Tiled.at {b : List UInt8} {a : Nat} {pre r : List Ln} {x : Ln} (h : Tiled b a (x :: r)) (hp : ∀ y ∈ pre, y.f ≤ a) (k : Nat) (h1 : x.f ≤ k) (h2 : k < x.t) : atL (pre ++ x :: r) (k : Int) = ((pre.length : Int), (k : Int) - x.f) := by
  have hx : (pre ++ x :: r)[pre.length]? = some x := by rw [List.getElem?_append_right (Nat.le_refl _)]; simp
  rcases atDown_spec (pre ++ x :: r) (k : Int) _ (Nat.le_refl _) with ⟨_, h3⟩ | ⟨i, y, g1, g2, g3, g4, g5⟩
  · have := h3 pre.length x (by simp) hx
    omega
  · have hi : i = pre.length := by
      rcases Nat.lt_trichotomy i pre.length with hl | he | hg
      · have := g5 pre.length x hl (by simp) hx
        omega
      · exact he
      · exfalso
        rw [List.getElem?_append_right (by omega)] at g2
        obtain ⟨j, hj⟩ : ∃ j, i - pre.length = j + 1 := ⟨i - pre.length - 1, by omega⟩
        rw [hj, List.getElem?_cons_succ] at g2
        have := h.2.2.2.2.2.2.2.2.ge y (List.mem_of_getElem? g2)
        have := h.2.2.2.1
        omega
    subst hi
    rw [hx] at g2
    simp only [Option.some.injEq] at g2
    subst g2
    exact g4

theorem asIIT_av {α : Type} (x y : Int) (K : Int → Int → Option α) : asIIT (.tup [.int .i64 x, .int .i64 y]) K = K x y := rfl

theorem tile_inner (b : List UInt8) (hb : b.length ≤ 1000000) (pre r : List Ln) (x : Ln) (a : Nat) (h : Tiled b a (x :: r)) (hp : ∀ y ∈ pre, y.f ≤ a) (hs : ∀ y ∈ pre ++ x :: r, y.f ≤ 2000000) (hl : (pre ++ x :: r).length ≤ 2000000) (N : Nat) (k0) (k1) (z u : Int) : ∀ (n k : Nat), x.t < k + n → x.f ≤ k → k ≤ x.t →
    law02LinesTile_L2 D N k0 k1 n b ((pre ++ x :: r).map Ln.av) (pre.length : Nat) k z u x.f x.t x.n = k1 b ((pre ++ x :: r).map Ln.av) z u x.f x.t x.n := by
  intro n
  induction n with
  | zero => intro k h1 h2 h3; omega
  | succ n ih =>
    intro k h1 h2 h3
    simp only [law02LinesTile_L2, law02LinesTile_L2s]
    by_cases hk : k < x.t
    · have hin := h.inside x (.head _)
      rw [cond_d (by omega), need_d (by omega)]
      simp only [Int.toNat_natCast]
      have h10 : ((b.getD k 0).toNat : Int) ≠ 10 := by
        intro e
        refine h.2.2.2.2.2.2.1 k (by have := h.1; omega) hk (UInt8.toNat_inj.1 ?_)
        show _ = 10
        omega
      rw [get_bn (by omega), cond_ne h10, D_At _ _ hs hl (by omega), h.at hp k h2 hk]
      simp only [Option.bind_some, asIIT_av]
      rw [cond_beq rfl, wrap_i64 (by omega) (by omega), cond_beq rfl, wrap_i64 (by omega) (by omega), show (k : Int) + 1 = ((k + 1 : Nat) : Int) by omega]
      exact ih (k + 1) (by omega) (by omega) (by omega)
    · rw [cond_nd (by omega)]

theorem tile_loop (b : List UInt8) (hb : b.length ≤ 1000000) (N : Nat) (hN : b.length < N) (k0) (k1) (l : List Ln) (hs : ∀ y ∈ l, y.f ≤ 2000000) (hl : l.length ≤ 2000000) : ∀ (r pre : List Ln) (a n : Nat), l = pre ++ r → Tiled b a r → (∀ y ∈ pre, y.f ≤ a) → r.length < n →
    law02LinesTile_L1 D N k0 k1 n b (l.map Ln.av) a (l.length : Nat) (pre.length : Nat) = k1 b (b.length : Nat) := by
  intro r
  induction r with
  | nil =>
    intro pre a n e h hp hn
    obtain ⟨n, rfl⟩ : ∃ m, n = m + 1 := ⟨n - 1, by simp at hn; omega⟩
    simp only [law02LinesTile_L1, law02LinesTile_L1s]
    have : a = b.length := h
    subst this
    rw [cond_nd (by rw [e]; simp)]
  | cons x r ih =>
    intro pre a n e h hp hn
    obtain ⟨n, rfl⟩ : ∃ m, n = m + 1 := ⟨n - 1, by simp at hn; omega⟩
    simp only [law02LinesTile_L1, law02LinesTile_L1s]
    have hx : (l.map Ln.av)[pre.length]? = some x.av := by rw [e, List.getElem?_map, List.getElem?_append_right (Nat.le_refl _)]; simp
    have hlen : l.length = pre.length + (r.length + 1) := by rw [e]; simp
    obtain ⟨h1, h2, h3, h4, h5, h6, h7, h8, h9⟩ := h
    have inner : ∀ z u : Int, law02LinesTile_L2 D N k0 (fun s l i j f t m => law02LinesTile_L1 D N k0 k1 n s l m i (IntKind.i64.wrap (j + 1))) N b (l.map Ln.av) (pre.length : Nat) x.f (l.length : Nat) (pre.length : Nat) x.f x.t x.n = k1 b (b.length : Nat) := by
      intro z u
      have := tile_inner b hb pre r x a ⟨h1, h2, h3, h4, h5, h6, h7, h8, h9⟩ hp (e ▸ hs) (e ▸ hl) N k0 (fun s l i j f t m => law02LinesTile_L1 D N k0 k1 n s l m i (IntKind.i64.wrap (j + 1))) (l.length : Nat) (pre.length : Nat) N x.f (by omega) (Nat.le_refl _) (by omega)
      rw [← e] at this
      rw [this, wrap_i64 (by omega) (by omega), show (pre.length : Int) + 1 = (((pre ++ [x]).length : Nat) : Int) by simp]
      refine ih (pre ++ [x]) x.n n (by rw [e]; simp) h9 (fun y hy => ?_) (by simp at hn; omega)
      rcases List.mem_append.1 hy with hy | hy
      · have := hp y hy; omega
      · simp only [List.mem_singleton] at hy; subst hy; omega
    rw [cond_d (by omega), need_d (by omega)]
    simp only [Int.toNat_natCast, hx, Option.bind_some, asIIIA_av]
    rw [cond_beq (by omega), cond_nd (by omega), cond_nd (by omega), cond_nd (by omega), cond_ne (by omega), need_d2 (by omega) (by omega), need_d2 (by omega) (by omega)]
    rcases h8 with h8 | h8 | ⟨h8, rfl⟩
    · rw [h8]; exact inner 0 0
    · rw [h8]; exact inner 0 0
    · rw [h8, wrap_i64 (by omega) (by omega), cond_nd (by simp only [List.length_map]; simp at hlen; omega)]; exact inner 0 0

theorem D_LinesTile (s : List UInt8) : D id_law02LinesTile [.bytes s] = some ⟨.bool true, false, []⟩ := by
  refine den_fn (N := 302) (F := law02LinesTile) rfl rfl ?_
  rw [law02LinesTile_eq]
  show law02LinesTiler D 302 s = _
  unfold law02LinesTiler
  rw [show (300 : Int) = ((300 : Nat) : Int) from rfl, D_Cut s 300 (by omega)]
  have hb : (s.take 300).length ≤ 300 := by simp; omega
  generalize s.take 300 = b at hb
  simp only [Option.bind_some, asY_y]
  rw [D_Split b (by omega)]
  simp only [Option.bind_some, asR_r, List.length_map, D_wakes02, asB_b]
  have hs : ∀ y ∈ splitL b, y.f ≤ 2000000 := fun y hy => by have := (tiled b).inside y hy; omega
  have hl : (splitL b).length ≤ 301 := by have := splitFrom_len b (b.length + 1) (bomAt b); unfold splitL; omega
  have fin : ∀ (a : Int), a = bomAt b → law02LinesTile_L1 D 302 (fun b8 => some (⟨AV.bool b8, false, []⟩ : Res)) (fun s12 i43 => bif (i43 : Int) == ((s12.length : Nat) : Int) then some ⟨AV.bool true, false, []⟩ else some ⟨AV.bool false, false, []⟩) 302 b ((splitL b).map Ln.av) a ((splitL b).length : Nat) 0 = some ⟨.bool true, false, []⟩ := by
    intro a e
    subst e
    have := tile_loop b (by omega) 302 (by omega) (fun b8 => some (⟨AV.bool b8, false, []⟩ : Res)) (fun s12 i43 => bif (i43 : Int) == ((s12.length : Nat) : Int) then some ⟨AV.bool true, false, []⟩ else some ⟨AV.bool false, false, []⟩) (splitL b) hs (by omega) (splitL b) [] (bomAt b) 302 rfl (tiled b) (fun y hy => by cases hy) (by omega)
    refine Eq.trans this ?_
    rw [cond_eq rfl]
  have no : ¬ (3 ≤ b.length ∧ b.take 3 = [239, 187, 191]) → (0 : Int) = bomAt b := fun h => by unfold bomAt; rw [if_neg h]; rfl
  by_cases h3 : 3 ≤ b.length
  · rw [cond_d (by omega), need_d (by omega), need_d (by omega), need_d (by omega)]
    have t3 : b.take 3 = [b.getD 0 0, b.getD 1 0, b.getD 2 0] := by
      match b, h3 with
      | x :: y :: z :: r, _ => rfl
    simp only [show Int.toNat 0 = 0 from rfl, show Int.toNat 1 = 1 from rfl, show Int.toNat 2 = 2 from rfl]
    rw [get_bn (by omega), get_bn (by omega), get_bn (by omega)]
    have u : ∀ (c : UInt8) (k : Nat), k < 256 → c.toNat ≠ k → c ≠ UInt8.ofNat k := fun c k hk h e => h (by rw [e]; simp; omega)
    by_cases g0 : (b.getD 0 0).toNat = 239
    · rw [cond_eq (by omega)]
      by_cases g1 : (b.getD 1 0).toNat = 187
      · rw [cond_eq (by omega)]
        by_cases g2 : (b.getD 2 0).toNat = 191
        · rw [cond_eq (by omega)]
          refine fin 3 ?_
          unfold bomAt
          rw [if_pos ⟨h3, by rw [t3, UInt8.toNat_inj.1 (show (b.getD 0 0).toNat = (239 : UInt8).toNat from g0), UInt8.toNat_inj.1 (show (b.getD 1 0).toNat = (187 : UInt8).toNat from g1), UInt8.toNat_inj.1 (show (b.getD 2 0).toNat = (191 : UInt8).toNat from g2)]⟩]; rfl
        · rw [cond_ne (by omega)]
          exact fin 0 (no fun h => by rw [t3] at h; simp only [List.cons.injEq] at h; exact u _ 191 (by omega) g2 h.2.2.2.1)
      · rw [cond_ne (by omega)]
        exact fin 0 (no fun h => by rw [t3] at h; simp only [List.cons.injEq] at h; exact u _ 187 (by omega) g1 h.2.2.1)
    · rw [cond_ne (by omega)]
      exact fin 0 (no fun h => by rw [t3] at h; simp only [List.cons.injEq] at h; exact u _ 239 (by omega) g0 h.2.1)
  · rw [cond_nd (by omega)]
    exact fin 0 (no fun h => h3 h.1)
end Go.Proofs.Ytnapopfbmdghkaa.Vf
