
/- The law DoubleEscapes comes to true, whatever the input. No condition but a byte's range. -/
import Derived.Test.YtpgcjcggnfagfaaDoorVfDoubleB
namespace Go.Proofs.YtpgcjcggnfagfaaDoor.Vf
set_option linter.unusedVariables false
set_option linter.unusedSimpArgs false

theorem need_tt6 {α : Type} {c : Bool} {x : Option α} (h : c = true) : need c x = x := by subst h; rfl
/-- The chapter's escapes by a letter. -/
def escM : List (AV × AV) := [(.int .u8 48, .str [0]), (.int .u8 97, .str [7]), (.int .u8 98, .str [8]), (.int .u8 116, .str [9]), (.int .u8 110, .str [10]), (.int .u8 118, .str [11]), (.int .u8 102, .str [12]), (.int .u8 114, .str [13]), (.int .u8 101, .str [27]), (.int .u8 34, .str [34]), (.int .u8 47, .str [47]), (.int .u8 92, .str [92]), (.int .u8 32, .str [32]), (.int .u8 78, .str [194, 133]), (.int .u8 95, .str [194, 160]), (.int .u8 76, .str [226, 128, 168]), (.int .u8 80, .str [226, 128, 169])]
def escEnt (p : AV × AV) : Bool := match p with
  | (.int .u8 n, .str s) => decide (0 ≤ n) && decide (n < 256) && decide (s.length ≤ 1000) && dtakeP [34, 120, 92, UInt8.ofNat (Int.toNat n), 121, 34] == some (([120] ++ s) ++ [121], 6)
  | _ => false
theorem escEnt_ok {p : AV × AV} (h : escEnt p = true) : ∃ (n : Int) (s : List UInt8), p = (.int .u8 n, .str s) ∧ 0 ≤ n ∧ n < 256 ∧ s.length ≤ 1000 ∧ dtakeP [34, 120, 92, UInt8.ofNat (Int.toNat n), 121, 34] = some (([120] ++ s) ++ [121], 6) := by
  unfold escEnt at h
  split at h
  · rename_i n s
    simp only [Bool.and_eq_true, decide_eq_true_eq, beq_iff_eq] at h
    exact ⟨n, s, rfl, h.1.1.1, h.1.1.2, h.1.2, h.2⟩
  · cases h
theorem escM_all : escM.all escEnt = true := by decide +kernel
def escLook (k : Nat) : Bool := match lookK (.int .u8 (k : Nat)) (.str []) escM, dtakeP [34, 92, UInt8.ofNat k, 34] with
  | (.str s, true), some (v, n) => v == s && n == 4
  | (.str [], false), none => true
  | _, _ => false
theorem escLook_all : ∀ k : Fin 256, escLook k.1 = true := by decide +kernel
theorem escs6_loop (N : Nat) (k0 : Option Res) (k1 : Bool → Option Res) (r : Res) (hk0 : k0 = some r) : ∀ (n : Nat) (m : List (AV × AV)) (o : Option (AV × AV)), m.length < n → (∀ p ∈ m, escEnt p = true) → law06DoubleEscapes_L1 D N k0 k1 n m o = some r := by
  intro n
  induction n with
  | zero => intro m o h; omega
  | succ n ih =>
    intro m o h hm
    simp only [law06DoubleEscapes_L1, law06DoubleEscapes_L1s]
    cases hl : m.length with
    | zero => exact hk0
    | succ j0 =>
      rw [← hl]
      have hne : Nat.beq m.length 0 = false := by rw [hl]; rfl
      rw [hne, cond_false]
      refine anyN_of (by omega) fun j hj => ?_
      rw [List.getElem?_eq_getElem hj]
      have hp := hm m[j] (List.getElem_mem hj)
      have hgo : ∀ o', law06DoubleEscapes_L1 D N k0 k1 n (m.eraseIdx j) o' = some r := fun o' => ih _ o' (by rw [List.length_eraseIdx]; split <;> omega) fun p hp => hm p ((List.eraseIdx_sublist _ _).subset hp)
      generalize m[j] = p at hp
      obtain ⟨c, s, rfl, h0, h1, h2, h3⟩ := escEnt_ok hp
      simp only [Option.bind_some, asS_s, asI_i]
      rw [need_d2 h0 h1, D_Take6 _ (by simp), h3]
      simp only [dR, Option.getD_some, Option.isSome_some, Option.bind_some, asSIBT, asT_t, asC_c, asS_s, asI_i, asB_b, asN_n, Bool.not_true, cond_false]
      rw [need_d (by simp; omega), need_d (by simp; omega), beq_self_eq_true]
      simp only [Bool.not_true, cond_false]
      exact hgo _
theorem escs6_all (k0 : Option Res) (k1 : Bool → Option Res) (r : Res) (hk0 : k0 = some r) (o : Option (AV × AV)) : law06DoubleEscapes_L1 D 100 k0 k1 100 escM o = some r :=
  escs6_loop 100 k0 k1 r hk0 100 escM o (by decide) fun p hp => List.all_eq_true.1 escM_all p hp

set_option maxHeartbeats 4000000 in
theorem D_DoubleEscapes (c : Int) (h0 : 0 ≤ c) (h1 : c ≤ 255) : D id_law06DoubleEscapes [.int .u8 c] = some ⟨.bool true, false, []⟩ := by
  refine den_fn (N := 100) (F := law06DoubleEscapes) rfl rfl ?_
  rw [law06DoubleEscapes_eq]
  show law06DoubleEscapesr D 100 c = _
  unfold law06DoubleEscapesr
  iterate 17 refine (need_tt6 (by decide +kernel)).trans ?_
  refine (need_tt6 rfl).trans ?_
  obtain ⟨k, rfl⟩ : ∃ k : Fin 256, c = ((k.1 : Nat) : Int) := ⟨⟨c.toNat, by omega⟩, by simp only; omega⟩
  have hk := k.2
  have hl := escLook_all k
  unfold escLook at hl
  show asS (lookK (.int .u8 ((k.1 : Nat) : Int)) (.str []) escM).1 _ = _
  show asS (lookK (.int .u8 ((k.1 : Nat) : Int)) (.str []) escM).1 (fun s1 =>
    need (decide (0 ≤ ((k.1 : Nat) : Int)) && decide (((k.1 : Nat) : Int) < 256)) <|
    (D id_doubleTake [AV.bytes [34, 92, UInt8.ofNat (Int.toNat ((k.1 : Nat) : Int)), 34]]).bind fun r1 =>
    asSIBT r1.v fun s2 i2 b1 =>
    bif !(b1 == (lookK (.int .u8 ((k.1 : Nat) : Int)) (.str []) escM).2) then
      (some (⟨AV.bool false, false, []⟩ : Res))
    else
      bif b1 then
        (bif !(s2 == s1) then
          (some ⟨AV.bool false, false, []⟩)
        else
          bif (i2 : Int) != 4 then
            (some ⟨AV.bool false, false, []⟩)
          else
            law06DoubleEscapes_L1 D 100
              (
                (D id_law06Wakes []).bind fun r3 =>
                asB r3.v fun b5 =>
                some ⟨AV.bool b5, false, []⟩)
              (fun b6 =>
                some ⟨AV.bool b6, false, []⟩)
              100 escM (none : Option (AV × AV)))
      else
        law06DoubleEscapes_L1 D 100
          (
            (D id_law06Wakes []).bind fun r4 =>
            asB r4.v fun b7 =>
            some ⟨AV.bool b7, false, []⟩)
          (fun b8 =>
            some ⟨AV.bool b8, false, []⟩)
          100 escM (none : Option (AV × AV))) = _
  have w1 : ((D id_law06Wakes []).bind fun r3 => asB r3.v fun b5 => (some (⟨AV.bool b5, false, []⟩ : Res))) = some ⟨.bool true, false, []⟩ := by rw [D_wakes06]; rfl
  generalize lookK (.int .u8 ((k.1 : Nat) : Int)) (.str []) escM = q at hl
  have hT : D id_doubleTake [.bytes [34, 92, UInt8.ofNat (Int.toNat ((k.1 : Nat) : Int)), 34]] = dR (dtakeP [34, 92, UInt8.ofNat k.1, 34]) := by
    rw [Int.toNat_natCast]; exact D_Take6 _ (by simp)
  split at hl
  · rename_i s v n hdt
    simp only [Bool.and_eq_true, beq_iff_eq] at hl
    obtain ⟨rfl, rfl⟩ := hl
    simp only [asS_s]
    rw [need_d2 (by omega) (by omega), hT, hdt]
    simp only [dR, Option.getD_some, Option.isSome_some, Option.bind_some, asSIBT, asT_t, asC_c, asS_s, asI_i, asB_b, asN_n, beq_self_eq_true, Bool.not_true, cond_false, cond_true]
    exact escs6_all _ _ _ w1 _
  · rename_i hdt
    simp only [asS_s]
    rw [need_d2 (by omega) (by omega), hT, hdt]
    simp only [dR, Option.getD_none, Option.isSome_none, Option.bind_some, asSIBT, asT_t, asC_c, asS_s, asI_i, asB_b, asN_n, beq_self_eq_true, Bool.not_true, cond_false]
    exact escs6_all _ _ _ w1 _
  · cases hl
end Go.Proofs.YtpgcjcggnfagfaaDoor.Vf
