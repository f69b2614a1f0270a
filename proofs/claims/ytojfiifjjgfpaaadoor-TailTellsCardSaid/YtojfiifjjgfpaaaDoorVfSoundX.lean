
/- What our contracts say is what calls come to; so what D answers is what calls come to. No condition. -/
import Derived.Test.YtojfiifjjgfpaaaDoorVfSound
namespace Go.Proofs.YtojfiifjjgfpaaaDoor
open Go.RowKit Go.Lib
set_option linter.unusedVariables false
set_option linter.unusedSimpArgs false
namespace Vf
set_option maxRecDepth 100000 in
theorem X_sound : RSound0 Tryd.prog gl X := by
  intro f vs r h Bo w args hG hBo hrel
  unfold X at h
  exact X0_sound f vs r h Bo w args hG hBo hrel

theorem xor_byte (x : UInt8) : ∃ y : UInt8, bits BinOp.xor .u8 (x.toNat : Int) 119 = (y.toNat : Int) := by
  have h : ∀ k : Fin 256, bits BinOp.xor .u8 ((k.1 : Nat) : Int) 119 = (((UInt8.ofNat k.1 ^^^ 119).toNat : Nat) : Int) := by decide +kernel
  have := h ⟨x.toNat, UInt8.toNat_lt x⟩
  exact ⟨_, this⟩
theorem setCell_block {w : World} {b o : Nat} {v : Value} {cells : Array Value} {e : TypeId} {fr : Nat × Nat} (h : w.heap[b]? = some (.cells cells e fr)) : w.setCell ⟨b, o, none⟩ v = setBlk w b (.cells (cells.setIfInBounds o v) e fr) := by
  have hb := lt_of_get h
  unfold World.setCell setBlk
  congr 1
  apply Array.ext_getElem?
  intro k
  rw [Array.getElem?_modify, Array.getElem?_setIfInBounds]
  by_cases hk : b = k
  · subst hk
    rw [if_pos rfl, if_pos rfl, if_pos hb, h]; rfl
  · simp [hk]
structure SpoilAt (w : World) (b o n c : Nat) (e : TypeId) (fr : Nat × Nat) (wr : World) : Prop where
  agree : Agree (fun y => y = b) w wr
  block : ∃ cells, wr.heap[b]? = some (.cells cells e fr) ∧ Free cells.size fr ∧ o + c ≤ cells.size ∧ Bytes8 cells o c
set_option maxRecDepth 100000 in
theorem spoil_walk (b o n c : Nat) (w : World) {cells : Array Value} {e : TypeId} {fr : Nat × Nat} (hn : n ≤ c) (hh : w.heap[b]? = some (.cells cells e fr)) (hf : Free cells.size fr) (ho : o + c ≤ cells.size) (h8 : Bytes8 cells o c) :
    Calls Tryd.prog id_keepSpoil #[.slice (some ⟨b, o, none⟩) n c] w fun e w' => e = .returned (.tuple #[]) ∧ Agree (fun y => y = b) w w' := by
  have hlim := h8.1
  have H0 : Hid (SpoilAt w b o n c e fr w) := ⟨Agree.refl _ _, cells, hh, hf, ho, h8⟩
  clear hh hf ho h8
  go_enter Tryd.func26, Tryd.ntmps26
  go_wp2
  go_loopw [10] (fun v10 wr => ∃ k : Nat, k ≤ c ∧ v10 = .int .i64 k ∧ Hid (SpoilAt w b o n c e fr wr)) (fun v10 _ => c - (Lib.intOf v10).toNat)
  case atStart => exact ⟨0, Nat.zero_le _, rfl, H0⟩
  case round =>
    obtain ⟨k, hk, rfl, HI⟩ := hrel
    by_cases hlt : k < c
    · obtain ⟨cells, m1, m2, m3, m4⟩ := HI.out.block
      obtain ⟨x, hx⟩ := m4.2 k hlt
      have hcell : wr.cell? ⟨b, o + k, none⟩ = some (.int .u8 x.toNat) := by rw [cell_of m1]; exact hx
      have hfz : wr.frozen? ⟨b, o + k, none⟩ = false := by
        simp only [World.frozen?, m1]
        exact m2.at (by omega)
      have e1 : IntKind.i64.wrap ((k : Int) + 1) = (k : Int) + 1 := by rw [IntKind.wrap_i64]; omega
      have hk0 : (k : Int) < (c : Int) := by omega
      have hkn : (0 : Int) ≤ (k : Int) := by omega
      clear m1 m2 m3 m4 hx
      go_wp2
      refine ⟨⟨k + 1, by omega, by rw [show ((k + 1 : Nat) : Int) = (k : Int) + 1 by omega], ?_⟩, ?_⟩
      · obtain ⟨cells, m1, m2, m3, m4⟩ := HI.out.block
        have hA := HI.out.agree
        have hset := setCell_block (v := .int .u8 (bits BinOp.xor .u8 x.toNat 119)) (o := o + k) m1
        rw [hset]
        refine ⟨hA.trans agree_setBlk, cells.setIfInBounds (o + k) (.int .u8 (bits BinOp.xor .u8 x.toNat 119)), heap_setBlk (lt_of_get m1), by simpa using m2, by simpa using m3, m4.1, fun j hj => ?_⟩
        rw [Array.getElem?_setIfInBounds]
        by_cases hjk : o + k = o + j
        · rw [if_pos hjk, if_pos (by omega)]
          obtain ⟨y, hy⟩ := xor_byte x
          exact ⟨y, by rw [hy]⟩
        · rw [if_neg hjk]; exact m4.2 j hj
      · show c - ((k : Int) + 1).toNat < c - ((k : Int)).toNat
        omega
    · have hge : ¬ (k : Int) < (c : Int) := by omega
      go_wp2
      exact ⟨rfl, _, results_none (by kernel_rfl) _ _ _, rfl, HI.out.agree⟩
theorem spoil_nil (w : World) : Calls Tryd.prog id_keepSpoil #[.slice none 0 0] w fun e w' => e = .returned (.tuple #[]) ∧ w' = w := by
  go_enter Tryd.func26, Tryd.ntmps26
  go_wp2
  refine wp_loop_rounds 1 ?_
  rw [rounds_succ]
  go_wp2
  exact ⟨rfl, _, results_none (by kernel_rfl) _ _ _, rfl, rfl⟩
theorem Inv.ref0 {C : Cx} {ρ : Rho} {w : World} {s : List UInt8} {args : List Value} (hl : args.length = 1) (hI : Inv C ρ ⟨envV 0 [.ref (.bytes s)], memV 0 [.ref (.bytes s)]⟩ args.toArray w) :
    ∃ v, args = [v] ∧ ((∃ b o c cells e fr, v = .slice (some ⟨b, o, none⟩) s.length c ∧ s.length ≤ c ∧ w.heap[b]? = some (.cells cells e fr) ∧ Free cells.size fr ∧ o + c ≤ cells.size ∧ Bytes8 cells o c ∧ (C.w0.heap.size ≤ b ∨ C.W b)) ∨ v = .slice none 0 0) := by
  obtain ⟨v, rfl⟩ : ∃ v, args = [v] := by
    cases args with
    | nil => cases hl
    | cons v r => cases r with
      | nil => exact ⟨v, rfl⟩
      | cons _ _ => simp at hl
  refine ⟨v, rfl, ?_⟩
  have h1 := (hI.env 0 (.own rT 0 s.length none) rfl).2
  have h1' : RelS w (bad C.Bo ρ [(rT, .bytes s false)]) ρ [(rT, .bytes s false)] (.own rT 0 s.length none) v := h1
  generalize hsl : s.length = m at h1' ⊢
  cases h1' with
  | own _ _ _ _ b o cp c blk hm hr hc hlc hn =>
    obtain rfl : Blk.bytes s false = blk := by simpa [get] using hm
    obtain ⟨b', o', cp', k1, k2, k3, k4⟩ := (hI.mem rT (.bytes s false) rfl).resolve_right fun hh => by rw [hr] at hh; cases hh.1
    rw [hr] at k1
    simp only [Option.some.injEq, Prod.mk.injEq] at k1
    obtain ⟨rfl, rfl, rfl⟩ := k1
    obtain ⟨cells, e, fr, m1, m2, m3, m4, m5, m6⟩ := k2
    refine .inl ⟨b, o, c, cells, e, fr, by simp, hlc, m1, m2, by omega, ⟨by have := m6.1; omega, fun j hj => m6.2 j (by omega)⟩, k4 rfl⟩
  | ownNil _ _ blk hm hr =>
    exact .inr rfl
set_option maxRecDepth 100000 in
theorem XR_sound : RSound Tryd.prog gl XR := by
  intro f vs r h C w args hG hw hl hI
  unfold XR at h
  cases hx : noRef X f vs with
  | some r' =>
    rw [hx] at h
    simp only [Option.some.injEq] at h
    subst h
    exact X_sound.up f vs r' hx C w args hG hw hl hI
  | none =>
    rw [hx] at h
    simp only at h
    cases hf : Nat.beq f id_keepSpoil
    · rw [hf] at h; cases h
    rw [hf] at h
    simp only [cond_true] at h
    have e := Nat.eq_of_beq_eq_true hf
    subst e
    split at h
    case h_2 => cases h
    rename_i s
    simp only [Option.some.injEq] at h
    subst h
    obtain ⟨v, rfl, hv⟩ := Inv.ref0 (by rw [hl]; rfl) hI
    have post : ∀ w', Agree C.W w w' → Post C C.ρ0 (tagsV 0 [AV.ref (AV.bytes s)]) w ⟨.tup [], false, [.nilI]⟩ (.tuple #[]) w' := fun w' hA =>
      ⟨rfl, fun _ => False, hA, fun _ h => h.elim, fun t blk h => by simp [tagsV, refBlk, outM, consO, get] at h, .tup [] [] .nil, fun h => by cases h⟩
    rcases hv with ⟨b, o, c, cells, e, fr, rfl, h1, h2, h3, h4, h5, h6⟩ | rfl
    · refine callsX_of (by kernel_rfl) (Calls.mono (spoil_walk b o s.length c w h1 h2 h3 h4 h5) fun e w' ⟨he, hA⟩ => ⟨_, he, post w' (hA.mono fun x hx e => ?_)⟩)
      subst e
      rcases h6 with h6 | h6
      · rw [hw] at h6; omega
      · exact h6
    · exact callsX_of (by kernel_rfl) (Calls.mono (spoil_nil w) fun e w' ⟨he, hw⟩ => ⟨_, he, post w' (by rw [hw]; exact Agree.refl _ _)⟩)

set_option maxRecDepth 100000 in
theorem D_sound : RSound0 Tryd.prog gl D := (den_sound (by kernel_rfl) XR_sound table_fit).plain

set_option maxRecDepth 100000 in
/-- A call of a function of the table, as the walk wants it. -/
theorem calls_of_D {f : Nat} {vs : List AV} {r : Res} (hb : callFits Tryd.prog f = true) (h : D f vs = some r) (w : World) (args : List Value) (hG : GOk gl (fun _ => False) w) (hrel : RelL w (fun _ => False) vs args) :
    Calls Tryd.prog f args.toArray w fun e w' => ∃ v, e = .returned v ∧ Agree (fun _ => False) w w' ∧ Rel w' (fun _ => False) r.v v := by
  have := D_sound f vs r h (fun _ => False) w args hG (fun _ h => h.elim) hrel
  unfold CallsX at this
  rw [run_callFunc hb] at this
  exact this.mono fun e w' ⟨v, h1, h2, h3, _⟩ => ⟨v, h1, h2, h3⟩
end Vf
end Go.Proofs.YtojfiifjjgfpaaaDoor
