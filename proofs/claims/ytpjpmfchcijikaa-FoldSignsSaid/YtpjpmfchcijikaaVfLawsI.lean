
/- The law FoldSigns comes to true, whatever the input. No condition but what an int holds. -/
import Derived.Test.YtpjpmfchcijikaaVfLawsG
namespace Go.Proofs.Ytpjpmfchcijikaa.Vf
set_option linter.unusedVariables false
set_option linter.unusedSimpArgs false

/-- What no sign of a header is. -/
def Stops (T : List UInt8) : Prop := T = [] ∨ ((T.getD 0 0).toNat ≠ 45 ∧ (T.getD 0 0).toNat ≠ 43 ∧ ¬ (49 ≤ (T.getD 0 0).toNat ∧ (T.getD 0 0).toNat ≤ 57))
theorem hdr_stop (S K : Bool) (d : Nat) (T : List UInt8) (h : Stops T) : hdr S K d T = (S, K, d, 0) := by
  cases T with
  | nil => rfl
  | cons c r =>
    rcases h with h | ⟨h1, h2, h3⟩
    · cases h
    · simp only [List.getD_cons_zero] at h1 h2 h3
      rw [hdr_cons, if_neg (fun h => h1 h.1), if_neg (fun h => h2 h.1), if_neg (fun h => h3 h.1)]

theorem head_at (f : UInt8) (hf : f.toNat = 124 ∨ f.toNat = 62) (l : List UInt8) (S K : Bool) (d n : Nat) (h : hdr false false 0 l = (S, K, d, n)) (hl : l.length ≤ 100) :
    D id_foldTakeHeader [.bytes (f :: l)] = some ⟨.tup [.agg [.bool (decide (f.toNat = 62)), .bool S, .bool K, .int .i64 d], .int .i64 ((1 + n : Nat) : Int), .bool true], false, []⟩ := by
  rw [D_TakeHeader _ (by simp; omega)]
  unfold headR
  rw [if_neg]
  · have e : (f :: l).drop 1 = l := rfl
    rw [e, h]; rfl
  · rintro (h | ⟨h1, h2⟩)
    · cases h
    · simp only [List.getD_cons_zero] at h1 h2
      rcases hf with hf | hf
      · exact h1 hf
      · exact h2 hf

theorem asAIBT_av {α : Type} (x y z : Bool) (i j : Int) (b : Bool) (K : Bool → Bool → Bool → Int → Int → Bool → Option α) : asAIBT (.tup [.agg [.bool x, .bool y, .bool z, .int .i64 i], .int .i64 j, .bool b]) K = K x y z i j b := rfl

/-- The law's last part. -/
noncomputable def finT (X T s2 : List UInt8) (F : Bool) (dg : Int) : Option Res :=
    (need (decide (X.length + T.length ≤ 9223372036854775807)) <|
     (D id_foldTakeHeader [AV.bytes (X ++ T)]).bind fun r4 => asAIBT r4.v fun b2 b3 b4 i4 i5 b5 =>
     need (decide ((([120] : List UInt8) : List UInt8).length + X.length ≤ 9223372036854775807)) <|
     (D id_foldTakeHeader [AV.bytes (([120] : List UInt8) ++ X)]).bind fun r5 => asAIBT r5.v fun b6 b7 b8 i6 i7 b9 =>
     (D id_foldTakeHeader [AV.bytes ((([124, 45, 45] : List UInt8).drop 0).take 3)]).bind fun r6 => asAIBT r6.v fun b10 b11 b12 i8 i9 b13 =>
     (D id_foldTakeHeader [AV.bytes ((([62, 49, 50] : List UInt8).drop 0).take 3)]).bind fun r7 => asAIBT r7.v fun b14 b15 b16 i10 i11 b17 =>
     bif b5 then (bif (i5 : Int) == ((X.length : Nat) : Int) then (bif b2 == F then (bif b3 == (s2 == ([45] : List UInt8)) then (bif b4 == (s2 == ([43] : List UInt8)) then (bif (i4 : Int) == dg then (bif !b9 then (bif b13 then (bif (i9 : Int) == 2 then (bif b17 then (bif (i11 : Int) == 2 then
       ((D id_law07Wakes []).bind fun r8 => asB r8.v fun b18 => some (⟨AV.bool b18, false, []⟩ : Res))
       else some ⟨AV.bool false, false, []⟩) else some ⟨AV.bool false, false, []⟩) else some ⟨AV.bool false, false, []⟩) else some ⟨AV.bool false, false, []⟩) else some ⟨AV.bool false, false, []⟩) else some ⟨AV.bool false, false, []⟩) else some ⟨AV.bool false, false, []⟩) else some ⟨AV.bool false, false, []⟩) else some ⟨AV.bool false, false, []⟩) else some ⟨AV.bool false, false, []⟩) else some ⟨AV.bool false, false, []⟩)
theorem signs_fin (X T s2 : List UInt8) (F : Bool) (dg : Nat) (hX : X.length ≤ 10) (hT : T.length ≤ 10) (h : D id_foldTakeHeader [.bytes (X ++ T)] = some ⟨.tup [.agg [.bool F, .bool (s2 == [45]), .bool (s2 == [43]), .int .i64 dg], .int .i64 (X.length : Nat), .bool true], false, []⟩) :
    finT X T s2 F dg = some ⟨.bool true, false, []⟩ := by
  unfold finT
  have h1 : D id_foldTakeHeader [AV.bytes (([120] : List UInt8) ++ X)] = some ⟨.tup [.agg [.bool false, .bool false, .bool false, .int .i64 0], .int .i64 0, .bool false], false, []⟩ := by
    rw [D_TakeHeader _ (by simp; omega)]
    unfold headR
    rw [if_pos (.inr ⟨show (120 : UInt8).toNat ≠ 124 by decide, show (120 : UInt8).toNat ≠ 62 by decide⟩)]
  have h2 : D id_foldTakeHeader [AV.bytes ((([124, 45, 45] : List UInt8).drop 0).take 3)] = some ⟨.tup [.agg [.bool false, .bool true, .bool false, .int .i64 0], .int .i64 2, .bool true], false, []⟩ := head_at 124 (.inl rfl) [45, 45] true false 0 1 rfl (by simp)
  have h3 : D id_foldTakeHeader [AV.bytes ((([62, 49, 50] : List UInt8).drop 0).take 3)] = some ⟨.tup [.agg [.bool true, .bool false, .bool false, .int .i64 1], .int .i64 2, .bool true], false, []⟩ := head_at 62 (.inr rfl) [49, 50] false false 1 1 rfl (by simp)
  rw [need_d (by omega), h, h1, h2, h3]
  simp only [Option.bind_some, asAIBT_av]
  rw [need_d (by simp; omega)]
  simp only [beq_self_eq_true, cond_true, Bool.not_false, D_wakes07, Option.bind_some, asB_b]

theorem stops_blank (t : List UInt8) : Stops ([32] ++ t) := .inr ⟨show (32 : UInt8).toNat ≠ 45 by decide, show (32 : UInt8).toNat ≠ 43 by decide, show ¬ (49 ≤ (32 : UInt8).toNat ∧ (32 : UInt8).toNat ≤ 57) by decide⟩

/-- The signs of a header, in either order. -/
theorem hdr_signs (s2 : List UInt8) (hs : s2 = [] ∨ s2 = [45] ∨ s2 = [43]) (b : List UInt8) (dg : Nat) (hb : (b = [] ∧ dg = 0) ∨ ∃ c : UInt8, b = [c] ∧ c.toNat = 48 + dg ∧ 1 ≤ dg ∧ dg ≤ 9) (T : List UInt8) (hT : Stops T) :
    hdr false false 0 (s2 ++ b ++ T) = (s2 == [45], s2 == [43], dg, (s2 ++ b).length) ∧ hdr false false 0 (b ++ s2 ++ T) = (s2 == [45], s2 == [43], dg, (b ++ s2).length) := by
  have d45 : ∀ (d : Nat) (r : List UInt8), hdr false false d (45 :: r) = ((hdr true false d r).1, (hdr true false d r).2.1, (hdr true false d r).2.2.1, (hdr true false d r).2.2.2 + 1) := fun d r => by
    rw [hdr_cons, if_pos ⟨rfl, rfl, rfl⟩]
  have d43 : ∀ (d : Nat) (r : List UInt8), hdr false false d (43 :: r) = ((hdr false true d r).1, (hdr false true d r).2.1, (hdr false true d r).2.2.1, (hdr false true d r).2.2.2 + 1) := fun d r => by
    rw [hdr_cons, if_neg (fun h => absurd h.1 (by decide)), if_pos ⟨rfl, rfl, rfl⟩]
  have hst := fun S K d => hdr_stop S K d T hT
  rcases hb with ⟨rfl, rfl⟩ | ⟨c, rfl, hc, h1, h9⟩
  · rcases hs with rfl | rfl | rfl
    · simp only [List.nil_append, List.append_nil, hst]; exact ⟨rfl, rfl⟩
    · simp only [List.nil_append, List.append_nil, List.cons_append, d45, hst]; exact ⟨rfl, rfl⟩
    · simp only [List.nil_append, List.append_nil, List.cons_append, d43, hst]; exact ⟨rfl, rfl⟩
  · have dc : ∀ (S K : Bool) (r : List UInt8), hdr S K 0 (c :: r) = ((hdr S K dg r).1, (hdr S K dg r).2.1, (hdr S K dg r).2.2.1, (hdr S K dg r).2.2.2 + 1) := fun S K r => by
      rw [hdr_cons, if_neg (fun h => by omega), if_neg (fun h => by omega), if_pos ⟨by omega, rfl⟩, show c.toNat - 48 = dg by omega]
    rcases hs with rfl | rfl | rfl
    · simp only [List.nil_append, List.append_nil, List.cons_append, dc, hst]; exact ⟨rfl, rfl⟩
    · simp only [List.nil_append, List.append_nil, List.cons_append, dc, d45, hst]; exact ⟨rfl, rfl⟩
    · simp only [List.nil_append, List.append_nil, List.cons_append, dc, d43, hst]; exact ⟨rfl, rfl⟩

noncomputable def tailT (X t s2 : List UInt8) (F : Bool) (dg : Int) : Option Res :=
  bif decide (((t.length : Nat) : Int) > 0) then
    (need (decide ((0 : Int) ≤ 0)) <|
    (t[Int.toNat 0]?).bind fun c1 =>
    bif ((c1.toNat : Int) : Int) == 45 then
      (need (decide ((([32] : List UInt8) : List UInt8).length + t.length ≤ 9223372036854775807)) <| finT X ([32] ++ t) s2 F dg)
    else
      need (decide ((0 : Int) ≤ 0)) <|
      (t[Int.toNat 0]?).bind fun c2 =>
      bif ((c2.toNat : Int) : Int) == 43 then
        (need (decide ((([32] : List UInt8) : List UInt8).length + t.length ≤ 9223372036854775807)) <| finT X ([32] ++ t) s2 F dg)
      else
        need (decide ((0 : Int) ≤ 0)) <|
        (t[Int.toNat 0]?).bind fun c3 =>
        bif decide (((c3.toNat : Int) : Int) ≥ 49) then
          (need (decide ((0 : Int) ≤ 0)) <|
          (t[Int.toNat 0]?).bind fun c4 =>
          bif decide (((c4.toNat : Int) : Int) ≤ 57) then
            (need (decide ((([32] : List UInt8) : List UInt8).length + t.length ≤ 9223372036854775807)) <| finT X ([32] ++ t) s2 F dg)
          else finT X t s2 F dg)
        else finT X t s2 F dg)
  else finT X t s2 F dg

theorem signs_tail (X t s2 : List UInt8) (F : Bool) (dg : Nat) (hX : X.length ≤ 10) (ht : t.length ≤ 5) (h : ∀ T, Stops T → T.length ≤ 6 → D id_foldTakeHeader [.bytes (X ++ T)] = some ⟨.tup [.agg [.bool F, .bool (s2 == [45]), .bool (s2 == [43]), .int .i64 dg], .int .i64 (X.length : Nat), .bool true], false, []⟩) : tailT X t s2 F dg = some ⟨.bool true, false, []⟩ := by
  have f1 : finT X ([32] ++ t) s2 F dg = some ⟨.bool true, false, []⟩ := signs_fin X ([32] ++ t) s2 F dg hX (by simp; omega) (h _ (stops_blank t) (by simp; omega))
  have f2 : Stops t → finT X t s2 F dg = some ⟨.bool true, false, []⟩ := fun hs => signs_fin X t s2 F dg hX (by omega) (h _ hs (by omega))
  have n32 : decide ((([32] : List UInt8) : List UInt8).length + t.length ≤ 9223372036854775807) = true := by simp; omega
  unfold tailT
  rw [n32]
  cases t with
  | nil => exact f2 (.inl rfl)
  | cons c r =>
    rw [cond_d (by simp)]
    simp only [need_d (show (0 : Int) ≤ 0 by omega), show Int.toNat 0 = 0 from rfl, List.getElem?_cons_zero, Option.bind_some, need_true]
    have f3 : ¬ (c.toNat = 45) → ¬ (c.toNat = 43) → ¬ (49 ≤ c.toNat ∧ c.toNat ≤ 57) → finT X (c :: r) s2 F dg = some ⟨.bool true, false, []⟩ := fun h1 h2 h3 => f2 (.inr ⟨h1, h2, h3⟩)
    by_cases h45 : c.toNat = 45
    · rw [cond_eq (by omega)]; exact f1
    · rw [cond_ne (by omega)]
      by_cases h43 : c.toNat = 43
      · rw [cond_eq (by omega)]; exact f1
      · rw [cond_ne (by omega)]
        by_cases h49 : 49 ≤ c.toNat
        · rw [cond_d (by omega)]
          by_cases h57 : c.toNat ≤ 57
          · rw [cond_d (by omega)]; exact f1
          · rw [cond_nd (by omega)]; exact f3 h45 h43 (by omega)
        · rw [cond_nd (by omega)]; exact f3 h45 h43 (by omega)

theorem tdiv_range (v : Int) (k : Nat) (hk : 1 ≤ k) (h0 : -9223372036854775808 ≤ v) (h1 : v ≤ 9223372036854775807) : -9223372036854775808 ≤ Int.tdiv v k ∧ Int.tdiv v k ≤ 9223372036854775807 := by
  have e : ∀ u : Int, 0 ≤ u → 0 ≤ u / k ∧ u / k ≤ u := fun u hu => ⟨Int.ediv_nonneg hu (by omega), Int.ediv_le_self _ hu⟩
  rcases Int.le_total 0 v with h | h
  · rw [Int.tdiv_eq_ediv_of_nonneg h]; have := e v h; omega
  · have h2 : Int.tdiv v k = -((-v) / k) := by
      have := Int.neg_tdiv (-v) k
      rw [Int.neg_neg, Int.tdiv_eq_ediv_of_nonneg (a := -v) (by omega)] at this
      exact this
    have := e (-v) (by omega)
    omega

set_option maxHeartbeats 2000000 in
theorem D_FoldSigns (v : Int) (turn : Bool) (s : List UInt8) (h0 : -9223372036854775808 ≤ v) (h1 : v ≤ 9223372036854775807) : D id_law07FoldSigns [.int .i64 v, .bool turn, .str s] = some ⟨.bool true, false, []⟩ := by
  refine den_fn (N := 0) (F := law07FoldSigns) rfl rfl ?_
  rw [law07FoldSigns_eq]
  show law07FoldSignsr D 0 v turn s = _
  unfold law07FoldSignsr
  have q2 := tdiv_range v 2 (by omega) h0 h1
  have q6 := tdiv_range v 6 (by omega) h0 h1
  rw [show ((2 : Nat) : Int) = 2 from rfl] at q2
  rw [show ((6 : Nat) : Int) = 6 from rfl] at q6
  rw [show (!decide ((2 : Nat) = 0)) = true from rfl, show (!decide ((6 : Nat) = 0)) = true from rfl, wrap_i64 q2.1 q2.2, wrap_i64 q6.1 q6.2]
  simp only [need_true]
  rw [D_Within _ 3 (by omega) (by omega), D_Within _ 10 (by omega) (by omega)]
  have g0 := Int.emod_nonneg (Int.tdiv v 2) (b := 3) (by omega)
  have g1 := Int.emod_lt_of_pos (Int.tdiv v 2) (b := 3) (by omega)
  have g2 := Int.emod_nonneg (Int.tdiv v 6) (b := 10) (by omega)
  have g3 := Int.emod_lt_of_pos (Int.tdiv v 6) (b := 10) (by omega)
  obtain ⟨k, hk⟩ : ∃ k : Nat, Int.tdiv v 2 % 3 = k := ⟨(Int.tdiv v 2 % 3).toNat, by omega⟩
  obtain ⟨dg, hdg⟩ : ∃ k : Nat, Int.tdiv v 6 % 10 = k := ⟨(Int.tdiv v 6 % 10).toNat, by omega⟩
  have hk3 : k < 3 := by omega
  have hd10 : dg < 10 := by omega
  rw [hk, hdg]
  clear g0 g1 g2 g3 hk hdg q2 q6
  simp only [Option.bind_some, asI_i, Int.toNat_natCast]
  rw [need_d (by omega)]
  obtain ⟨s2, hs2, hg⟩ : ∃ s2 : List UInt8, (s2 = [] ∨ s2 = [45] ∨ s2 = [43]) ∧ ([AV.str ([] : List UInt8), AV.str ([45] : List UInt8), AV.str ([43] : List UInt8)] : List AV)[k]? = some (.str s2) := by
    rcases (show k = 0 ∨ k = 1 ∨ k = 2 by omega) with rfl | rfl | rfl
    · exact ⟨[], .inl rfl, rfl⟩
    · exact ⟨[45], .inr (.inl rfl), rfl⟩
    · exact ⟨[43], .inr (.inr rfl), rfl⟩
  have hsl : s2.length ≤ 1 := by rcases hs2 with rfl | rfl | rfl <;> decide
  rw [hg, show (5 : Int) = ((5 : Nat) : Int) from rfl, D_Text s 5 (by omega)]
  have ht : (s.take 5).length ≤ 5 := by rw [List.length_take]; omega
  generalize s.take 5 = t at ht
  have ew : IntKind.u8.wrap (IntKind.i64.wrap (48 + (dg : Int))) = ((48 + dg : Nat) : Int) := by
    rw [wrap_i64 (by omega) (by omega), wrap_u8 (by omega) (by omega)]; omega
  simp only [Option.bind_some, asS_s, ew, Int.toNat_natCast]
  have hc : (UInt8.ofNat (48 + dg)).toNat = 48 + dg := by simp; omega
  generalize UInt8.ofNat (48 + dg) = c at hc
  -- a header of these signs
  have head : ∀ (f : UInt8) (hf : f.toNat = 124 ∨ f.toNat = 62) (b : List UInt8), ((b = [] ∧ dg = 0) ∨ (b = [c] ∧ 1 ≤ dg)) → ∀ T, Stops T → T.length ≤ 6 →
      D id_foldTakeHeader [.bytes (([f] ++ (s2 ++ b)) ++ T)] = some ⟨.tup [.agg [.bool (decide (f.toNat = 62)), .bool (s2 == [45]), .bool (s2 == [43]), .int .i64 dg], .int .i64 (([f] ++ (s2 ++ b)).length : Nat), .bool true], false, []⟩ ∧
      D id_foldTakeHeader [.bytes (([f] ++ (b ++ s2)) ++ T)] = some ⟨.tup [.agg [.bool (decide (f.toNat = 62)), .bool (s2 == [45]), .bool (s2 == [43]), .int .i64 dg], .int .i64 (([f] ++ (b ++ s2)).length : Nat), .bool true], false, []⟩ := by
    intro f hf b hb T hT hTl
    have hbl : b.length ≤ 1 := by rcases hb with ⟨rfl, _⟩ | ⟨rfl, _⟩ <;> simp
    obtain ⟨x1, x2⟩ := hdr_signs s2 hs2 b dg (hb.imp_right fun ⟨e, h⟩ => ⟨c, e, hc, h, by omega⟩) T hT
    have l1 : (s2 ++ b ++ T).length ≤ 100 := by simp; omega
    have l2 : (b ++ s2 ++ T).length ≤ 100 := by simp; omega
    have y1 := head_at f hf _ _ _ _ _ x1 l1
    have y2 := head_at f hf _ _ _ _ _ x2 l2
    have e1 : ([f] ++ (s2 ++ b)) ++ T = f :: (s2 ++ b ++ T) := by simp
    have e2 : ([f] ++ (b ++ s2)) ++ T = f :: (b ++ s2 ++ T) := by simp
    have e3 : ([f] ++ (s2 ++ b)).length = 1 + (s2 ++ b).length := by simp; omega
    have e4 : ([f] ++ (b ++ s2)).length = 1 + (b ++ s2).length := by simp; omega
    rw [e1, e2, e3, e4]
    exact ⟨y1, y2⟩
  by_cases hd0 : 0 < dg
  · rw [cond_d (by omega), need_d2 (by omega) (by omega)]
    have h62 := head 62 (.inr rfl) [c] (.inr ⟨rfl, hd0⟩)
    have h124 := head 124 (.inl rfl) [c] (.inr ⟨rfl, hd0⟩)
    cases turn <;> cases hF : (Int.tmod v 2 != 0)
    · simp only [cond_false]
      rw [need_d (by simp; omega), need_d (by simp; omega)]
      exact signs_tail ([124] ++ (s2 ++ [c])) t s2 false dg (by simp; omega) ht (fun T h h' => (h124 T h h').1)
    · simp only [cond_false, cond_true]
      rw [need_d (by simp; omega), need_d (by simp; omega)]
      exact signs_tail ([62] ++ (s2 ++ [c])) t s2 true dg (by simp; omega) ht (fun T h h' => (h62 T h h').1)
    · simp only [cond_false, cond_true]
      rw [need_d (by simp; omega), need_d (by simp; omega)]
      exact signs_tail ([124] ++ ([c] ++ s2)) t s2 false dg (by simp; omega) ht (fun T h h' => (h124 T h h').2)
    · simp only [cond_false, cond_true]
      rw [need_d (by simp; omega), need_d (by simp; omega)]
      exact signs_tail ([62] ++ ([c] ++ s2)) t s2 true dg (by simp; omega) ht (fun T h h' => (h62 T h h').2)
  · rw [cond_nd (by omega)]
    have hz : dg = 0 := by omega
    have h62 := head 62 (.inr rfl) [] (.inl ⟨rfl, hz⟩)
    have h124 := head 124 (.inl rfl) [] (.inl ⟨rfl, hz⟩)
    cases turn <;> cases hF : (Int.tmod v 2 != 0)
    · simp only [cond_false]
      rw [need_d (by simp; omega), need_d (by simp; omega)]
      exact signs_tail ([124] ++ (s2 ++ [])) t s2 false dg (by simp; omega) ht (fun T h h' => (h124 T h h').1)
    · simp only [cond_false, cond_true]
      rw [need_d (by simp; omega), need_d (by simp; omega)]
      exact signs_tail ([62] ++ (s2 ++ [])) t s2 true dg (by simp; omega) ht (fun T h h' => (h62 T h h').1)
    · simp only [cond_false, cond_true]
      rw [need_d (by simp; omega), need_d (by simp; omega)]
      exact signs_tail ([124] ++ ([] ++ s2)) t s2 false dg (by simp; omega) ht (fun T h h' => (h124 T h h').2)
    · simp only [cond_false, cond_true]
      rw [need_d (by simp; omega), need_d (by simp; omega)]
      exact signs_tail ([62] ++ ([] ++ s2)) t s2 true dg (by simp; omega) ht (fun T h h' => (h62 T h h').2)
end Go.Proofs.Ytpjpmfchcijikaa.Vf
