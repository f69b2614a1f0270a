
/- The law of chapter 6 on runes by number. -/
import Derived.Test.YtpgcjcggnfagfaaDoorVfLawsX
namespace Go.Proofs.YtpgcjcggnfagfaaDoor.Vf
set_option linter.unusedVariables false
set_option linter.unusedSimpArgs false

theorem hexL_drop (j : Nat) : ∀ k n : Nat, (hexL (j + k) n).drop j = hexL k n
  | 0, n => by rw [List.drop_eq_nil_of_le (by rw [hexL_length]; omega)]; rfl
  | k + 1, n => by
    show (hexL (j + k) (n / 16) ++ [hexC (n % 16)]).drop j = hexL k (n / 16) ++ [hexC (n % 16)]
    rw [List.drop_append_of_le_length (by rw [hexL_length]; omega), hexL_drop j k]
def low16 (c : UInt8) : UInt8 := if 65 ≤ c.toNat then UInt8.ofNat (c.toNat + 32) else c
theorem low16_hex {c : UInt8} (h : capHex c) : hexV (low16 c) = hexV c := by
  unfold capHex at h
  unfold low16
  by_cases h1 : 65 ≤ c.toNat
  · rw [if_pos h1]
    unfold hexV
    rw [ofNat8 (by omega), if_neg (by omega), if_neg (by omega), if_pos (by omega), if_neg (by omega), if_pos (by omega)]
    congr 1
  · rw [if_neg h1]
theorem numL_low : ∀ (l : List UInt8) (a : Nat), (∀ c ∈ l, capHex c) → numL (l.map low16) a = numL l a
  | [], a, _ => rfl
  | c :: l, a, h => by
    simp only [List.map_cons, numL]
    rw [low16_hex (h c (List.mem_cons_self ..))]
    cases hexV c with
    | none => rfl
    | some d => exact numL_low l _ fun c hc => h c (List.mem_cons_of_mem _ hc)

theorem low_loop (h : List UInt8) (hl : h.length = 8) (hc : ∀ c ∈ h, capHex c) (n : Int) (N : Nat) (k0 : Int → Nat → List UInt8 → Option Res) : ∀ (f i : Nat), 8 < f + i → i ≤ 8 →
    law06DoubleRunes_L1 D N k0 f n 8 8 i ((h.take i).map low16 ++ h.drop i) = k0 n 8 (h.map low16) := by
  intro f
  induction f with
  | zero => intro i h1; omega
  | succ f ih =>
    intro i h1 hi
    simp only [law06DoubleRunes_L1, law06DoubleRunes_L1s]
    by_cases hlt : i < 8
    · have hil : i < h.length := by omega
      have hcc := hc _ (mem_getD h i hil)
      have hd := drop_step hil
      have hlen : ((h.take i).map low16).length = i := by rw [List.length_map, List.length_take]; omega
      have hlen2 : ((h.take i).map low16 ++ h.drop i).length = 8 := by rw [List.length_append, hlen, List.length_drop]; omega
      have hget : ((h.take i).map low16 ++ h.drop i)[i]? = some (h.getD i 0) := by
        rw [List.getElem?_append_right (by omega), hlen, Nat.sub_self, hd]; rfl
      have hnext : (h.take (i + 1)).map low16 ++ h.drop (i + 1) = (h.take i).map low16 ++ (low16 (h.getD i 0) :: h.drop (i + 1)) := by
        have : h.take (i + 1) = h.take i ++ [h.getD i 0] := by
          rw [List.take_add_one, List.getElem?_eq_getElem hil, List.getD_eq_getElem?_getD, List.getElem?_eq_getElem hil]; rfl
        rw [this, List.map_append, List.append_assoc]; rfl
      have hset : ((h.take i).map low16 ++ h.drop i).set i (low16 (h.getD i 0)) = (h.take (i + 1)).map low16 ++ h.drop (i + 1) := by
        rw [hnext, List.set_append_right _ _ (by omega), hlen, Nat.sub_self, hd]; rfl
      have w1 : IntKind.i64.wrap ((i : Int) + 1) = ((i + 1 : Nat) : Int) := by rw [wrap_i64 (by omega) (by omega)]; omega
      rw [cond_d (by omega)]
      simp only [need_d2 (show (0 : Int) ≤ (i : Int) by omega) (show (i : Int) < ((8 : Nat) : Int) by omega), Int.toNat_natCast, Nat.zero_add, hget, Option.bind_some, w1]
      have nx := ih (i + 1) (by omega) (by omega)
      generalize h.getD i 0 = c at *
      unfold capHex at hcc
      by_cases h65 : 65 ≤ c.toNat
      · have hlow : low16 c = UInt8.ofNat (c.toNat + 32) := by unfold low16; rw [if_pos h65]
        rw [cond_d (by omega), wrap_u8 (by omega) (by omega), need_d2 (by omega) (by omega)]
        have nn : (Nat.beq 0 0 && decide (i < ((h.take i).map low16 ++ h.drop i).length) && Nat.beq 1 1) = true := by rw [hlen2, decide_eq_true hlt]; rfl
        rw [nn, need_true, show ((c.toNat : Int) + 32).toNat = c.toNat + 32 by omega, ← hlow, hset]
        exact nx
      · have hlow : low16 c = c := by unfold low16; rw [if_neg h65]
        rw [cond_nd (by omega)]
        rw [hnext, hlow, ← hd] at nx
        exact nx
    · rw [cond_nd (by omega), show i = 8 by omega, List.take_of_length_le (by omega), List.drop_eq_nil_of_le (by omega), List.append_nil]

theorem take_hex (c : UInt8) (k u : Nat) (w : List UInt8) (hc : inOf inTab c.toNat = none) (hk : digs c.toNat = k) (hk0 : k ≠ 0) (hw : w.length = k) (hn : numL w 0 = some u) :
    dtakeP (([34, 92, c] ++ w) ++ [34]) = if u < 55296 ∨ (57343 < u ∧ u ≤ 1114111) then some (Lib.encodeRune (u : Int), k + 4) else none := by
  show dtakeP (34 :: (92 :: (c :: (w ++ [34])))) = _
  have he : escL (c :: (w ++ [34])) = if u < 55296 ∨ (57343 < u ∧ u ≤ 1114111) then some (u, k + 1) else none := by
    simp only [escL]
    rw [hc, hk]
    simp only
    rw [if_neg hk0, if_neg (by rw [List.length_append]; omega), List.take_left' hw, hn]
  simp only [dtakeP]
  rw [if_pos t34, dt_cons, if_neg (by decide), if_neg (by decide), if_pos t92, he]
  by_cases hu : u < 55296 ∨ (57343 < u ∧ u ≤ 1114111)
  · rw [if_pos hu, if_pos hu]
    simp only [List.drop_succ_cons, List.nil_append]
    rw [List.drop_left' hw, dt_cons, if_neg (by decide), if_pos t34, show 1 + 1 + (k + 1) + 1 = k + 4 by omega]
  · rw [if_neg hu, if_neg hu]
theorem take_short (d : UInt8) : dtakeP (([34, 92, 120] ++ [d]) ++ [34]) = none := by
  show dtakeP (34 :: (92 :: (120 :: (d :: [34])))) = _
  have he : escL (120 :: (d :: [34])) = none := by
    simp only [escL]
    rw [show inOf inTab (120 : UInt8).toNat = none from rfl]
    simp only [show digs (120 : UInt8).toNat = 2 from rfl]
    rw [if_neg (by decide), if_neg (by simp)]
    simp only [List.take_succ_cons, List.take_zero, numL]
    cases hexV d <;> rfl
  simp only [dtakeP]
  rw [if_pos t34, dt_cons, if_neg (by decide), if_neg (by decide), if_pos t92, he]

set_option maxHeartbeats 4000000 in
set_option maxRecDepth 100000 in
theorem runes_tree (n : Nat) (hn : n < 4294967296) (h : List UInt8) (hl : h.length = 8) (h8 : numL h 0 = some n) (h4 : n ≤ 65535 → numL (h.drop 4) 0 = some n) (h2 : n ≤ 255 → numL (h.drop 6) 0 = some n) :
    (need (decide ((([34, 92, 85] : List UInt8) : List UInt8).length + h.length ≤ 9223372036854775807)) <|
    need (decide ((([34, 92, 85] : List UInt8) ++ h : List UInt8).length + (([34] : List UInt8) : List UInt8).length ≤ 9223372036854775807)) <|
    (D id_doubleTake [AV.bytes ((([34, 92, 85] : List UInt8) ++ h) ++ ([34] : List UInt8))]).bind fun r63 =>
    asSIBT r63.v fun s38 i42 b63 =>
    bif decide ((n : Int) ≤ 1114111) then
      (bif decide ((n : Int) < 55296) then
        (bif !(b63 == true) then
          (some ⟨AV.bool false, false, []⟩)
        else
          bif b63 then
            (bif !(s38 == ((Utf8.encode (IntKind.i32.wrap (n : Int))).data.toList)) then
              (some ⟨AV.bool false, false, []⟩)
            else
              bif (i42 : Int) != 12 then
                (some ⟨AV.bool false, false, []⟩)
              else
                bif decide ((n : Int) > 65535) then
                  ((D id_law06Wakes []).bind fun r64 =>
                  asB r64.v fun b64 =>
                  some ⟨AV.bool b64, false, []⟩)
                else
                  need (decide (0 ≤ (4 : Int)) && decide ((4 : Int) ≤ ((h.length : Nat) : Int))) <|
                  need (decide ((([34, 92, 117] : List UInt8) : List UInt8).length + ((h.take h.length).drop (Int.toNat 4)).length ≤ 9223372036854775807)) <|
                  need (decide ((([34, 92, 117] : List UInt8) ++ ((h.take h.length).drop (Int.toNat 4)) : List UInt8).length + (([34] : List UInt8) : List UInt8).length ≤ 9223372036854775807)) <|
                  (D id_doubleTake [AV.bytes ((([34, 92, 117] : List UInt8) ++ ((h.take h.length).drop (Int.toNat 4))) ++ ([34] : List UInt8))]).bind fun r65 =>
                  asSIBT r65.v fun s39 i43 b65 =>
                  bif !(b65 == true) then
                    (some ⟨AV.bool false, false, []⟩)
                  else
                    bif b65 then
                      (bif !(s39 == ((Utf8.encode (IntKind.i32.wrap (n : Int))).data.toList)) then
                        (some ⟨AV.bool false, false, []⟩)
                      else
                        bif decide ((n : Int) > 255) then
                          ((D id_law06Wakes []).bind fun r66 =>
                          asB r66.v fun b66 =>
                          some ⟨AV.bool b66, false, []⟩)
                        else
                          need (decide (0 ≤ (6 : Int)) && decide ((6 : Int) ≤ ((h.length : Nat) : Int))) <|
                          need (decide ((([34, 92, 120] : List UInt8) : List UInt8).length + ((h.take h.length).drop (Int.toNat 6)).length ≤ 9223372036854775807)) <|
                          need (decide ((([34, 92, 120] : List UInt8) ++ ((h.take h.length).drop (Int.toNat 6)) : List UInt8).length + (([34] : List UInt8) : List UInt8).length ≤ 9223372036854775807)) <|
                          (D id_doubleTake [AV.bytes ((([34, 92, 120] : List UInt8) ++ ((h.take h.length).drop (Int.toNat 6))) ++ ([34] : List UInt8))]).bind fun r67 =>
                          asSIBT r67.v fun s40 i44 b67 =>
                          need (decide (0 ≤ (7 : Int)) && decide ((7 : Int) ≤ ((h.length : Nat) : Int))) <|
                          need (decide ((([34, 92, 120] : List UInt8) : List UInt8).length + ((h.take h.length).drop (Int.toNat 7)).length ≤ 9223372036854775807)) <|
                          need (decide ((([34, 92, 120] : List UInt8) ++ ((h.take h.length).drop (Int.toNat 7)) : List UInt8).length + (([34] : List UInt8) : List UInt8).length ≤ 9223372036854775807)) <|
                          (D id_doubleTake [AV.bytes ((([34, 92, 120] : List UInt8) ++ ((h.take h.length).drop (Int.toNat 7))) ++ ([34] : List UInt8))]).bind fun r68 =>
                          asSIBT r68.v fun s41 i45 b68 =>
                          bif b67 then
                            (bif s40 == ((Utf8.encode (IntKind.i32.wrap (n : Int))).data.toList) then
                              (bif !b68 then
                                ((D id_law06Wakes []).bind fun r69 =>
                                asB r69.v fun b69 =>
                                some ⟨AV.bool b69, false, []⟩)
                              else
                                some ⟨AV.bool false, false, []⟩)
                            else
                              some ⟨AV.bool false, false, []⟩)
                          else
                            some ⟨AV.bool false, false, []⟩)
                    else
                      bif decide ((n : Int) > 255) then
                        ((D id_law06Wakes []).bind fun r70 =>
                        asB r70.v fun b70 =>
                        some ⟨AV.bool b70, false, []⟩)
                      else
                        need (decide (0 ≤ (6 : Int)) && decide ((6 : Int) ≤ ((h.length : Nat) : Int))) <|
                        need (decide ((([34, 92, 120] : List UInt8) : List UInt8).length + ((h.take h.length).drop (Int.toNat 6)).length ≤ 9223372036854775807)) <|
                        need (decide ((([34, 92, 120] : List UInt8) ++ ((h.take h.length).drop (Int.toNat 6)) : List UInt8).length + (([34] : List UInt8) : List UInt8).length ≤ 9223372036854775807)) <|
                        (D id_doubleTake [AV.bytes ((([34, 92, 120] : List UInt8) ++ ((h.take h.length).drop (Int.toNat 6))) ++ ([34] : List UInt8))]).bind fun r71 =>
                        asSIBT r71.v fun s42 i46 b71 =>
                        need (decide (0 ≤ (7 : Int)) && decide ((7 : Int) ≤ ((h.length : Nat) : Int))) <|
                        need (decide ((([34, 92, 120] : List UInt8) : List UInt8).length + ((h.take h.length).drop (Int.toNat 7)).length ≤ 9223372036854775807)) <|
                        need (decide ((([34, 92, 120] : List UInt8) ++ ((h.take h.length).drop (Int.toNat 7)) : List UInt8).length + (([34] : List UInt8) : List UInt8).length ≤ 9223372036854775807)) <|
                        (D id_doubleTake [AV.bytes ((([34, 92, 120] : List UInt8) ++ ((h.take h.length).drop (Int.toNat 7))) ++ ([34] : List UInt8))]).bind fun r72 =>
                        asSIBT r72.v fun s43 i47 b72 =>
                        bif b71 then
                          (bif s42 == ((Utf8.encode (IntKind.i32.wrap (n : Int))).data.toList) then
                            (bif !b72 then
                              ((D id_law06Wakes []).bind fun r73 =>
                              asB r73.v fun b73 =>
                              some ⟨AV.bool b73, false, []⟩)
                            else
                              some ⟨AV.bool false, false, []⟩)
                          else
                            some ⟨AV.bool false, false, []⟩)
                        else
                          some ⟨AV.bool false, false, []⟩)
          else
            bif decide ((n : Int) > 65535) then
              ((D id_law06Wakes []).bind fun r74 =>
              asB r74.v fun b74 =>
              some ⟨AV.bool b74, false, []⟩)
            else
              need (decide (0 ≤ (4 : Int)) && decide ((4 : Int) ≤ ((h.length : Nat) : Int))) <|
              need (decide ((([34, 92, 117] : List UInt8) : List UInt8).length + ((h.take h.length).drop (Int.toNat 4)).length ≤ 9223372036854775807)) <|
              need (decide ((([34, 92, 117] : List UInt8) ++ ((h.take h.length).drop (Int.toNat 4)) : List UInt8).length + (([34] : List UInt8) : List UInt8).length ≤ 9223372036854775807)) <|
              (D id_doubleTake [AV.bytes ((([34, 92, 117] : List UInt8) ++ ((h.take h.length).drop (Int.toNat 4))) ++ ([34] : List UInt8))]).bind fun r75 =>
              asSIBT r75.v fun s44 i48 b75 =>
              bif !(b75 == true) then
                (some ⟨AV.bool false, false, []⟩)
              else
                bif b75 then
                  (bif !(s44 == ((Utf8.encode (IntKind.i32.wrap (n : Int))).data.toList)) then
                    (some ⟨AV.bool false, false, []⟩)
                  else
                    bif decide ((n : Int) > 255) then
                      ((D id_law06Wakes []).bind fun r76 =>
                      asB r76.v fun b76 =>
                      some ⟨AV.bool b76, false, []⟩)
                    else
                      need (decide (0 ≤ (6 : Int)) && decide ((6 : Int) ≤ ((h.length : Nat) : Int))) <|
                      need (decide ((([34, 92, 120] : List UInt8) : List UInt8).length + ((h.take h.length).drop (Int.toNat 6)).length ≤ 9223372036854775807)) <|
                      need (decide ((([34, 92, 120] : List UInt8) ++ ((h.take h.length).drop (Int.toNat 6)) : List UInt8).length + (([34] : List UInt8) : List UInt8).length ≤ 9223372036854775807)) <|
                      (D id_doubleTake [AV.bytes ((([34, 92, 120] : List UInt8) ++ ((h.take h.length).drop (Int.toNat 6))) ++ ([34] : List UInt8))]).bind fun r77 =>
                      asSIBT r77.v fun s45 i49 b77 =>
                      need (decide (0 ≤ (7 : Int)) && decide ((7 : Int) ≤ ((h.length : Nat) : Int))) <|
                      need (decide ((([34, 92, 120] : List UInt8) : List UInt8).length + ((h.take h.length).drop (Int.toNat 7)).length ≤ 9223372036854775807)) <|
                      need (decide ((([34, 92, 120] : List UInt8) ++ ((h.take h.length).drop (Int.toNat 7)) : List UInt8).length + (([34] : List UInt8) : List UInt8).length ≤ 9223372036854775807)) <|
                      (D id_doubleTake [AV.bytes ((([34, 92, 120] : List UInt8) ++ ((h.take h.length).drop (Int.toNat 7))) ++ ([34] : List UInt8))]).bind fun r78 =>
                      asSIBT r78.v fun s46 i50 b78 =>
                      bif b77 then
                        (bif s45 == ((Utf8.encode (IntKind.i32.wrap (n : Int))).data.toList) then
                          (bif !b78 then
                            ((D id_law06Wakes []).bind fun r79 =>
                            asB r79.v fun b79 =>
                            some ⟨AV.bool b79, false, []⟩)
                          else
                            some ⟨AV.bool false, false, []⟩)
                        else
                          some ⟨AV.bool false, false, []⟩)
                      else
                        some ⟨AV.bool false, false, []⟩)
                else
                  bif decide ((n : Int) > 255) then
                    ((D id_law06Wakes []).bind fun r80 =>
                    asB r80.v fun b80 =>
                    some ⟨AV.bool b80, false, []⟩)
                  else
                    need (decide (0 ≤ (6 : Int)) && decide ((6 : Int) ≤ ((h.length : Nat) : Int))) <|
                    need (decide ((([34, 92, 120] : List UInt8) : List UInt8).length + ((h.take h.length).drop (Int.toNat 6)).length ≤ 9223372036854775807)) <|
                    need (decide ((([34, 92, 120] : List UInt8) ++ ((h.take h.length).drop (Int.toNat 6)) : List UInt8).length + (([34] : List UInt8) : List UInt8).length ≤ 9223372036854775807)) <|
                    (D id_doubleTake [AV.bytes ((([34, 92, 120] : List UInt8) ++ ((h.take h.length).drop (Int.toNat 6))) ++ ([34] : List UInt8))]).bind fun r81 =>
                    asSIBT r81.v fun s47 i51 b81 =>
                    need (decide (0 ≤ (7 : Int)) && decide ((7 : Int) ≤ ((h.length : Nat) : Int))) <|
                    need (decide ((([34, 92, 120] : List UInt8) : List UInt8).length + ((h.take h.length).drop (Int.toNat 7)).length ≤ 9223372036854775807)) <|
                    need (decide ((([34, 92, 120] : List UInt8) ++ ((h.take h.length).drop (Int.toNat 7)) : List UInt8).length + (([34] : List UInt8) : List UInt8).length ≤ 9223372036854775807)) <|
                    (D id_doubleTake [AV.bytes ((([34, 92, 120] : List UInt8) ++ ((h.take h.length).drop (Int.toNat 7))) ++ ([34] : List UInt8))]).bind fun r82 =>
                    asSIBT r82.v fun s48 i52 b82 =>
                    bif b81 then
                      (bif s47 == ((Utf8.encode (IntKind.i32.wrap (n : Int))).data.toList) then
                        (bif !b82 then
                          ((D id_law06Wakes []).bind fun r83 =>
                          asB r83.v fun b83 =>
                          some ⟨AV.bool b83, false, []⟩)
                        else
                          some ⟨AV.bool false, false, []⟩)
                      else
                        some ⟨AV.bool false, false, []⟩)
                    else
                      some ⟨AV.bool false, false, []⟩)
      else
        bif !(b63 == (decide ((n : Int) > 57343))) then
          (some ⟨AV.bool false, false, []⟩)
        else
          bif b63 then
            (bif !(s38 == ((Utf8.encode (IntKind.i32.wrap (n : Int))).data.toList)) then
              (some ⟨AV.bool false, false, []⟩)
            else
              bif (i42 : Int) != 12 then
                (some ⟨AV.bool false, false, []⟩)
              else
                bif decide ((n : Int) > 65535) then
                  ((D id_law06Wakes []).bind fun r84 =>
                  asB r84.v fun b84 =>
                  some ⟨AV.bool b84, false, []⟩)
                else
                  need (decide (0 ≤ (4 : Int)) && decide ((4 : Int) ≤ ((h.length : Nat) : Int))) <|
                  need (decide ((([34, 92, 117] : List UInt8) : List UInt8).length + ((h.take h.length).drop (Int.toNat 4)).length ≤ 9223372036854775807)) <|
                  need (decide ((([34, 92, 117] : List UInt8) ++ ((h.take h.length).drop (Int.toNat 4)) : List UInt8).length + (([34] : List UInt8) : List UInt8).length ≤ 9223372036854775807)) <|
                  (D id_doubleTake [AV.bytes ((([34, 92, 117] : List UInt8) ++ ((h.take h.length).drop (Int.toNat 4))) ++ ([34] : List UInt8))]).bind fun r85 =>
                  asSIBT r85.v fun s49 i53 b85 =>
                  bif !(b85 == (decide ((n : Int) > 57343))) then
                    (some ⟨AV.bool false, false, []⟩)
                  else
                    bif b85 then
                      (bif !(s49 == ((Utf8.encode (IntKind.i32.wrap (n : Int))).data.toList)) then
                        (some ⟨AV.bool false, false, []⟩)
                      else
                        bif decide ((n : Int) > 255) then
                          ((D id_law06Wakes []).bind fun r86 =>
                          asB r86.v fun b86 =>
                          some ⟨AV.bool b86, false, []⟩)
                        else
                          need (decide (0 ≤ (6 : Int)) && decide ((6 : Int) ≤ ((h.length : Nat) : Int))) <|
                          need (decide ((([34, 92, 120] : List UInt8) : List UInt8).length + ((h.take h.length).drop (Int.toNat 6)).length ≤ 9223372036854775807)) <|
                          need (decide ((([34, 92, 120] : List UInt8) ++ ((h.take h.length).drop (Int.toNat 6)) : List UInt8).length + (([34] : List UInt8) : List UInt8).length ≤ 9223372036854775807)) <|
                          (D id_doubleTake [AV.bytes ((([34, 92, 120] : List UInt8) ++ ((h.take h.length).drop (Int.toNat 6))) ++ ([34] : List UInt8))]).bind fun r87 =>
                          asSIBT r87.v fun s50 i54 b87 =>
                          need (decide (0 ≤ (7 : Int)) && decide ((7 : Int) ≤ ((h.length : Nat) : Int))) <|
                          need (decide ((([34, 92, 120] : List UInt8) : List UInt8).length + ((h.take h.length).drop (Int.toNat 7)).length ≤ 9223372036854775807)) <|
                          need (decide ((([34, 92, 120] : List UInt8) ++ ((h.take h.length).drop (Int.toNat 7)) : List UInt8).length + (([34] : List UInt8) : List UInt8).length ≤ 9223372036854775807)) <|
                          (D id_doubleTake [AV.bytes ((([34, 92, 120] : List UInt8) ++ ((h.take h.length).drop (Int.toNat 7))) ++ ([34] : List UInt8))]).bind fun r88 =>
                          asSIBT r88.v fun s51 i55 b88 =>
                          bif b87 then
                            (bif s50 == ((Utf8.encode (IntKind.i32.wrap (n : Int))).data.toList) then
                              (bif !b88 then
                                ((D id_law06Wakes []).bind fun r89 =>
                                asB r89.v fun b89 =>
                                some ⟨AV.bool b89, false, []⟩)
                              else
                                some ⟨AV.bool false, false, []⟩)
                            else
                              some ⟨AV.bool false, false, []⟩)
                          else
                            some ⟨AV.bool false, false, []⟩)
                    else
                      bif decide ((n : Int) > 255) then
                        ((D id_law06Wakes []).bind fun r90 =>
                        asB r90.v fun b90 =>
                        some ⟨AV.bool b90, false, []⟩)
                      else
                        need (decide (0 ≤ (6 : Int)) && decide ((6 : Int) ≤ ((h.length : Nat) : Int))) <|
                        need (decide ((([34, 92, 120] : List UInt8) : List UInt8).length + ((h.take h.length).drop (Int.toNat 6)).length ≤ 9223372036854775807)) <|
                        need (decide ((([34, 92, 120] : List UInt8) ++ ((h.take h.length).drop (Int.toNat 6)) : List UInt8).length + (([34] : List UInt8) : List UInt8).length ≤ 9223372036854775807)) <|
                        (D id_doubleTake [AV.bytes ((([34, 92, 120] : List UInt8) ++ ((h.take h.length).drop (Int.toNat 6))) ++ ([34] : List UInt8))]).bind fun r91 =>
                        asSIBT r91.v fun s52 i56 b91 =>
                        need (decide (0 ≤ (7 : Int)) && decide ((7 : Int) ≤ ((h.length : Nat) : Int))) <|
                        need (decide ((([34, 92, 120] : List UInt8) : List UInt8).length + ((h.take h.length).drop (Int.toNat 7)).length ≤ 9223372036854775807)) <|
                        need (decide ((([34, 92, 120] : List UInt8) ++ ((h.take h.length).drop (Int.toNat 7)) : List UInt8).length + (([34] : List UInt8) : List UInt8).length ≤ 9223372036854775807)) <|
                        (D id_doubleTake [AV.bytes ((([34, 92, 120] : List UInt8) ++ ((h.take h.length).drop (Int.toNat 7))) ++ ([34] : List UInt8))]).bind fun r92 =>
                        asSIBT r92.v fun s53 i57 b92 =>
                        bif b91 then
                          (bif s52 == ((Utf8.encode (IntKind.i32.wrap (n : Int))).data.toList) then
                            (bif !b92 then
                              ((D id_law06Wakes []).bind fun r93 =>
                              asB r93.v fun b93 =>
                              some ⟨AV.bool b93, false, []⟩)
                            else
                              some ⟨AV.bool false, false, []⟩)
                          else
                            some ⟨AV.bool false, false, []⟩)
                        else
                          some ⟨AV.bool false, false, []⟩)
          else
            bif decide ((n : Int) > 65535) then
              ((D id_law06Wakes []).bind fun r94 =>
              asB r94.v fun b94 =>
              some ⟨AV.bool b94, false, []⟩)
            else
              need (decide (0 ≤ (4 : Int)) && decide ((4 : Int) ≤ ((h.length : Nat) : Int))) <|
              need (decide ((([34, 92, 117] : List UInt8) : List UInt8).length + ((h.take h.length).drop (Int.toNat 4)).length ≤ 9223372036854775807)) <|
              need (decide ((([34, 92, 117] : List UInt8) ++ ((h.take h.length).drop (Int.toNat 4)) : List UInt8).length + (([34] : List UInt8) : List UInt8).length ≤ 9223372036854775807)) <|
              (D id_doubleTake [AV.bytes ((([34, 92, 117] : List UInt8) ++ ((h.take h.length).drop (Int.toNat 4))) ++ ([34] : List UInt8))]).bind fun r95 =>
              asSIBT r95.v fun s54 i58 b95 =>
              bif !(b95 == (decide ((n : Int) > 57343))) then
                (some ⟨AV.bool false, false, []⟩)
              else
                bif b95 then
                  (bif !(s54 == ((Utf8.encode (IntKind.i32.wrap (n : Int))).data.toList)) then
                    (some ⟨AV.bool false, false, []⟩)
                  else
                    bif decide ((n : Int) > 255) then
                      ((D id_law06Wakes []).bind fun r96 =>
                      asB r96.v fun b96 =>
                      some ⟨AV.bool b96, false, []⟩)
                    else
                      need (decide (0 ≤ (6 : Int)) && decide ((6 : Int) ≤ ((h.length : Nat) : Int))) <|
                      need (decide ((([34, 92, 120] : List UInt8) : List UInt8).length + ((h.take h.length).drop (Int.toNat 6)).length ≤ 9223372036854775807)) <|
                      need (decide ((([34, 92, 120] : List UInt8) ++ ((h.take h.length).drop (Int.toNat 6)) : List UInt8).length + (([34] : List UInt8) : List UInt8).length ≤ 9223372036854775807)) <|
                      (D id_doubleTake [AV.bytes ((([34, 92, 120] : List UInt8) ++ ((h.take h.length).drop (Int.toNat 6))) ++ ([34] : List UInt8))]).bind fun r97 =>
                      asSIBT r97.v fun s55 i59 b97 =>
                      need (decide (0 ≤ (7 : Int)) && decide ((7 : Int) ≤ ((h.length : Nat) : Int))) <|
                      need (decide ((([34, 92, 120] : List UInt8) : List UInt8).length + ((h.take h.length).drop (Int.toNat 7)).length ≤ 9223372036854775807)) <|
                      need (decide ((([34, 92, 120] : List UInt8) ++ ((h.take h.length).drop (Int.toNat 7)) : List UInt8).length + (([34] : List UInt8) : List UInt8).length ≤ 9223372036854775807)) <|
                      (D id_doubleTake [AV.bytes ((([34, 92, 120] : List UInt8) ++ ((h.take h.length).drop (Int.toNat 7))) ++ ([34] : List UInt8))]).bind fun r98 =>
                      asSIBT r98.v fun s56 i60 b98 =>
                      bif b97 then
                        (bif s55 == ((Utf8.encode (IntKind.i32.wrap (n : Int))).data.toList) then
                          (bif !b98 then
                            ((D id_law06Wakes []).bind fun r99 =>
                            asB r99.v fun b99 =>
                            some ⟨AV.bool b99, false, []⟩)
                          else
                            some ⟨AV.bool false, false, []⟩)
                        else
                          some ⟨AV.bool false, false, []⟩)
                      else
                        some ⟨AV.bool false, false, []⟩)
                else
                  bif decide ((n : Int) > 255) then
                    ((D id_law06Wakes []).bind fun r100 =>
                    asB r100.v fun b100 =>
                    some ⟨AV.bool b100, false, []⟩)
                  else
                    need (decide (0 ≤ (6 : Int)) && decide ((6 : Int) ≤ ((h.length : Nat) : Int))) <|
                    need (decide ((([34, 92, 120] : List UInt8) : List UInt8).length + ((h.take h.length).drop (Int.toNat 6)).length ≤ 9223372036854775807)) <|
                    need (decide ((([34, 92, 120] : List UInt8) ++ ((h.take h.length).drop (Int.toNat 6)) : List UInt8).length + (([34] : List UInt8) : List UInt8).length ≤ 9223372036854775807)) <|
                    (D id_doubleTake [AV.bytes ((([34, 92, 120] : List UInt8) ++ ((h.take h.length).drop (Int.toNat 6))) ++ ([34] : List UInt8))]).bind fun r101 =>
                    asSIBT r101.v fun s57 i61 b101 =>
                    need (decide (0 ≤ (7 : Int)) && decide ((7 : Int) ≤ ((h.length : Nat) : Int))) <|
                    need (decide ((([34, 92, 120] : List UInt8) : List UInt8).length + ((h.take h.length).drop (Int.toNat 7)).length ≤ 9223372036854775807)) <|
                    need (decide ((([34, 92, 120] : List UInt8) ++ ((h.take h.length).drop (Int.toNat 7)) : List UInt8).length + (([34] : List UInt8) : List UInt8).length ≤ 9223372036854775807)) <|
                    (D id_doubleTake [AV.bytes ((([34, 92, 120] : List UInt8) ++ ((h.take h.length).drop (Int.toNat 7))) ++ ([34] : List UInt8))]).bind fun r102 =>
                    asSIBT r102.v fun s58 i62 b102 =>
                    bif b101 then
                      (bif s57 == ((Utf8.encode (IntKind.i32.wrap (n : Int))).data.toList) then
                        (bif !b102 then
                          ((D id_law06Wakes []).bind fun r103 =>
                          asB r103.v fun b103 =>
                          some ⟨AV.bool b103, false, []⟩)
                        else
                          some ⟨AV.bool false, false, []⟩)
                      else
                        some ⟨AV.bool false, false, []⟩)
                    else
                      some ⟨AV.bool false, false, []⟩)
    else
      bif !(b63 == false) then
        (some ⟨AV.bool false, false, []⟩)
      else
        bif b63 then
          (bif !(s38 == ((Utf8.encode (IntKind.i32.wrap (n : Int))).data.toList)) then
            (some ⟨AV.bool false, false, []⟩)
          else
            bif (i42 : Int) != 12 then
              (some ⟨AV.bool false, false, []⟩)
            else
              bif decide ((n : Int) > 65535) then
                ((D id_law06Wakes []).bind fun r104 =>
                asB r104.v fun b104 =>
                some ⟨AV.bool b104, false, []⟩)
              else
                need (decide (0 ≤ (4 : Int)) && decide ((4 : Int) ≤ ((h.length : Nat) : Int))) <|
                need (decide ((([34, 92, 117] : List UInt8) : List UInt8).length + ((h.take h.length).drop (Int.toNat 4)).length ≤ 9223372036854775807)) <|
                need (decide ((([34, 92, 117] : List UInt8) ++ ((h.take h.length).drop (Int.toNat 4)) : List UInt8).length + (([34] : List UInt8) : List UInt8).length ≤ 9223372036854775807)) <|
                (D id_doubleTake [AV.bytes ((([34, 92, 117] : List UInt8) ++ ((h.take h.length).drop (Int.toNat 4))) ++ ([34] : List UInt8))]).bind fun r105 =>
                asSIBT r105.v fun s59 i63 b105 =>
                bif !(b105 == false) then
                  (some ⟨AV.bool false, false, []⟩)
                else
                  bif b105 then
                    (bif !(s59 == ((Utf8.encode (IntKind.i32.wrap (n : Int))).data.toList)) then
                      (some ⟨AV.bool false, false, []⟩)
                    else
                      bif decide ((n : Int) > 255) then
                        ((D id_law06Wakes []).bind fun r106 =>
                        asB r106.v fun b106 =>
                        some ⟨AV.bool b106, false, []⟩)
                      else
                        need (decide (0 ≤ (6 : Int)) && decide ((6 : Int) ≤ ((h.length : Nat) : Int))) <|
                        need (decide ((([34, 92, 120] : List UInt8) : List UInt8).length + ((h.take h.length).drop (Int.toNat 6)).length ≤ 9223372036854775807)) <|
                        need (decide ((([34, 92, 120] : List UInt8) ++ ((h.take h.length).drop (Int.toNat 6)) : List UInt8).length + (([34] : List UInt8) : List UInt8).length ≤ 9223372036854775807)) <|
                        (D id_doubleTake [AV.bytes ((([34, 92, 120] : List UInt8) ++ ((h.take h.length).drop (Int.toNat 6))) ++ ([34] : List UInt8))]).bind fun r107 =>
                        asSIBT r107.v fun s60 i64 b107 =>
                        need (decide (0 ≤ (7 : Int)) && decide ((7 : Int) ≤ ((h.length : Nat) : Int))) <|
                        need (decide ((([34, 92, 120] : List UInt8) : List UInt8).length + ((h.take h.length).drop (Int.toNat 7)).length ≤ 9223372036854775807)) <|
                        need (decide ((([34, 92, 120] : List UInt8) ++ ((h.take h.length).drop (Int.toNat 7)) : List UInt8).length + (([34] : List UInt8) : List UInt8).length ≤ 9223372036854775807)) <|
                        (D id_doubleTake [AV.bytes ((([34, 92, 120] : List UInt8) ++ ((h.take h.length).drop (Int.toNat 7))) ++ ([34] : List UInt8))]).bind fun r108 =>
                        asSIBT r108.v fun s61 i65 b108 =>
                        bif b107 then
                          (bif s60 == ((Utf8.encode (IntKind.i32.wrap (n : Int))).data.toList) then
                            (bif !b108 then
                              ((D id_law06Wakes []).bind fun r109 =>
                              asB r109.v fun b109 =>
                              some ⟨AV.bool b109, false, []⟩)
                            else
                              some ⟨AV.bool false, false, []⟩)
                          else
                            some ⟨AV.bool false, false, []⟩)
                        else
                          some ⟨AV.bool false, false, []⟩)
                  else
                    bif decide ((n : Int) > 255) then
                      ((D id_law06Wakes []).bind fun r110 =>
                      asB r110.v fun b110 =>
                      some ⟨AV.bool b110, false, []⟩)
                    else
                      need (decide (0 ≤ (6 : Int)) && decide ((6 : Int) ≤ ((h.length : Nat) : Int))) <|
                      need (decide ((([34, 92, 120] : List UInt8) : List UInt8).length + ((h.take h.length).drop (Int.toNat 6)).length ≤ 9223372036854775807)) <|
                      need (decide ((([34, 92, 120] : List UInt8) ++ ((h.take h.length).drop (Int.toNat 6)) : List UInt8).length + (([34] : List UInt8) : List UInt8).length ≤ 9223372036854775807)) <|
                      (D id_doubleTake [AV.bytes ((([34, 92, 120] : List UInt8) ++ ((h.take h.length).drop (Int.toNat 6))) ++ ([34] : List UInt8))]).bind fun r111 =>
                      asSIBT r111.v fun s62 i66 b111 =>
                      need (decide (0 ≤ (7 : Int)) && decide ((7 : Int) ≤ ((h.length : Nat) : Int))) <|
                      need (decide ((([34, 92, 120] : List UInt8) : List UInt8).length + ((h.take h.length).drop (Int.toNat 7)).length ≤ 9223372036854775807)) <|
                      need (decide ((([34, 92, 120] : List UInt8) ++ ((h.take h.length).drop (Int.toNat 7)) : List UInt8).length + (([34] : List UInt8) : List UInt8).length ≤ 9223372036854775807)) <|
                      (D id_doubleTake [AV.bytes ((([34, 92, 120] : List UInt8) ++ ((h.take h.length).drop (Int.toNat 7))) ++ ([34] : List UInt8))]).bind fun r112 =>
                      asSIBT r112.v fun s63 i67 b112 =>
                      bif b111 then
                        (bif s62 == ((Utf8.encode (IntKind.i32.wrap (n : Int))).data.toList) then
                          (bif !b112 then
                            ((D id_law06Wakes []).bind fun r113 =>
                            asB r113.v fun b113 =>
                            some ⟨AV.bool b113, false, []⟩)
                          else
                            some ⟨AV.bool false, false, []⟩)
                        else
                          some ⟨AV.bool false, false, []⟩)
                      else
                        some ⟨AV.bool false, false, []⟩)
        else
          bif decide ((n : Int) > 65535) then
            ((D id_law06Wakes []).bind fun r114 =>
            asB r114.v fun b114 =>
            some ⟨AV.bool b114, false, []⟩)
          else
            need (decide (0 ≤ (4 : Int)) && decide ((4 : Int) ≤ ((h.length : Nat) : Int))) <|
            need (decide ((([34, 92, 117] : List UInt8) : List UInt8).length + ((h.take h.length).drop (Int.toNat 4)).length ≤ 9223372036854775807)) <|
            need (decide ((([34, 92, 117] : List UInt8) ++ ((h.take h.length).drop (Int.toNat 4)) : List UInt8).length + (([34] : List UInt8) : List UInt8).length ≤ 9223372036854775807)) <|
            (D id_doubleTake [AV.bytes ((([34, 92, 117] : List UInt8) ++ ((h.take h.length).drop (Int.toNat 4))) ++ ([34] : List UInt8))]).bind fun r115 =>
            asSIBT r115.v fun s64 i68 b115 =>
            bif !(b115 == false) then
              (some ⟨AV.bool false, false, []⟩)
            else
              bif b115 then
                (bif !(s64 == ((Utf8.encode (IntKind.i32.wrap (n : Int))).data.toList)) then
                  (some ⟨AV.bool false, false, []⟩)
                else
                  bif decide ((n : Int) > 255) then
                    ((D id_law06Wakes []).bind fun r116 =>
                    asB r116.v fun b116 =>
                    some ⟨AV.bool b116, false, []⟩)
                  else
                    need (decide (0 ≤ (6 : Int)) && decide ((6 : Int) ≤ ((h.length : Nat) : Int))) <|
                    need (decide ((([34, 92, 120] : List UInt8) : List UInt8).length + ((h.take h.length).drop (Int.toNat 6)).length ≤ 9223372036854775807)) <|
                    need (decide ((([34, 92, 120] : List UInt8) ++ ((h.take h.length).drop (Int.toNat 6)) : List UInt8).length + (([34] : List UInt8) : List UInt8).length ≤ 9223372036854775807)) <|
                    (D id_doubleTake [AV.bytes ((([34, 92, 120] : List UInt8) ++ ((h.take h.length).drop (Int.toNat 6))) ++ ([34] : List UInt8))]).bind fun r117 =>
                    asSIBT r117.v fun s65 i69 b117 =>
                    need (decide (0 ≤ (7 : Int)) && decide ((7 : Int) ≤ ((h.length : Nat) : Int))) <|
                    need (decide ((([34, 92, 120] : List UInt8) : List UInt8).length + ((h.take h.length).drop (Int.toNat 7)).length ≤ 9223372036854775807)) <|
                    need (decide ((([34, 92, 120] : List UInt8) ++ ((h.take h.length).drop (Int.toNat 7)) : List UInt8).length + (([34] : List UInt8) : List UInt8).length ≤ 9223372036854775807)) <|
                    (D id_doubleTake [AV.bytes ((([34, 92, 120] : List UInt8) ++ ((h.take h.length).drop (Int.toNat 7))) ++ ([34] : List UInt8))]).bind fun r118 =>
                    asSIBT r118.v fun s66 i70 b118 =>
                    bif b117 then
                      (bif s65 == ((Utf8.encode (IntKind.i32.wrap (n : Int))).data.toList) then
                        (bif !b118 then
                          ((D id_law06Wakes []).bind fun r119 =>
                          asB r119.v fun b119 =>
                          some ⟨AV.bool b119, false, []⟩)
                        else
                          some ⟨AV.bool false, false, []⟩)
                      else
                        some ⟨AV.bool false, false, []⟩)
                    else
                      some ⟨AV.bool false, false, []⟩)
              else
                bif decide ((n : Int) > 255) then
                  ((D id_law06Wakes []).bind fun r120 =>
                  asB r120.v fun b120 =>
                  some ⟨AV.bool b120, false, []⟩)
                else
                  need (decide (0 ≤ (6 : Int)) && decide ((6 : Int) ≤ ((h.length : Nat) : Int))) <|
                  need (decide ((([34, 92, 120] : List UInt8) : List UInt8).length + ((h.take h.length).drop (Int.toNat 6)).length ≤ 9223372036854775807)) <|
                  need (decide ((([34, 92, 120] : List UInt8) ++ ((h.take h.length).drop (Int.toNat 6)) : List UInt8).length + (([34] : List UInt8) : List UInt8).length ≤ 9223372036854775807)) <|
                  (D id_doubleTake [AV.bytes ((([34, 92, 120] : List UInt8) ++ ((h.take h.length).drop (Int.toNat 6))) ++ ([34] : List UInt8))]).bind fun r121 =>
                  asSIBT r121.v fun s67 i71 b121 =>
                  need (decide (0 ≤ (7 : Int)) && decide ((7 : Int) ≤ ((h.length : Nat) : Int))) <|
                  need (decide ((([34, 92, 120] : List UInt8) : List UInt8).length + ((h.take h.length).drop (Int.toNat 7)).length ≤ 9223372036854775807)) <|
                  need (decide ((([34, 92, 120] : List UInt8) ++ ((h.take h.length).drop (Int.toNat 7)) : List UInt8).length + (([34] : List UInt8) : List UInt8).length ≤ 9223372036854775807)) <|
                  (D id_doubleTake [AV.bytes ((([34, 92, 120] : List UInt8) ++ ((h.take h.length).drop (Int.toNat 7))) ++ ([34] : List UInt8))]).bind fun r122 =>
                  asSIBT r122.v fun s68 i72 b122 =>
                  bif b121 then
                    (bif s67 == ((Utf8.encode (IntKind.i32.wrap (n : Int))).data.toList) then
                      (bif !b122 then
                        ((D id_law06Wakes []).bind fun r123 =>
                        asB r123.v fun b123 =>
                        some ⟨AV.bool b123, false, []⟩)
                      else
                        some ⟨AV.bool false, false, []⟩)
                    else
                      some ⟨AV.bool false, false, []⟩)
                  else
                    some ⟨AV.bool false, false, []⟩ : Option Res) = some ⟨.bool true, false, []⟩ := by
  have l4 : (h.drop 4).length = 4 := by rw [List.length_drop]; omega
  have l6 : (h.drop 6).length = 2 := by rw [List.length_drop]; omega
  have l7 : (h.drop 7).length = 1 := by rw [List.length_drop]; omega
  obtain ⟨d, hd⟩ : ∃ d, h.drop 7 = [d] := by
    cases hx : h.drop 7 with
    | nil => rw [hx] at l7; simp at l7
    | cons d r => rw [hx] at l7; simp at l7; exact ⟨d, by rw [l7]⟩
  have T : ∀ w : List UInt8, w.length = 8 → D id_doubleTake [AV.bytes (([34, 92, 85] ++ w) ++ [34])] = dR (dtakeP (([34, 92, 85] ++ w) ++ [34])) := fun w hw => D_Take6 _ (by simp; omega)
  have TU := T h hl
  rw [take_hex 85 8 n h rfl rfl (by omega) hl h8] at TU
  have T4 : D id_doubleTake [AV.bytes (([34, 92, 117] ++ h.drop 4) ++ [34])] = dR (dtakeP (([34, 92, 117] ++ h.drop 4) ++ [34])) := D_Take6 _ (by rw [List.length_append, List.length_append, l4]; simp)
  have T6 : D id_doubleTake [AV.bytes (([34, 92, 120] ++ h.drop 6) ++ [34])] = dR (dtakeP (([34, 92, 120] ++ h.drop 6) ++ [34])) := D_Take6 _ (by rw [List.length_append, List.length_append, l6]; simp)
  have T7 : D id_doubleTake [AV.bytes (([34, 92, 120] ++ h.drop 7) ++ [34])] = dR none := by
    rw [D_Take6 _ (by rw [List.length_append, List.length_append, l7]; simp), hd, take_short]
  simp only [List.take_length, show Int.toNat 4 = 4 from rfl, show Int.toNat 6 = 6 from rfl, show Int.toNat 7 = 7 from rfl]
  have some_ : ∀ (x : List UInt8) (m : Nat), dR (some (x, m)) = some ⟨.tup [.str x, .int .i64 (m : Int), .bool true], false, []⟩ := fun _ _ => rfl
  have none_ : dR none = some ⟨.tup [.str [], .int .i64 0, .bool false], false, []⟩ := rfl
  rw [none_] at T7
  by_cases c1 : n ≤ 1114111
  · by_cases c2 : n < 55296 ∨ 57343 < n
    · rw [if_pos (by omega), some_] at TU
      have ei : IntKind.i32.wrap (n : Int) = (n : Int) := wrap_i32 (by omega) (by omega)
      by_cases c3 : n ≤ 65535
      · rw [take_hex 117 4 n _ rfl rfl (by omega) l4 (h4 c3), if_pos (by omega), some_] at T4
        by_cases c4 : n ≤ 255
        · rw [take_hex 120 2 n _ rfl rfl (by omega) l6 (h2 c4), if_pos (by omega), some_] at T6
          simp (disch := first | omega | (simp only [List.length_append, List.length_cons, List.length_nil, hl, l4, l6, l7]; omega)) only [↓need_d, ↓need_d2, ↓cond_d, ↓cond_nd, ↓cond_true, ↓cond_false, ↓TU, ↓T4, ↓T6, ↓T7, ↓Option.bind_some, asSIBT, asT_t, asC_c, asS_s, asI_i, asB_b, asN_n, ei, beq_self_eq_true, Bool.not_true, Bool.not_false, encode_eq, D_wakes06, bne_self_eq_false, show (((8 + 4 : Nat) : Int) != 12) = false from rfl]
        · by_cases c5 : n < 55296
          · simp (disch := first | omega | (simp only [List.length_append, List.length_cons, List.length_nil, hl, l4, l6, l7]; omega)) only [↓need_d, ↓need_d2, ↓cond_d, ↓cond_nd, ↓cond_true, ↓cond_false, ↓TU, ↓T4, ↓T6, ↓T7, ↓Option.bind_some, asSIBT, asT_t, asC_c, asS_s, asI_i, asB_b, asN_n, ei, beq_self_eq_true, Bool.not_true, Bool.not_false, encode_eq, D_wakes06, bne_self_eq_false, show (((8 + 4 : Nat) : Int) != 12) = false from rfl]
          · have dg : decide ((n : Int) > 57343) = true := decide_eq_true (by omega)
            simp (disch := first | omega | (simp only [List.length_append, List.length_cons, List.length_nil, hl, l4, l6, l7]; omega)) only [↓need_d, ↓need_d2, ↓cond_d, ↓cond_nd, ↓cond_true, ↓cond_false, ↓TU, ↓T4, ↓T6, ↓T7, ↓Option.bind_some, asSIBT, asT_t, asC_c, asS_s, asI_i, asB_b, asN_n, ei, dg, beq_self_eq_true, Bool.not_true, Bool.not_false, encode_eq, D_wakes06, bne_self_eq_false, show (((8 + 4 : Nat) : Int) != 12) = false from rfl]
      · by_cases c5 : n < 55296
        · omega
        · have dg : decide ((n : Int) > 57343) = true := decide_eq_true (by omega)
          simp (disch := first | omega | (simp only [List.length_append, List.length_cons, List.length_nil, hl, l4, l6, l7]; omega)) only [↓need_d, ↓need_d2, ↓cond_d, ↓cond_nd, ↓cond_true, ↓cond_false, ↓TU, ↓T4, ↓T6, ↓T7, ↓Option.bind_some, asSIBT, asT_t, asC_c, asS_s, asI_i, asB_b, asN_n, ei, dg, beq_self_eq_true, Bool.not_true, Bool.not_false, encode_eq, D_wakes06, bne_self_eq_false, show (((8 + 4 : Nat) : Int) != 12) = false from rfl]
    · rw [if_neg (by omega), none_] at TU
      have dg : decide ((n : Int) > 57343) = false := decide_eq_false (by omega)
      rw [take_hex 117 4 n _ rfl rfl (by omega) l4 (h4 (by omega)), if_neg (by omega), none_] at T4
      simp (disch := first | omega | (simp only [List.length_append, List.length_cons, List.length_nil, hl, l4, l6, l7]; omega)) only [↓need_d, ↓need_d2, ↓cond_d, ↓cond_nd, ↓cond_true, ↓cond_false, ↓TU, ↓T4, ↓T6, ↓T7, ↓Option.bind_some, asSIBT, asT_t, asC_c, asS_s, asI_i, asB_b, asN_n, dg, beq_self_eq_true, Bool.not_true, Bool.not_false, encode_eq, D_wakes06, bne_self_eq_false, show (((8 + 4 : Nat) : Int) != 12) = false from rfl]
  · rw [if_neg (by omega), none_] at TU
    simp (disch := first | omega | (simp only [List.length_append, List.length_cons, List.length_nil, hl, l4, l6, l7]; omega)) only [↓need_d, ↓need_d2, ↓cond_d, ↓cond_nd, ↓cond_true, ↓cond_false, ↓TU, ↓T4, ↓T6, ↓T7, ↓Option.bind_some, asSIBT, asT_t, asC_c, asS_s, asI_i, asB_b, asN_n, beq_self_eq_true, Bool.not_true, Bool.not_false, encode_eq, D_wakes06, bne_self_eq_false, show (((8 + 4 : Nat) : Int) != 12) = false from rfl]

set_option maxHeartbeats 4000000 in
theorem D_DoubleRunes (i1 : Int) (b1 : Bool) (h0 : 0 ≤ i1) (h1 : i1 ≤ 4294967295) : D id_law06DoubleRunes [.int .u32 i1, .bool b1] = some ⟨.bool true, false, []⟩ := by
  obtain ⟨n, rfl⟩ : ∃ n : Nat, i1 = n := ⟨i1.toNat, by omega⟩
  refine den_fn (N := 100) (F := law06DoubleRunes) rfl rfl ?_
  rw [law06DoubleRunes_eq]
  show law06DoubleRunesr D 100 n b1 = _
  unfold law06DoubleRunesr
  rw [need_nd (by decide)]
  have eight : ∀ m : Nat, m < 4294967296 → D id_doubleHex [.int .u32 m, .int .i64 8] = some ⟨.str (hexL 8 m), false, []⟩ := fun m hm => D_Hex6 m hm 8
  have plain : ∀ m : Nat, m < 4294967296 → _ := fun m hm => runes_tree m hm (hexL 8 m) (hexL_length 8 m) (by rw [numL_hex, Nat.mod_eq_of_lt (by omega)]) (fun hh => by rw [hexL_drop 4 4, numL_hex, Nat.mod_eq_of_lt (by omega)]) (fun hh => by rw [hexL_drop 6 2, numL_hex, Nat.mod_eq_of_lt (by omega)])
  have small : ∀ m : Nat, m < 4294967296 → _ := fun m hm => runes_tree m hm ((((hexL 8 m).map low16).drop 0).take (hexL 8 m).length) (by rw [hexL_length, List.drop_zero, List.take_of_length_le (by rw [List.length_map, hexL_length]; omega), List.length_map, hexL_length])
    (by rw [hexL_length, List.drop_zero, List.take_of_length_le (by rw [List.length_map, hexL_length]; omega), numL_low _ _ (hexL_cap 8 m), numL_hex, Nat.mod_eq_of_lt (by omega)])
    (fun hh => by rw [hexL_length, List.drop_zero, List.take_of_length_le (by rw [List.length_map, hexL_length]; omega), ← List.map_drop, hexL_drop 4 4, numL_low _ _ (hexL_cap 4 m), numL_hex, Nat.mod_eq_of_lt (by omega)])
    (fun hh => by rw [hexL_length, List.drop_zero, List.take_of_length_le (by rw [List.length_map, hexL_length]; omega), ← List.map_drop, hexL_drop 6 2, numL_low _ _ (hexL_cap 2 m), numL_hex, Nat.mod_eq_of_lt (by omega)])
  have loop : ∀ (m : Nat) (k0 : Int → Nat → List UInt8 → Option Res), law06DoubleRunes_L1 D 100 k0 100 (m : Int) (hexL 8 m).length (((hexL 8 m).length : Nat) : Int) 0 (hexL 8 m) = k0 (m : Int) (hexL 8 m).length ((hexL 8 m).map low16) := fun m k0 => by
    rw [hexL_length]
    have := low_loop (hexL 8 m) (hexL_length 8 m) (hexL_cap 8 m) m 100 k0 100 0 (by omega) (by omega)
    rw [List.take_zero, List.drop_zero] at this
    exact this
  by_cases h3 : Int.tmod (n : Int) 4 = 3
  · rw [cond_beq h3, eight n (by omega)]
    simp only [Option.bind_some, asS_s]
    rw [cond_beq (show (((hexL 8 n).length : Nat) : Int) = 8 by rw [hexL_length]; rfl)]
    cases b1
    · exact plain n (by omega)
    · exact (loop n _).trans (small n (by omega))
  · have ht : Int.tmod (n : Int) 1118208 = ((n % 1118208 : Nat) : Int) := rfl
    have hlt : n % 1118208 < 4294967296 := by omega
    rw [cond_bne h3, need_nd (by decide), ht, eight _ hlt]
    generalize n % 1118208 = m at *
    simp only [Option.bind_some, asS_s]
    rw [cond_beq (show (((hexL 8 m).length : Nat) : Int) = 8 by rw [hexL_length]; rfl)]
    cases b1
    · exact plain _ hlt
    · exact (loop _ _).trans (small _ hlt)
end Go.Proofs.YtpgcjcggnfagfaaDoor.Vf
