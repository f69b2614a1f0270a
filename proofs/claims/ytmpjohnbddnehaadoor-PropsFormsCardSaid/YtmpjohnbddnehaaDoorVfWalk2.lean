/- The code of the functions that the statements reach, as our evaluator takes it, and what each of them comes to, readably: printed by a program of ours. No condition. -/
import Derived.Test.YtmpjohnbddnehaaDoorVfWalk1
namespace Go.Proofs.YtmpjohnbddnehaaDoor.Vf
set_option linter.unusedVariables false
set_option linter.unusedSimpArgs false
set_option maxRecDepth 100000


def law10PropsAliases_L1s (R : Nat → List AV → Option Res) (N : Nat) (go : Int → Int → List UInt8 → Int → Option Res) (k0 : Int → Int → List UInt8 → Option Res) (i4 : Int) (i5 : Int) (s1 : List UInt8) (i6 : Int) : Option Res :=
  bif decide ((i6 : Int) < i4) then
    (need (!decide (5 = 0)) <|
    need (decide (0 ≤ (Int.tmod i6 5 : Int)) && decide ((Int.tmod i6 5 : Int) ≤ (((([97, 66, 48, 95, 45] : List UInt8) : List UInt8).length : Nat) : Int))) <|
    need (decide (0 ≤ (1 : Int)) && decide ((1 : Int) ≤ ((((([97, 66, 48, 95, 45] : List UInt8).take ((([97, 66, 48, 95, 45] : List UInt8) : List UInt8).length)).drop (Int.toNat (Int.tmod i6 5)) : List UInt8).length : Nat) : Int))) <|
    need (decide (s1.length + ((((([97, 66, 48, 95, 45] : List UInt8).take ((([97, 66, 48, 95, 45] : List UInt8) : List UInt8).length)).drop (Int.toNat (Int.tmod i6 5))).take (Int.toNat 1)).drop 0 : List UInt8).length ≤ 9223372036854775807)) <|
    go i4 i5 (s1 ++ ((((([97, 66, 48, 95, 45] : List UInt8).take ((([97, 66, 48, 95, 45] : List UInt8) : List UInt8).length)).drop (Int.toNat (Int.tmod i6 5))).take (Int.toNat 1)).drop 0)) (IntKind.i64.wrap (i6 + 1)))
  else
    k0 i4 i5 s1
def law10PropsAliases_L1 (R : Nat → List AV → Option Res) (N : Nat) (k0 : Int → Int → List UInt8 → Option Res) : Nat → Int → Int → List UInt8 → Int → Option Res
  | 0, _, _, _, _ => none
  | n + 1, i4, i5, s1, i6 => law10PropsAliases_L1s R N (law10PropsAliases_L1 R N k0 n) k0 i4 i5 s1 i6
def law10PropsAliases_c0 : AC := .seq (.seq (.region [.op (some 16) none (.mv (.t 6)), .op (some 17) none (.mv (.t 0)), .op (some 18) none (.bin .lss (.t 16) (.t 17))]) (.cond (.t 18) (.skip) (.exit 0 [0, 1, 5] []))) (.seq (.block 1 (.region [.op (some 21) none (.mv (.t 5)), .op (some 22) none (.mv (.t 6)), .op (some 23) none (.bin .rem (.t 22) (.k (AV.int .i64 5))), .op (some 24) none (.sliceS (.k (AV.str ([97, 66, 48, 95, 45] : List UInt8))) (some (.t 23)) none), .op (some 25) none (.sliceS (.t 24) none (some (.k (AV.int .i64 1)))), .op (some 26) none (.bin .add (.t 21) (.t 25)), .op (some 5) none (.mv (.t 26))])) (.region [.op (some 19) none (.mv (.t 6)), .op (some 20) none (.bin .add (.t 19) (.k (AV.int .i64 1))), .op (some 6) none (.mv (.t 20))]))
theorem law10PropsAliases_L1s_eq (R : Nat → List AV → Option Res) (N : Nat) (K : Ex → St → Option Res) (W : St → Option Res) (i4 : Int) (i5 : Int) (s1 : List UInt8) (i6 : Int) :
    evC gl R N law10PropsAliases_c0 (Kseq (fun st' => W (prune [0, 1, 5, 6] [] st')) K) ⟨[(0, .imm (AV.int .i64 i4)), (1, .imm (AV.int .u8 i5)), (5, .imm (AV.str s1)), (6, .imm (AV.int .i64 i6))], []⟩ =
    law10PropsAliases_L1s R N (fun (i4 : Int) (i5 : Int) (s1 : List UInt8) (i6 : Int) => W ⟨[(0, .imm (AV.int .i64 i4)), (1, .imm (AV.int .u8 i5)), (5, .imm (AV.str s1)), (6, .imm (AV.int .i64 i6))], []⟩) (fun (i7 : Int) (i8 : Int) (s2 : List UInt8) => K (.exit 0) ⟨[(0, .imm (AV.int .i64 i7)), (1, .imm (AV.int .u8 i8)), (5, .imm (AV.str s2))], []⟩) i4 i5 s1 i6 := by
  kernel_rfl
theorem law10PropsAliases_L1_eq (R : Nat → List AV → Option Res) (N : Nat) (K : Ex → St → Option Res) : ∀ (n : Nat) (i4 : Int) (i5 : Int) (s1 : List UInt8) (i6 : Int),
    rounds [0, 1, 5, 6] [] (evC gl R N law10PropsAliases_c0) K n ⟨[(0, .imm (AV.int .i64 i4)), (1, .imm (AV.int .u8 i5)), (5, .imm (AV.str s1)), (6, .imm (AV.int .i64 i6))], []⟩ = law10PropsAliases_L1 R N (fun (i7 : Int) (i8 : Int) (s2 : List UInt8) => K (.exit 0) ⟨[(0, .imm (AV.int .i64 i7)), (1, .imm (AV.int .u8 i8)), (5, .imm (AV.str s2))], []⟩) n i4 i5 s1 i6
  | 0, _, _, _, _ => rfl
  | n + 1, i4, i5, s1, i6 => (law10PropsAliases_L1s_eq R N K (rounds [0, 1, 5, 6] [] (evC gl R N law10PropsAliases_c0) K n) i4 i5 s1 i6).trans
      (congrArg (fun go => law10PropsAliases_L1s R N go (fun (i7 : Int) (i8 : Int) (s2 : List UInt8) => K (.exit 0) ⟨[(0, .imm (AV.int .i64 i7)), (1, .imm (AV.int .u8 i8)), (5, .imm (AV.str s2))], []⟩) i4 i5 s1 i6) (funext fun i4 => funext fun i5 => funext fun s1 => funext fun i6 => law10PropsAliases_L1_eq R N K n i4 i5 s1 i6))
def law10PropsAliases_c1 : AC := .seq (.seq (.region [.op (some 27) none (.mv (.t 1)), .op (some 28) none (.bin .geq (.t 27) (.k (AV.int .u8 97))), .op (some 29) none (.mv (.t 28)), .split 29, .op (some 30) (some (29, true)) (.mv (.t 1)), .op (some 31) (some (29, true)) (.bin .leq (.t 30) (.k (AV.int .u8 122))), .op (some 32) none (.pick (.t 29) (.t 31) (.k (AV.bool false))), .op (some 33) none (.mv (.t 32)), .split 33, .op (some 34) (some (33, false)) (.mv (.t 1)), .op (some 35) (some (33, false)) (.bin .geq (.t 34) (.k (AV.int .u8 65))), .op (some 36) (some (33, false)) (.mv (.t 35)), .split 36, .op (some 37) (some (36, true)) (.mv (.t 1)), .op (some 38) (some (36, true)) (.bin .leq (.t 37) (.k (AV.int .u8 90))), .op (some 39) (some (33, false)) (.pick (.t 36) (.t 38) (.k (AV.bool false))), .op (some 40) none (.pick (.t 33) (.k (AV.bool true)) (.t 39)), .op (some 41) none (.mv (.t 40)), .split 41, .op (some 42) (some (41, false)) (.mv (.t 1)), .op (some 43) (some (41, false)) (.bin .geq (.t 42) (.k (AV.int .u8 48))), .op (some 44) (some (41, false)) (.mv (.t 43)), .split 44, .op (some 45) (some (44, true)) (.mv (.t 1)), .op (some 46) (some (44, true)) (.bin .leq (.t 45) (.k (AV.int .u8 57))), .op (some 47) (some (41, false)) (.pick (.t 44) (.t 46) (.k (AV.bool false))), .op (some 48) none (.pick (.t 41) (.k (AV.bool true)) (.t 47)), .op (some 49) none (.mv (.t 48)), .split 49, .op (some 50) (some (49, false)) (.mv (.t 1)), .op (some 51) (some (49, false)) (.bin .eql (.t 50) (.k (AV.int .u8 45))), .op (some 52) none (.pick (.t 49) (.k (AV.bool true)) (.t 51)), .op (some 53) none (.mv (.t 52)), .split 53, .op (some 54) (some (53, false)) (.mv (.t 1)), .op (some 55) (some (53, false)) (.bin .eql (.t 54) (.k (AV.int .u8 95))), .op (some 56) none (.pick (.t 53) (.k (AV.bool true)) (.t 55))]) (.cond (.t 56) (.region [.op (some 1) none (.mv (.k (AV.int .u8 44)))]) (.skip))) (.seq (.region [.op (some 58) none (.mv (.t 5)), .op (some 59) none (.bin .add (.k (AV.str ([42] : List UInt8))) (.t 58)), .op (some 60) none (.mv (.t 1)), .op (some 61) none (.bslice [.t 60] 1 true), .op (some 62) none (.cvStr (.t 61)), .op (some 63) none (.bin .add (.t 59) (.t 62)), .op (some 64) none (.cvBytes (.t 63)), .op (some 65) none (.call id_propsTakeAlias [.t 64] (.tup [.str, .int .i64, .bool])), .op (some 57) none (.mv (.t 65)), .op (some 66) none (.extract (.t 57) 0), .op (some 67) none (.extract (.t 57) 1), .op (some 68) none (.extract (.t 57) 2), .op (some 7) none (.mv (.t 66)), .op (some 8) none (.mv (.t 67)), .op (some 9) none (.mv (.t 68))]) (.seq (.region [.op (some 69) none (.mv (.t 0)), .op (some 70) none (.bin .geq (.t 69) (.k (AV.int .i64 1))), .op (some 71) none (.mv (.t 70)), .split 71, .op (some 72) (some (71, true)) (.mv (.t 0)), .op (some 73) (some (71, true)) (.bin .leq (.t 72) (.k (AV.int .i64 32))), .op (some 74) none (.pick (.t 71) (.t 73) (.k (AV.bool false))), .op (some 10) none (.mv (.t 74))]) (.seq (.region [.op (some 76) none (.mv (.t 5)), .op (some 77) none (.cvBytes (.t 76)), .op (some 78) none (.call id_propsTakeAlias [.t 77] (.tup [.str, .int .i64, .bool])), .op (some 75) none (.mv (.t 78)), .op (some 79) none (.extract (.t 75) 0), .op (some 80) none (.extract (.t 75) 1), .op (some 81) none (.extract (.t 75) 2), .op (some 11) none (.mv (.t 79)), .op (some 12) none (.mv (.t 80)), .op (some 13) none (.mv (.t 81))]) (.seq (.region [.op (some 82) none (.mv (.t 9)), .op (some 83) none (.mv (.t 10)), .op (some 84) none (.binB .eql (.t 82) (.t 83)), .op (some 85) none (.mv (.t 84)), .split 85, .op (some 86) (some (85, true)) (.mv (.t 9)), .op (some 87) (some (85, true)) (.un .not (.t 86)), .op (some 88) (some (85, true)) (.mv (.t 87)), .split 88, .op (some 89) (some (88, false)) (.mv (.t 7)), .op (some 90) (some (88, false)) (.mv (.t 5)), .op (some 91) (some (88, false)) (.bin .eql (.t 89) (.t 90)), .op (some 92) (some (88, false)) (.mv (.t 91)), .split 92, .op (some 93) (some (92, true)) (.mv (.t 8)), .op (some 94) (some (92, true)) (.mv (.t 0)), .op (some 95) (some (92, true)) (.bin .add (.t 94) (.k (AV.int .i64 1))), .op (some 96) (some (92, true)) (.bin .eql (.t 93) (.t 95)), .op (some 97) (some (88, false)) (.pick (.t 92) (.t 96) (.k (AV.bool false))), .op (some 98) (some (85, true)) (.pick (.t 88) (.k (AV.bool true)) (.t 97)), .op (some 99) none (.pick (.t 85) (.t 98) (.k (AV.bool false))), .op (some 100) none (.mv (.t 99)), .split 100, .op (some 101) (some (100, true)) (.mv (.t 13)), .op (some 102) (some (100, true)) (.un .not (.t 101)), .op (some 103) none (.pick (.t 100) (.t 102) (.k (AV.bool false))), .op (some 104) none (.mv (.t 103)), .split 104, .op (some 105) (some (104, true)) (.call id_law10Wakes [] (.bool)), .op (some 106) none (.pick (.t 104) (.t 105) (.k (AV.bool false))), .op (some 4) none (.mv (.t 106))]) (.ret [4] [])))))
def law10PropsAliases_c2 : AC := .seq (.region [.op (some 4) none (.mv (.k (AV.bool false)))]) (.seq (.region [.op (some 14) none (.mv (.t 0)), .op (some 15) none (.call id_keepWithin [.t 14, .k (AV.int .i64 35)] (.int .i64)), .op (some 0) none (.mv (.t 15))]) (.seq (.region [.op (some 5) none (.mv (.k (AV.str ([] : List UInt8))))]) (.seq (.seq (.region [.op (some 6) none (.mv (.k (AV.int .i64 0)))]) (.block 0 (.loop [0, 1, 5, 6] [] (law10PropsAliases_c0)))) (law10PropsAliases_c1))))
def law10PropsAliases : AFunc := ⟨2, 107, [.tmp 4], law10PropsAliases_c2⟩
def law10PropsAliasesr (R : Nat → List AV → Option Res) (N : Nat) (i1 : Int) (i2 : Int) : Option Res :=
  (R id_keepWithin [AV.int .i64 i1, AV.int .i64 35]).bind fun r1 =>
  asI .i64 r1.v fun i3 =>
  law10PropsAliases_L1 R N
    (fun i11 i12 s4 =>
      bif decide ((i12 : Int) ≥ 97) then
        (bif decide ((i12 : Int) ≤ 122) then
          (need (decide ((([42] : List UInt8) : List UInt8).length + s4.length ≤ 9223372036854775807)) <|
          need (decide ((([42] : List UInt8) ++ s4 : List UInt8).length + ([44] : List UInt8).length ≤ 9223372036854775807)) <|
          (R id_propsTakeAlias [AV.bytes ((([42] : List UInt8) ++ s4) ++ [44])]).bind fun r2 =>
          asSIBT r2.v fun s5 i13 b1 =>
          bif decide ((i11 : Int) ≥ 1) then
            ((R id_propsTakeAlias [AV.bytes s4]).bind fun r3 =>
            asSIBT r3.v fun s6 i14 b2 =>
            bif b1 == (decide ((i11 : Int) ≤ 32)) then
              (bif !b1 then
                (bif !b2 then
                  ((R id_law10Wakes []).bind fun r4 =>
                  asB r4.v fun b3 =>
                  some ⟨AV.bool b3, false, []⟩)
                else
                  some ⟨AV.bool false, false, []⟩)
              else
                bif s5 == s4 then
                  (bif (i13 : Int) == (IntKind.i64.wrap (i11 + 1)) then
                    (bif !b2 then
                      ((R id_law10Wakes []).bind fun r5 =>
                      asB r5.v fun b4 =>
                      some ⟨AV.bool b4, false, []⟩)
                    else
                      some ⟨AV.bool false, false, []⟩)
                  else
                    some ⟨AV.bool false, false, []⟩)
                else
                  some ⟨AV.bool false, false, []⟩)
            else
              some ⟨AV.bool false, false, []⟩)
          else
            (R id_propsTakeAlias [AV.bytes s4]).bind fun r6 =>
            asSIBT r6.v fun s7 i15 b5 =>
            bif b1 == false then
              (bif !b1 then
                (bif !b5 then
                  ((R id_law10Wakes []).bind fun r7 =>
                  asB r7.v fun b6 =>
                  some ⟨AV.bool b6, false, []⟩)
                else
                  some ⟨AV.bool false, false, []⟩)
              else
                bif s5 == s4 then
                  (bif (i13 : Int) == (IntKind.i64.wrap (i11 + 1)) then
                    (bif !b5 then
                      ((R id_law10Wakes []).bind fun r8 =>
                      asB r8.v fun b7 =>
                      some ⟨AV.bool b7, false, []⟩)
                    else
                      some ⟨AV.bool false, false, []⟩)
                  else
                    some ⟨AV.bool false, false, []⟩)
                else
                  some ⟨AV.bool false, false, []⟩)
            else
              some ⟨AV.bool false, false, []⟩)
        else
          bif decide ((i12 : Int) ≥ 65) then
            (bif decide ((i12 : Int) ≤ 90) then
              (need (decide ((([42] : List UInt8) : List UInt8).length + s4.length ≤ 9223372036854775807)) <|
              need (decide ((([42] : List UInt8) ++ s4 : List UInt8).length + ([44] : List UInt8).length ≤ 9223372036854775807)) <|
              (R id_propsTakeAlias [AV.bytes ((([42] : List UInt8) ++ s4) ++ [44])]).bind fun r9 =>
              asSIBT r9.v fun s8 i16 b8 =>
              bif decide ((i11 : Int) ≥ 1) then
                ((R id_propsTakeAlias [AV.bytes s4]).bind fun r10 =>
                asSIBT r10.v fun s9 i17 b9 =>
                bif b8 == (decide ((i11 : Int) ≤ 32)) then
                  (bif !b8 then
                    (bif !b9 then
                      ((R id_law10Wakes []).bind fun r11 =>
                      asB r11.v fun b10 =>
                      some ⟨AV.bool b10, false, []⟩)
                    else
                      some ⟨AV.bool false, false, []⟩)
                  else
                    bif s8 == s4 then
                      (bif (i16 : Int) == (IntKind.i64.wrap (i11 + 1)) then
                        (bif !b9 then
                          ((R id_law10Wakes []).bind fun r12 =>
                          asB r12.v fun b11 =>
                          some ⟨AV.bool b11, false, []⟩)
                        else
                          some ⟨AV.bool false, false, []⟩)
                      else
                        some ⟨AV.bool false, false, []⟩)
                    else
                      some ⟨AV.bool false, false, []⟩)
                else
                  some ⟨AV.bool false, false, []⟩)
              else
                (R id_propsTakeAlias [AV.bytes s4]).bind fun r13 =>
                asSIBT r13.v fun s10 i18 b12 =>
                bif b8 == false then
                  (bif !b8 then
                    (bif !b12 then
                      ((R id_law10Wakes []).bind fun r14 =>
                      asB r14.v fun b13 =>
                      some ⟨AV.bool b13, false, []⟩)
                    else
                      some ⟨AV.bool false, false, []⟩)
                  else
                    bif s8 == s4 then
                      (bif (i16 : Int) == (IntKind.i64.wrap (i11 + 1)) then
                        (bif !b12 then
                          ((R id_law10Wakes []).bind fun r15 =>
                          asB r15.v fun b14 =>
                          some ⟨AV.bool b14, false, []⟩)
                        else
                          some ⟨AV.bool false, false, []⟩)
                      else
                        some ⟨AV.bool false, false, []⟩)
                    else
                      some ⟨AV.bool false, false, []⟩)
                else
                  some ⟨AV.bool false, false, []⟩)
            else
              bif decide ((i12 : Int) ≥ 48) then
                (bif decide ((i12 : Int) ≤ 57) then
                  (need (decide ((([42] : List UInt8) : List UInt8).length + s4.length ≤ 9223372036854775807)) <|
                  need (decide ((([42] : List UInt8) ++ s4 : List UInt8).length + ([44] : List UInt8).length ≤ 9223372036854775807)) <|
                  (R id_propsTakeAlias [AV.bytes ((([42] : List UInt8) ++ s4) ++ [44])]).bind fun r16 =>
                  asSIBT r16.v fun s11 i19 b15 =>
                  bif decide ((i11 : Int) ≥ 1) then
                    ((R id_propsTakeAlias [AV.bytes s4]).bind fun r17 =>
                    asSIBT r17.v fun s12 i20 b16 =>
                    bif b15 == (decide ((i11 : Int) ≤ 32)) then
                      (bif !b15 then
                        (bif !b16 then
                          ((R id_law10Wakes []).bind fun r18 =>
                          asB r18.v fun b17 =>
                          some ⟨AV.bool b17, false, []⟩)
                        else
                          some ⟨AV.bool false, false, []⟩)
                      else
                        bif s11 == s4 then
                          (bif (i19 : Int) == (IntKind.i64.wrap (i11 + 1)) then
                            (bif !b16 then
                              ((R id_law10Wakes []).bind fun r19 =>
                              asB r19.v fun b18 =>
                              some ⟨AV.bool b18, false, []⟩)
                            else
                              some ⟨AV.bool false, false, []⟩)
                          else
                            some ⟨AV.bool false, false, []⟩)
                        else
                          some ⟨AV.bool false, false, []⟩)
                    else
                      some ⟨AV.bool false, false, []⟩)
                  else
                    (R id_propsTakeAlias [AV.bytes s4]).bind fun r20 =>
                    asSIBT r20.v fun s13 i21 b19 =>
                    bif b15 == false then
                      (bif !b15 then
                        (bif !b19 then
                          ((R id_law10Wakes []).bind fun r21 =>
                          asB r21.v fun b20 =>
                          some ⟨AV.bool b20, false, []⟩)
                        else
                          some ⟨AV.bool false, false, []⟩)
                      else
                        bif s11 == s4 then
                          (bif (i19 : Int) == (IntKind.i64.wrap (i11 + 1)) then
                            (bif !b19 then
                              ((R id_law10Wakes []).bind fun r22 =>
                              asB r22.v fun b21 =>
                              some ⟨AV.bool b21, false, []⟩)
                            else
                              some ⟨AV.bool false, false, []⟩)
                          else
                            some ⟨AV.bool false, false, []⟩)
                        else
                          some ⟨AV.bool false, false, []⟩)
                    else
                      some ⟨AV.bool false, false, []⟩)
                else
                  bif (i12 : Int) == 45 then
                    (need (decide ((([42] : List UInt8) : List UInt8).length + s4.length ≤ 9223372036854775807)) <|
                    need (decide ((([42] : List UInt8) ++ s4 : List UInt8).length + ([44] : List UInt8).length ≤ 9223372036854775807)) <|
                    (R id_propsTakeAlias [AV.bytes ((([42] : List UInt8) ++ s4) ++ [44])]).bind fun r23 =>
                    asSIBT r23.v fun s14 i22 b22 =>
                    bif decide ((i11 : Int) ≥ 1) then
                      ((R id_propsTakeAlias [AV.bytes s4]).bind fun r24 =>
                      asSIBT r24.v fun s15 i23 b23 =>
                      bif b22 == (decide ((i11 : Int) ≤ 32)) then
                        (bif !b22 then
                          (bif !b23 then
                            ((R id_law10Wakes []).bind fun r25 =>
                            asB r25.v fun b24 =>
                            some ⟨AV.bool b24, false, []⟩)
                          else
                            some ⟨AV.bool false, false, []⟩)
                        else
                          bif s14 == s4 then
                            (bif (i22 : Int) == (IntKind.i64.wrap (i11 + 1)) then
                              (bif !b23 then
                                ((R id_law10Wakes []).bind fun r26 =>
                                asB r26.v fun b25 =>
                                some ⟨AV.bool b25, false, []⟩)
                              else
                                some ⟨AV.bool false, false, []⟩)
                            else
                              some ⟨AV.bool false, false, []⟩)
                          else
                            some ⟨AV.bool false, false, []⟩)
                      else
                        some ⟨AV.bool false, false, []⟩)
                    else
                      (R id_propsTakeAlias [AV.bytes s4]).bind fun r27 =>
                      asSIBT r27.v fun s16 i24 b26 =>
                      bif b22 == false then
                        (bif !b22 then
                          (bif !b26 then
                            ((R id_law10Wakes []).bind fun r28 =>
                            asB r28.v fun b27 =>
                            some ⟨AV.bool b27, false, []⟩)
                          else
                            some ⟨AV.bool false, false, []⟩)
                        else
                          bif s14 == s4 then
                            (bif (i22 : Int) == (IntKind.i64.wrap (i11 + 1)) then
                              (bif !b26 then
                                ((R id_law10Wakes []).bind fun r29 =>
                                asB r29.v fun b28 =>
                                some ⟨AV.bool b28, false, []⟩)
                              else
                                some ⟨AV.bool false, false, []⟩)
                            else
                              some ⟨AV.bool false, false, []⟩)
                          else
                            some ⟨AV.bool false, false, []⟩)
                      else
                        some ⟨AV.bool false, false, []⟩)
                  else
                    bif (i12 : Int) == 95 then
                      (need (decide ((([42] : List UInt8) : List UInt8).length + s4.length ≤ 9223372036854775807)) <|
                      need (decide ((([42] : List UInt8) ++ s4 : List UInt8).length + ([44] : List UInt8).length ≤ 9223372036854775807)) <|
                      (R id_propsTakeAlias [AV.bytes ((([42] : List UInt8) ++ s4) ++ [44])]).bind fun r30 =>
                      asSIBT r30.v fun s17 i25 b29 =>
                      bif decide ((i11 : Int) ≥ 1) then
                        ((R id_propsTakeAlias [AV.bytes s4]).bind fun r31 =>
                        asSIBT r31.v fun s18 i26 b30 =>
                        bif b29 == (decide ((i11 : Int) ≤ 32)) then
                          (bif !b29 then
                            (bif !b30 then
                              ((R id_law10Wakes []).bind fun r32 =>
                              asB r32.v fun b31 =>
                              some ⟨AV.bool b31, false, []⟩)
                            else
                              some ⟨AV.bool false, false, []⟩)
                          else
                            bif s17 == s4 then
                              (bif (i25 : Int) == (IntKind.i64.wrap (i11 + 1)) then
                                (bif !b30 then
                                  ((R id_law10Wakes []).bind fun r33 =>
                                  asB r33.v fun b32 =>
                                  some ⟨AV.bool b32, false, []⟩)
                                else
                                  some ⟨AV.bool false, false, []⟩)
                              else
                                some ⟨AV.bool false, false, []⟩)
                            else
                              some ⟨AV.bool false, false, []⟩)
                        else
                          some ⟨AV.bool false, false, []⟩)
                      else
                        (R id_propsTakeAlias [AV.bytes s4]).bind fun r34 =>
                        asSIBT r34.v fun s19 i27 b33 =>
                        bif b29 == false then
                          (bif !b29 then
                            (bif !b33 then
                              ((R id_law10Wakes []).bind fun r35 =>
                              asB r35.v fun b34 =>
                              some ⟨AV.bool b34, false, []⟩)
                            else
                              some ⟨AV.bool false, false, []⟩)
                          else
                            bif s17 == s4 then
                              (bif (i25 : Int) == (IntKind.i64.wrap (i11 + 1)) then
                                (bif !b33 then
                                  ((R id_law10Wakes []).bind fun r36 =>
                                  asB r36.v fun b35 =>
                                  some ⟨AV.bool b35, false, []⟩)
                                else
                                  some ⟨AV.bool false, false, []⟩)
                              else
                                some ⟨AV.bool false, false, []⟩)
                            else
                              some ⟨AV.bool false, false, []⟩)
                        else
                          some ⟨AV.bool false, false, []⟩)
                    else
                      need (decide ((([42] : List UInt8) : List UInt8).length + s4.length ≤ 9223372036854775807)) <|
                      need (decide (0 ≤ (i12 : Int)) && decide ((i12 : Int) < 256)) <|
                      need (decide ((([42] : List UInt8) ++ s4 : List UInt8).length + ([UInt8.ofNat (Int.toNat i12)] : List UInt8).length ≤ 9223372036854775807)) <|
                      (R id_propsTakeAlias [AV.bytes ((([42] : List UInt8) ++ s4) ++ [UInt8.ofNat (Int.toNat i12)])]).bind fun r37 =>
                      asSIBT r37.v fun s20 i28 b36 =>
                      bif decide ((i11 : Int) ≥ 1) then
                        ((R id_propsTakeAlias [AV.bytes s4]).bind fun r38 =>
                        asSIBT r38.v fun s21 i29 b37 =>
                        bif b36 == (decide ((i11 : Int) ≤ 32)) then
                          (bif !b36 then
                            (bif !b37 then
                              ((R id_law10Wakes []).bind fun r39 =>
                              asB r39.v fun b38 =>
                              some ⟨AV.bool b38, false, []⟩)
                            else
                              some ⟨AV.bool false, false, []⟩)
                          else
                            bif s20 == s4 then
                              (bif (i28 : Int) == (IntKind.i64.wrap (i11 + 1)) then
                                (bif !b37 then
                                  ((R id_law10Wakes []).bind fun r40 =>
                                  asB r40.v fun b39 =>
                                  some ⟨AV.bool b39, false, []⟩)
                                else
                                  some ⟨AV.bool false, false, []⟩)
                              else
                                some ⟨AV.bool false, false, []⟩)
                            else
                              some ⟨AV.bool false, false, []⟩)
                        else
                          some ⟨AV.bool false, false, []⟩)
                      else
                        (R id_propsTakeAlias [AV.bytes s4]).bind fun r41 =>
                        asSIBT r41.v fun s22 i30 b40 =>
                        bif b36 == false then
                          (bif !b36 then
                            (bif !b40 then
                              ((R id_law10Wakes []).bind fun r42 =>
                              asB r42.v fun b41 =>
                              some ⟨AV.bool b41, false, []⟩)
                            else
                              some ⟨AV.bool false, false, []⟩)
                          else
                            bif s20 == s4 then
                              (bif (i28 : Int) == (IntKind.i64.wrap (i11 + 1)) then
                                (bif !b40 then
                                  ((R id_law10Wakes []).bind fun r43 =>
                                  asB r43.v fun b42 =>
                                  some ⟨AV.bool b42, false, []⟩)
                                else
                                  some ⟨AV.bool false, false, []⟩)
                              else
                                some ⟨AV.bool false, false, []⟩)
                            else
                              some ⟨AV.bool false, false, []⟩)
                        else
                          some ⟨AV.bool false, false, []⟩)
              else
                bif (i12 : Int) == 45 then
                  (need (decide ((([42] : List UInt8) : List UInt8).length + s4.length ≤ 9223372036854775807)) <|
                  need (decide ((([42] : List UInt8) ++ s4 : List UInt8).length + ([44] : List UInt8).length ≤ 9223372036854775807)) <|
                  (R id_propsTakeAlias [AV.bytes ((([42] : List UInt8) ++ s4) ++ [44])]).bind fun r44 =>
                  asSIBT r44.v fun s23 i31 b43 =>
                  bif decide ((i11 : Int) ≥ 1) then
                    ((R id_propsTakeAlias [AV.bytes s4]).bind fun r45 =>
                    asSIBT r45.v fun s24 i32 b44 =>
                    bif b43 == (decide ((i11 : Int) ≤ 32)) then
                      (bif !b43 then
                        (bif !b44 then
                          ((R id_law10Wakes []).bind fun r46 =>
                          asB r46.v fun b45 =>
                          some ⟨AV.bool b45, false, []⟩)
                        else
                          some ⟨AV.bool false, false, []⟩)
                      else
                        bif s23 == s4 then
                          (bif (i31 : Int) == (IntKind.i64.wrap (i11 + 1)) then
                            (bif !b44 then
                              ((R id_law10Wakes []).bind fun r47 =>
                              asB r47.v fun b46 =>
                              some ⟨AV.bool b46, false, []⟩)
                            else
                              some ⟨AV.bool false, false, []⟩)
                          else
                            some ⟨AV.bool false, false, []⟩)
                        else
                          some ⟨AV.bool false, false, []⟩)
                    else
                      some ⟨AV.bool false, false, []⟩)
                  else
                    (R id_propsTakeAlias [AV.bytes s4]).bind fun r48 =>
                    asSIBT r48.v fun s25 i33 b47 =>
                    bif b43 == false then
                      (bif !b43 then
                        (bif !b47 then
                          ((R id_law10Wakes []).bind fun r49 =>
                          asB r49.v fun b48 =>
                          some ⟨AV.bool b48, false, []⟩)
                        else
                          some ⟨AV.bool false, false, []⟩)
                      else
                        bif s23 == s4 then
                          (bif (i31 : Int) == (IntKind.i64.wrap (i11 + 1)) then
                            (bif !b47 then
                              ((R id_law10Wakes []).bind fun r50 =>
                              asB r50.v fun b49 =>
                              some ⟨AV.bool b49, false, []⟩)
                            else
                              some ⟨AV.bool false, false, []⟩)
                          else
                            some ⟨AV.bool false, false, []⟩)
                        else
                          some ⟨AV.bool false, false, []⟩)
                    else
                      some ⟨AV.bool false, false, []⟩)
                else
                  bif (i12 : Int) == 95 then
                    (need (decide ((([42] : List UInt8) : List UInt8).length + s4.length ≤ 9223372036854775807)) <|
                    need (decide ((([42] : List UInt8) ++ s4 : List UInt8).length + ([44] : List UInt8).length ≤ 9223372036854775807)) <|
                    (R id_propsTakeAlias [AV.bytes ((([42] : List UInt8) ++ s4) ++ [44])]).bind fun r51 =>
                    asSIBT r51.v fun s26 i34 b50 =>
                    bif decide ((i11 : Int) ≥ 1) then
                      ((R id_propsTakeAlias [AV.bytes s4]).bind fun r52 =>
                      asSIBT r52.v fun s27 i35 b51 =>
                      bif b50 == (decide ((i11 : Int) ≤ 32)) then
                        (bif !b50 then
                          (bif !b51 then
                            ((R id_law10Wakes []).bind fun r53 =>
                            asB r53.v fun b52 =>
                            some ⟨AV.bool b52, false, []⟩)
                          else
                            some ⟨AV.bool false, false, []⟩)
                        else
                          bif s26 == s4 then
                            (bif (i34 : Int) == (IntKind.i64.wrap (i11 + 1)) then
                              (bif !b51 then
                                ((R id_law10Wakes []).bind fun r54 =>
                                asB r54.v fun b53 =>
                                some ⟨AV.bool b53, false, []⟩)
                              else
                                some ⟨AV.bool false, false, []⟩)
                            else
                              some ⟨AV.bool false, false, []⟩)
                          else
                            some ⟨AV.bool false, false, []⟩)
                      else
                        some ⟨AV.bool false, false, []⟩)
                    else
                      (R id_propsTakeAlias [AV.bytes s4]).bind fun r55 =>
                      asSIBT r55.v fun s28 i36 b54 =>
                      bif b50 == false then
                        (bif !b50 then
                          (bif !b54 then
                            ((R id_law10Wakes []).bind fun r56 =>
                            asB r56.v fun b55 =>
                            some ⟨AV.bool b55, false, []⟩)
                          else
                            some ⟨AV.bool false, false, []⟩)
                        else
                          bif s26 == s4 then
                            (bif (i34 : Int) == (IntKind.i64.wrap (i11 + 1)) then
                              (bif !b54 then
                                ((R id_law10Wakes []).bind fun r57 =>
                                asB r57.v fun b56 =>
                                some ⟨AV.bool b56, false, []⟩)
                              else
                                some ⟨AV.bool false, false, []⟩)
                            else
                              some ⟨AV.bool false, false, []⟩)
                          else
                            some ⟨AV.bool false, false, []⟩)
                      else
                        some ⟨AV.bool false, false, []⟩)
                  else
                    need (decide ((([42] : List UInt8) : List UInt8).length + s4.length ≤ 9223372036854775807)) <|
                    need (decide (0 ≤ (i12 : Int)) && decide ((i12 : Int) < 256)) <|
                    need (decide ((([42] : List UInt8) ++ s4 : List UInt8).length + ([UInt8.ofNat (Int.toNat i12)] : List UInt8).length ≤ 9223372036854775807)) <|
                    (R id_propsTakeAlias [AV.bytes ((([42] : List UInt8) ++ s4) ++ [UInt8.ofNat (Int.toNat i12)])]).bind fun r58 =>
                    asSIBT r58.v fun s29 i37 b57 =>
                    bif decide ((i11 : Int) ≥ 1) then
                      ((R id_propsTakeAlias [AV.bytes s4]).bind fun r59 =>
                      asSIBT r59.v fun s30 i38 b58 =>
                      bif b57 == (decide ((i11 : Int) ≤ 32)) then
                        (bif !b57 then
                          (bif !b58 then
                            ((R id_law10Wakes []).bind fun r60 =>
                            asB r60.v fun b59 =>
                            some ⟨AV.bool b59, false, []⟩)
                          else
                            some ⟨AV.bool false, false, []⟩)
                        else
                          bif s29 == s4 then
                            (bif (i37 : Int) == (IntKind.i64.wrap (i11 + 1)) then
                              (bif !b58 then
                                ((R id_law10Wakes []).bind fun r61 =>
                                asB r61.v fun b60 =>
                                some ⟨AV.bool b60, false, []⟩)
                              else
                                some ⟨AV.bool false, false, []⟩)
                            else
                              some ⟨AV.bool false, false, []⟩)
                          else
                            some ⟨AV.bool false, false, []⟩)
                      else
                        some ⟨AV.bool false, false, []⟩)
                    else
                      (R id_propsTakeAlias [AV.bytes s4]).bind fun r62 =>
                      asSIBT r62.v fun s31 i39 b61 =>
                      bif b57 == false then
                        (bif !b57 then
                          (bif !b61 then
                            ((R id_law10Wakes []).bind fun r63 =>
                            asB r63.v fun b62 =>
                            some ⟨AV.bool b62, false, []⟩)
                          else
                            some ⟨AV.bool false, false, []⟩)
                        else
                          bif s29 == s4 then
                            (bif (i37 : Int) == (IntKind.i64.wrap (i11 + 1)) then
                              (bif !b61 then
                                ((R id_law10Wakes []).bind fun r64 =>
                                asB r64.v fun b63 =>
                                some ⟨AV.bool b63, false, []⟩)
                              else
                                some ⟨AV.bool false, false, []⟩)
                            else
                              some ⟨AV.bool false, false, []⟩)
                          else
                            some ⟨AV.bool false, false, []⟩)
                      else
                        some ⟨AV.bool false, false, []⟩)
          else
            bif decide ((i12 : Int) ≥ 48) then
              (bif decide ((i12 : Int) ≤ 57) then
                (need (decide ((([42] : List UInt8) : List UInt8).length + s4.length ≤ 9223372036854775807)) <|
                need (decide ((([42] : List UInt8) ++ s4 : List UInt8).length + ([44] : List UInt8).length ≤ 9223372036854775807)) <|
                (R id_propsTakeAlias [AV.bytes ((([42] : List UInt8) ++ s4) ++ [44])]).bind fun r65 =>
                asSIBT r65.v fun s32 i40 b64 =>
                bif decide ((i11 : Int) ≥ 1) then
                  ((R id_propsTakeAlias [AV.bytes s4]).bind fun r66 =>
                  asSIBT r66.v fun s33 i41 b65 =>
                  bif b64 == (decide ((i11 : Int) ≤ 32)) then
                    (bif !b64 then
                      (bif !b65 then
                        ((R id_law10Wakes []).bind fun r67 =>
                        asB r67.v fun b66 =>
                        some ⟨AV.bool b66, false, []⟩)
                      else
                        some ⟨AV.bool false, false, []⟩)
                    else
                      bif s32 == s4 then
                        (bif (i40 : Int) == (IntKind.i64.wrap (i11 + 1)) then
                          (bif !b65 then
                            ((R id_law10Wakes []).bind fun r68 =>
                            asB r68.v fun b67 =>
                            some ⟨AV.bool b67, false, []⟩)
                          else
                            some ⟨AV.bool false, false, []⟩)
                        else
                          some ⟨AV.bool false, false, []⟩)
                      else
                        some ⟨AV.bool false, false, []⟩)
                  else
                    some ⟨AV.bool false, false, []⟩)
                else
                  (R id_propsTakeAlias [AV.bytes s4]).bind fun r69 =>
                  asSIBT r69.v fun s34 i42 b68 =>
                  bif b64 == false then
                    (bif !b64 then
                      (bif !b68 then
                        ((R id_law10Wakes []).bind fun r70 =>
                        asB r70.v fun b69 =>
                        some ⟨AV.bool b69, false, []⟩)
                      else
                        some ⟨AV.bool false, false, []⟩)
                    else
                      bif s32 == s4 then
                        (bif (i40 : Int) == (IntKind.i64.wrap (i11 + 1)) then
                          (bif !b68 then
                            ((R id_law10Wakes []).bind fun r71 =>
                            asB r71.v fun b70 =>
                            some ⟨AV.bool b70, false, []⟩)
                          else
                            some ⟨AV.bool false, false, []⟩)
                        else
                          some ⟨AV.bool false, false, []⟩)
                      else
                        some ⟨AV.bool false, false, []⟩)
                  else
                    some ⟨AV.bool false, false, []⟩)
              else
                bif (i12 : Int) == 45 then
                  (need (decide ((([42] : List UInt8) : List UInt8).length + s4.length ≤ 9223372036854775807)) <|
                  need (decide ((([42] : List UInt8) ++ s4 : List UInt8).length + ([44] : List UInt8).length ≤ 9223372036854775807)) <|
                  (R id_propsTakeAlias [AV.bytes ((([42] : List UInt8) ++ s4) ++ [44])]).bind fun r72 =>
                  asSIBT r72.v fun s35 i43 b71 =>
                  bif decide ((i11 : Int) ≥ 1) then
                    ((R id_propsTakeAlias [AV.bytes s4]).bind fun r73 =>
                    asSIBT r73.v fun s36 i44 b72 =>
                    bif b71 == (decide ((i11 : Int) ≤ 32)) then
                      (bif !b71 then
                        (bif !b72 then
                          ((R id_law10Wakes []).bind fun r74 =>
                          asB r74.v fun b73 =>
                          some ⟨AV.bool b73, false, []⟩)
                        else
                          some ⟨AV.bool false, false, []⟩)
                      else
                        bif s35 == s4 then
                          (bif (i43 : Int) == (IntKind.i64.wrap (i11 + 1)) then
                            (bif !b72 then
                              ((R id_law10Wakes []).bind fun r75 =>
                              asB r75.v fun b74 =>
                              some ⟨AV.bool b74, false, []⟩)
                            else
                              some ⟨AV.bool false, false, []⟩)
                          else
                            some ⟨AV.bool false, false, []⟩)
                        else
                          some ⟨AV.bool false, false, []⟩)
                    else
                      some ⟨AV.bool false, false, []⟩)
                  else
                    (R id_propsTakeAlias [AV.bytes s4]).bind fun r76 =>
                    asSIBT r76.v fun s37 i45 b75 =>
                    bif b71 == false then
                      (bif !b71 then
                        (bif !b75 then
                          ((R id_law10Wakes []).bind fun r77 =>
                          asB r77.v fun b76 =>
                          some ⟨AV.bool b76, false, []⟩)
                        else
                          some ⟨AV.bool false, false, []⟩)
                      else
                        bif s35 == s4 then
                          (bif (i43 : Int) == (IntKind.i64.wrap (i11 + 1)) then
                            (bif !b75 then
                              ((R id_law10Wakes []).bind fun r78 =>
                              asB r78.v fun b77 =>
                              some ⟨AV.bool b77, false, []⟩)
                            else
                              some ⟨AV.bool false, false, []⟩)
                          else
                            some ⟨AV.bool false, false, []⟩)
                        else
                          some ⟨AV.bool false, false, []⟩)
                    else
                      some ⟨AV.bool false, false, []⟩)
                else
                  bif (i12 : Int) == 95 then
                    (need (decide ((([42] : List UInt8) : List UInt8).length + s4.length ≤ 9223372036854775807)) <|
                    need (decide ((([42] : List UInt8) ++ s4 : List UInt8).length + ([44] : List UInt8).length ≤ 9223372036854775807)) <|
                    (R id_propsTakeAlias [AV.bytes ((([42] : List UInt8) ++ s4) ++ [44])]).bind fun r79 =>
                    asSIBT r79.v fun s38 i46 b78 =>
                    bif decide ((i11 : Int) ≥ 1) then
                      ((R id_propsTakeAlias [AV.bytes s4]).bind fun r80 =>
                      asSIBT r80.v fun s39 i47 b79 =>
                      bif b78 == (decide ((i11 : Int) ≤ 32)) then
                        (bif !b78 then
                          (bif !b79 then
                            ((R id_law10Wakes []).bind fun r81 =>
                            asB r81.v fun b80 =>
                            some ⟨AV.bool b80, false, []⟩)
                          else
                            some ⟨AV.bool false, false, []⟩)
                        else
                          bif s38 == s4 then
                            (bif (i46 : Int) == (IntKind.i64.wrap (i11 + 1)) then
                              (bif !b79 then
                                ((R id_law10Wakes []).bind fun r82 =>
                                asB r82.v fun b81 =>
                                some ⟨AV.bool b81, false, []⟩)
                              else
                                some ⟨AV.bool false, false, []⟩)
                            else
                              some ⟨AV.bool false, false, []⟩)
                          else
                            some ⟨AV.bool false, false, []⟩)
                      else
                        some ⟨AV.bool false, false, []⟩)
                    else
                      (R id_propsTakeAlias [AV.bytes s4]).bind fun r83 =>
                      asSIBT r83.v fun s40 i48 b82 =>
                      bif b78 == false then
                        (bif !b78 then
                          (bif !b82 then
                            ((R id_law10Wakes []).bind fun r84 =>
                            asB r84.v fun b83 =>
                            some ⟨AV.bool b83, false, []⟩)
                          else
                            some ⟨AV.bool false, false, []⟩)
                        else
                          bif s38 == s4 then
                            (bif (i46 : Int) == (IntKind.i64.wrap (i11 + 1)) then
                              (bif !b82 then
                                ((R id_law10Wakes []).bind fun r85 =>
                                asB r85.v fun b84 =>
                                some ⟨AV.bool b84, false, []⟩)
                              else
                                some ⟨AV.bool false, false, []⟩)
                            else
                              some ⟨AV.bool false, false, []⟩)
                          else
                            some ⟨AV.bool false, false, []⟩)
                      else
                        some ⟨AV.bool false, false, []⟩)
                  else
                    need (decide ((([42] : List UInt8) : List UInt8).length + s4.length ≤ 9223372036854775807)) <|
                    need (decide (0 ≤ (i12 : Int)) && decide ((i12 : Int) < 256)) <|
                    need (decide ((([42] : List UInt8) ++ s4 : List UInt8).length + ([UInt8.ofNat (Int.toNat i12)] : List UInt8).length ≤ 9223372036854775807)) <|
                    (R id_propsTakeAlias [AV.bytes ((([42] : List UInt8) ++ s4) ++ [UInt8.ofNat (Int.toNat i12)])]).bind fun r86 =>
                    asSIBT r86.v fun s41 i49 b85 =>
                    bif decide ((i11 : Int) ≥ 1) then
                      ((R id_propsTakeAlias [AV.bytes s4]).bind fun r87 =>
                      asSIBT r87.v fun s42 i50 b86 =>
                      bif b85 == (decide ((i11 : Int) ≤ 32)) then
                        (bif !b85 then
                          (bif !b86 then
                            ((R id_law10Wakes []).bind fun r88 =>
                            asB r88.v fun b87 =>
                            some ⟨AV.bool b87, false, []⟩)
                          else
                            some ⟨AV.bool false, false, []⟩)
                        else
                          bif s41 == s4 then
                            (bif (i49 : Int) == (IntKind.i64.wrap (i11 + 1)) then
                              (bif !b86 then
                                ((R id_law10Wakes []).bind fun r89 =>
                                asB r89.v fun b88 =>
                                some ⟨AV.bool b88, false, []⟩)
                              else
                                some ⟨AV.bool false, false, []⟩)
                            else
                              some ⟨AV.bool false, false, []⟩)
                          else
                            some ⟨AV.bool false, false, []⟩)
                      else
                        some ⟨AV.bool false, false, []⟩)
                    else
                      (R id_propsTakeAlias [AV.bytes s4]).bind fun r90 =>
                      asSIBT r90.v fun s43 i51 b89 =>
                      bif b85 == false then
                        (bif !b85 then
                          (bif !b89 then
                            ((R id_law10Wakes []).bind fun r91 =>
                            asB r91.v fun b90 =>
                            some ⟨AV.bool b90, false, []⟩)
                          else
                            some ⟨AV.bool false, false, []⟩)
                        else
                          bif s41 == s4 then
                            (bif (i49 : Int) == (IntKind.i64.wrap (i11 + 1)) then
                              (bif !b89 then
                                ((R id_law10Wakes []).bind fun r92 =>
                                asB r92.v fun b91 =>
                                some ⟨AV.bool b91, false, []⟩)
                              else
                                some ⟨AV.bool false, false, []⟩)
                            else
                              some ⟨AV.bool false, false, []⟩)
                          else
                            some ⟨AV.bool false, false, []⟩)
                      else
                        some ⟨AV.bool false, false, []⟩)
            else
              bif (i12 : Int) == 45 then
                (need (decide ((([42] : List UInt8) : List UInt8).length + s4.length ≤ 9223372036854775807)) <|
                need (decide ((([42] : List UInt8) ++ s4 : List UInt8).length + ([44] : List UInt8).length ≤ 9223372036854775807)) <|
                (R id_propsTakeAlias [AV.bytes ((([42] : List UInt8) ++ s4) ++ [44])]).bind fun r93 =>
                asSIBT r93.v fun s44 i52 b92 =>
                bif decide ((i11 : Int) ≥ 1) then
                  ((R id_propsTakeAlias [AV.bytes s4]).bind fun r94 =>
                  asSIBT r94.v fun s45 i53 b93 =>
                  bif b92 == (decide ((i11 : Int) ≤ 32)) then
                    (bif !b92 then
                      (bif !b93 then
                        ((R id_law10Wakes []).bind fun r95 =>
                        asB r95.v fun b94 =>
                        some ⟨AV.bool b94, false, []⟩)
                      else
                        some ⟨AV.bool false, false, []⟩)
                    else
                      bif s44 == s4 then
                        (bif (i52 : Int) == (IntKind.i64.wrap (i11 + 1)) then
                          (bif !b93 then
                            ((R id_law10Wakes []).bind fun r96 =>
                            asB r96.v fun b95 =>
                            some ⟨AV.bool b95, false, []⟩)
                          else
                            some ⟨AV.bool false, false, []⟩)
                        else
                          some ⟨AV.bool false, false, []⟩)
                      else
                        some ⟨AV.bool false, false, []⟩)
                  else
                    some ⟨AV.bool false, false, []⟩)
                else
                  (R id_propsTakeAlias [AV.bytes s4]).bind fun r97 =>
                  asSIBT r97.v fun s46 i54 b96 =>
                  bif b92 == false then
                    (bif !b92 then
                      (bif !b96 then
                        ((R id_law10Wakes []).bind fun r98 =>
                        asB r98.v fun b97 =>
                        some ⟨AV.bool b97, false, []⟩)
                      else
                        some ⟨AV.bool false, false, []⟩)
                    else
                      bif s44 == s4 then
                        (bif (i52 : Int) == (IntKind.i64.wrap (i11 + 1)) then
                          (bif !b96 then
                            ((R id_law10Wakes []).bind fun r99 =>
                            asB r99.v fun b98 =>
                            some ⟨AV.bool b98, false, []⟩)
                          else
                            some ⟨AV.bool false, false, []⟩)
                        else
                          some ⟨AV.bool false, false, []⟩)
                      else
                        some ⟨AV.bool false, false, []⟩)
                  else
                    some ⟨AV.bool false, false, []⟩)
              else
                bif (i12 : Int) == 95 then
                  (need (decide ((([42] : List UInt8) : List UInt8).length + s4.length ≤ 9223372036854775807)) <|
                  need (decide ((([42] : List UInt8) ++ s4 : List UInt8).length + ([44] : List UInt8).length ≤ 9223372036854775807)) <|
                  (R id_propsTakeAlias [AV.bytes ((([42] : List UInt8) ++ s4) ++ [44])]).bind fun r100 =>
                  asSIBT r100.v fun s47 i55 b99 =>
                  bif decide ((i11 : Int) ≥ 1) then
                    ((R id_propsTakeAlias [AV.bytes s4]).bind fun r101 =>
                    asSIBT r101.v fun s48 i56 b100 =>
                    bif b99 == (decide ((i11 : Int) ≤ 32)) then
                      (bif !b99 then
                        (bif !b100 then
                          ((R id_law10Wakes []).bind fun r102 =>
                          asB r102.v fun b101 =>
                          some ⟨AV.bool b101, false, []⟩)
                        else
                          some ⟨AV.bool false, false, []⟩)
                      else
                        bif s47 == s4 then
                          (bif (i55 : Int) == (IntKind.i64.wrap (i11 + 1)) then
                            (bif !b100 then
                              ((R id_law10Wakes []).bind fun r103 =>
                              asB r103.v fun b102 =>
                              some ⟨AV.bool b102, false, []⟩)
                            else
                              some ⟨AV.bool false, false, []⟩)
                          else
                            some ⟨AV.bool false, false, []⟩)
                        else
                          some ⟨AV.bool false, false, []⟩)
                    else
                      some ⟨AV.bool false, false, []⟩)
                  else
                    (R id_propsTakeAlias [AV.bytes s4]).bind fun r104 =>
                    asSIBT r104.v fun s49 i57 b103 =>
                    bif b99 == false then
                      (bif !b99 then
                        (bif !b103 then
                          ((R id_law10Wakes []).bind fun r105 =>
                          asB r105.v fun b104 =>
                          some ⟨AV.bool b104, false, []⟩)
                        else
                          some ⟨AV.bool false, false, []⟩)
                      else
                        bif s47 == s4 then
                          (bif (i55 : Int) == (IntKind.i64.wrap (i11 + 1)) then
                            (bif !b103 then
                              ((R id_law10Wakes []).bind fun r106 =>
                              asB r106.v fun b105 =>
                              some ⟨AV.bool b105, false, []⟩)
                            else
                              some ⟨AV.bool false, false, []⟩)
                          else
                            some ⟨AV.bool false, false, []⟩)
                        else
                          some ⟨AV.bool false, false, []⟩)
                    else
                      some ⟨AV.bool false, false, []⟩)
                else
                  need (decide ((([42] : List UInt8) : List UInt8).length + s4.length ≤ 9223372036854775807)) <|
                  need (decide (0 ≤ (i12 : Int)) && decide ((i12 : Int) < 256)) <|
                  need (decide ((([42] : List UInt8) ++ s4 : List UInt8).length + ([UInt8.ofNat (Int.toNat i12)] : List UInt8).length ≤ 9223372036854775807)) <|
                  (R id_propsTakeAlias [AV.bytes ((([42] : List UInt8) ++ s4) ++ [UInt8.ofNat (Int.toNat i12)])]).bind fun r107 =>
                  asSIBT r107.v fun s50 i58 b106 =>
                  bif decide ((i11 : Int) ≥ 1) then
                    ((R id_propsTakeAlias [AV.bytes s4]).bind fun r108 =>
                    asSIBT r108.v fun s51 i59 b107 =>
                    bif b106 == (decide ((i11 : Int) ≤ 32)) then
                      (bif !b106 then
                        (bif !b107 then
                          ((R id_law10Wakes []).bind fun r109 =>
                          asB r109.v fun b108 =>
                          some ⟨AV.bool b108, false, []⟩)
                        else
                          some ⟨AV.bool false, false, []⟩)
                      else
                        bif s50 == s4 then
                          (bif (i58 : Int) == (IntKind.i64.wrap (i11 + 1)) then
                            (bif !b107 then
                              ((R id_law10Wakes []).bind fun r110 =>
                              asB r110.v fun b109 =>
                              some ⟨AV.bool b109, false, []⟩)
                            else
                              some ⟨AV.bool false, false, []⟩)
                          else
                            some ⟨AV.bool false, false, []⟩)
                        else
                          some ⟨AV.bool false, false, []⟩)
                    else
                      some ⟨AV.bool false, false, []⟩)
                  else
                    (R id_propsTakeAlias [AV.bytes s4]).bind fun r111 =>
                    asSIBT r111.v fun s52 i60 b110 =>
                    bif b106 == false then
                      (bif !b106 then
                        (bif !b110 then
                          ((R id_law10Wakes []).bind fun r112 =>
                          asB r112.v fun b111 =>
                          some ⟨AV.bool b111, false, []⟩)
                        else
                          some ⟨AV.bool false, false, []⟩)
                      else
                        bif s50 == s4 then
                          (bif (i58 : Int) == (IntKind.i64.wrap (i11 + 1)) then
                            (bif !b110 then
                              ((R id_law10Wakes []).bind fun r113 =>
                              asB r113.v fun b112 =>
                              some ⟨AV.bool b112, false, []⟩)
                            else
                              some ⟨AV.bool false, false, []⟩)
                          else
                            some ⟨AV.bool false, false, []⟩)
                        else
                          some ⟨AV.bool false, false, []⟩)
                    else
                      some ⟨AV.bool false, false, []⟩)
      else
        bif decide ((i12 : Int) ≥ 65) then
          (bif decide ((i12 : Int) ≤ 90) then
            (need (decide ((([42] : List UInt8) : List UInt8).length + s4.length ≤ 9223372036854775807)) <|
            need (decide ((([42] : List UInt8) ++ s4 : List UInt8).length + ([44] : List UInt8).length ≤ 9223372036854775807)) <|
            (R id_propsTakeAlias [AV.bytes ((([42] : List UInt8) ++ s4) ++ [44])]).bind fun r114 =>
            asSIBT r114.v fun s53 i61 b113 =>
            bif decide ((i11 : Int) ≥ 1) then
              ((R id_propsTakeAlias [AV.bytes s4]).bind fun r115 =>
              asSIBT r115.v fun s54 i62 b114 =>
              bif b113 == (decide ((i11 : Int) ≤ 32)) then
                (bif !b113 then
                  (bif !b114 then
                    ((R id_law10Wakes []).bind fun r116 =>
                    asB r116.v fun b115 =>
                    some ⟨AV.bool b115, false, []⟩)
                  else
                    some ⟨AV.bool false, false, []⟩)
                else
                  bif s53 == s4 then
                    (bif (i61 : Int) == (IntKind.i64.wrap (i11 + 1)) then
                      (bif !b114 then
                        ((R id_law10Wakes []).bind fun r117 =>
                        asB r117.v fun b116 =>
                        some ⟨AV.bool b116, false, []⟩)
                      else
                        some ⟨AV.bool false, false, []⟩)
                    else
                      some ⟨AV.bool false, false, []⟩)
                  else
                    some ⟨AV.bool false, false, []⟩)
              else
                some ⟨AV.bool false, false, []⟩)
            else
              (R id_propsTakeAlias [AV.bytes s4]).bind fun r118 =>
              asSIBT r118.v fun s55 i63 b117 =>
              bif b113 == false then
                (bif !b113 then
                  (bif !b117 then
                    ((R id_law10Wakes []).bind fun r119 =>
                    asB r119.v fun b118 =>
                    some ⟨AV.bool b118, false, []⟩)
                  else
                    some ⟨AV.bool false, false, []⟩)
                else
                  bif s53 == s4 then
                    (bif (i61 : Int) == (IntKind.i64.wrap (i11 + 1)) then
                      (bif !b117 then
                        ((R id_law10Wakes []).bind fun r120 =>
                        asB r120.v fun b119 =>
                        some ⟨AV.bool b119, false, []⟩)
                      else
                        some ⟨AV.bool false, false, []⟩)
                    else
                      some ⟨AV.bool false, false, []⟩)
                  else
                    some ⟨AV.bool false, false, []⟩)
              else
                some ⟨AV.bool false, false, []⟩)
          else
            bif decide ((i12 : Int) ≥ 48) then
              (bif decide ((i12 : Int) ≤ 57) then
                (need (decide ((([42] : List UInt8) : List UInt8).length + s4.length ≤ 9223372036854775807)) <|
                need (decide ((([42] : List UInt8) ++ s4 : List UInt8).length + ([44] : List UInt8).length ≤ 9223372036854775807)) <|
                (R id_propsTakeAlias [AV.bytes ((([42] : List UInt8) ++ s4) ++ [44])]).bind fun r121 =>
                asSIBT r121.v fun s56 i64 b120 =>
                bif decide ((i11 : Int) ≥ 1) then
                  ((R id_propsTakeAlias [AV.bytes s4]).bind fun r122 =>
                  asSIBT r122.v fun s57 i65 b121 =>
                  bif b120 == (decide ((i11 : Int) ≤ 32)) then
                    (bif !b120 then
                      (bif !b121 then
                        ((R id_law10Wakes []).bind fun r123 =>
                        asB r123.v fun b122 =>
                        some ⟨AV.bool b122, false, []⟩)
                      else
                        some ⟨AV.bool false, false, []⟩)
                    else
                      bif s56 == s4 then
                        (bif (i64 : Int) == (IntKind.i64.wrap (i11 + 1)) then
                          (bif !b121 then
                            ((R id_law10Wakes []).bind fun r124 =>
                            asB r124.v fun b123 =>
                            some ⟨AV.bool b123, false, []⟩)
                          else
                            some ⟨AV.bool false, false, []⟩)
                        else
                          some ⟨AV.bool false, false, []⟩)
                      else
                        some ⟨AV.bool false, false, []⟩)
                  else
                    some ⟨AV.bool false, false, []⟩)
                else
                  (R id_propsTakeAlias [AV.bytes s4]).bind fun r125 =>
                  asSIBT r125.v fun s58 i66 b124 =>
                  bif b120 == false then
                    (bif !b120 then
                      (bif !b124 then
                        ((R id_law10Wakes []).bind fun r126 =>
                        asB r126.v fun b125 =>
                        some ⟨AV.bool b125, false, []⟩)
                      else
                        some ⟨AV.bool false, false, []⟩)
                    else
                      bif s56 == s4 then
                        (bif (i64 : Int) == (IntKind.i64.wrap (i11 + 1)) then
                          (bif !b124 then
                            ((R id_law10Wakes []).bind fun r127 =>
                            asB r127.v fun b126 =>
                            some ⟨AV.bool b126, false, []⟩)
                          else
                            some ⟨AV.bool false, false, []⟩)
                        else
                          some ⟨AV.bool false, false, []⟩)
                      else
                        some ⟨AV.bool false, false, []⟩)
                  else
                    some ⟨AV.bool false, false, []⟩)
              else
                bif (i12 : Int) == 45 then
                  (need (decide ((([42] : List UInt8) : List UInt8).length + s4.length ≤ 9223372036854775807)) <|
                  need (decide ((([42] : List UInt8) ++ s4 : List UInt8).length + ([44] : List UInt8).length ≤ 9223372036854775807)) <|
                  (R id_propsTakeAlias [AV.bytes ((([42] : List UInt8) ++ s4) ++ [44])]).bind fun r128 =>
                  asSIBT r128.v fun s59 i67 b127 =>
                  bif decide ((i11 : Int) ≥ 1) then
                    ((R id_propsTakeAlias [AV.bytes s4]).bind fun r129 =>
                    asSIBT r129.v fun s60 i68 b128 =>
                    bif b127 == (decide ((i11 : Int) ≤ 32)) then
                      (bif !b127 then
                        (bif !b128 then
                          ((R id_law10Wakes []).bind fun r130 =>
                          asB r130.v fun b129 =>
                          some ⟨AV.bool b129, false, []⟩)
                        else
                          some ⟨AV.bool false, false, []⟩)
                      else
                        bif s59 == s4 then
                          (bif (i67 : Int) == (IntKind.i64.wrap (i11 + 1)) then
                            (bif !b128 then
                              ((R id_law10Wakes []).bind fun r131 =>
                              asB r131.v fun b130 =>
                              some ⟨AV.bool b130, false, []⟩)
                            else
                              some ⟨AV.bool false, false, []⟩)
                          else
                            some ⟨AV.bool false, false, []⟩)
                        else
                          some ⟨AV.bool false, false, []⟩)
                    else
                      some ⟨AV.bool false, false, []⟩)
                  else
                    (R id_propsTakeAlias [AV.bytes s4]).bind fun r132 =>
                    asSIBT r132.v fun s61 i69 b131 =>
                    bif b127 == false then
                      (bif !b127 then
                        (bif !b131 then
                          ((R id_law10Wakes []).bind fun r133 =>
                          asB r133.v fun b132 =>
                          some ⟨AV.bool b132, false, []⟩)
                        else
                          some ⟨AV.bool false, false, []⟩)
                      else
                        bif s59 == s4 then
                          (bif (i67 : Int) == (IntKind.i64.wrap (i11 + 1)) then
                            (bif !b131 then
                              ((R id_law10Wakes []).bind fun r134 =>
                              asB r134.v fun b133 =>
                              some ⟨AV.bool b133, false, []⟩)
                            else
                              some ⟨AV.bool false, false, []⟩)
                          else
                            some ⟨AV.bool false, false, []⟩)
                        else
                          some ⟨AV.bool false, false, []⟩)
                    else
                      some ⟨AV.bool false, false, []⟩)
                else
                  bif (i12 : Int) == 95 then
                    (need (decide ((([42] : List UInt8) : List UInt8).length + s4.length ≤ 9223372036854775807)) <|
                    need (decide ((([42] : List UInt8) ++ s4 : List UInt8).length + ([44] : List UInt8).length ≤ 9223372036854775807)) <|
                    (R id_propsTakeAlias [AV.bytes ((([42] : List UInt8) ++ s4) ++ [44])]).bind fun r135 =>
                    asSIBT r135.v fun s62 i70 b134 =>
                    bif decide ((i11 : Int) ≥ 1) then
                      ((R id_propsTakeAlias [AV.bytes s4]).bind fun r136 =>
                      asSIBT r136.v fun s63 i71 b135 =>
                      bif b134 == (decide ((i11 : Int) ≤ 32)) then
                        (bif !b134 then
                          (bif !b135 then
                            ((R id_law10Wakes []).bind fun r137 =>
                            asB r137.v fun b136 =>
                            some ⟨AV.bool b136, false, []⟩)
                          else
                            some ⟨AV.bool false, false, []⟩)
                        else
                          bif s62 == s4 then
                            (bif (i70 : Int) == (IntKind.i64.wrap (i11 + 1)) then
                              (bif !b135 then
                                ((R id_law10Wakes []).bind fun r138 =>
                                asB r138.v fun b137 =>
                                some ⟨AV.bool b137, false, []⟩)
                              else
                                some ⟨AV.bool false, false, []⟩)
                            else
                              some ⟨AV.bool false, false, []⟩)
                          else
                            some ⟨AV.bool false, false, []⟩)
                      else
                        some ⟨AV.bool false, false, []⟩)
                    else
                      (R id_propsTakeAlias [AV.bytes s4]).bind fun r139 =>
                      asSIBT r139.v fun s64 i72 b138 =>
                      bif b134 == false then
                        (bif !b134 then
                          (bif !b138 then
                            ((R id_law10Wakes []).bind fun r140 =>
                            asB r140.v fun b139 =>
                            some ⟨AV.bool b139, false, []⟩)
                          else
                            some ⟨AV.bool false, false, []⟩)
                        else
                          bif s62 == s4 then
                            (bif (i70 : Int) == (IntKind.i64.wrap (i11 + 1)) then
                              (bif !b138 then
                                ((R id_law10Wakes []).bind fun r141 =>
                                asB r141.v fun b140 =>
                                some ⟨AV.bool b140, false, []⟩)
                              else
                                some ⟨AV.bool false, false, []⟩)
                            else
                              some ⟨AV.bool false, false, []⟩)
                          else
                            some ⟨AV.bool false, false, []⟩)
                      else
                        some ⟨AV.bool false, false, []⟩)
                  else
                    need (decide ((([42] : List UInt8) : List UInt8).length + s4.length ≤ 9223372036854775807)) <|
                    need (decide (0 ≤ (i12 : Int)) && decide ((i12 : Int) < 256)) <|
                    need (decide ((([42] : List UInt8) ++ s4 : List UInt8).length + ([UInt8.ofNat (Int.toNat i12)] : List UInt8).length ≤ 9223372036854775807)) <|
                    (R id_propsTakeAlias [AV.bytes ((([42] : List UInt8) ++ s4) ++ [UInt8.ofNat (Int.toNat i12)])]).bind fun r142 =>
                    asSIBT r142.v fun s65 i73 b141 =>
                    bif decide ((i11 : Int) ≥ 1) then
                      ((R id_propsTakeAlias [AV.bytes s4]).bind fun r143 =>
                      asSIBT r143.v fun s66 i74 b142 =>
                      bif b141 == (decide ((i11 : Int) ≤ 32)) then
                        (bif !b141 then
                          (bif !b142 then
                            ((R id_law10Wakes []).bind fun r144 =>
                            asB r144.v fun b143 =>
                            some ⟨AV.bool b143, false, []⟩)
                          else
                            some ⟨AV.bool false, false, []⟩)
                        else
                          bif s65 == s4 then
                            (bif (i73 : Int) == (IntKind.i64.wrap (i11 + 1)) then
                              (bif !b142 then
                                ((R id_law10Wakes []).bind fun r145 =>
                                asB r145.v fun b144 =>
                                some ⟨AV.bool b144, false, []⟩)
                              else
                                some ⟨AV.bool false, false, []⟩)
                            else
                              some ⟨AV.bool false, false, []⟩)
                          else
                            some ⟨AV.bool false, false, []⟩)
                      else
                        some ⟨AV.bool false, false, []⟩)
                    else
                      (R id_propsTakeAlias [AV.bytes s4]).bind fun r146 =>
                      asSIBT r146.v fun s67 i75 b145 =>
                      bif b141 == false then
                        (bif !b141 then
                          (bif !b145 then
                            ((R id_law10Wakes []).bind fun r147 =>
                            asB r147.v fun b146 =>
                            some ⟨AV.bool b146, false, []⟩)
                          else
                            some ⟨AV.bool false, false, []⟩)
                        else
                          bif s65 == s4 then
                            (bif (i73 : Int) == (IntKind.i64.wrap (i11 + 1)) then
                              (bif !b145 then
                                ((R id_law10Wakes []).bind fun r148 =>
                                asB r148.v fun b147 =>
                                some ⟨AV.bool b147, false, []⟩)
                              else
                                some ⟨AV.bool false, false, []⟩)
                            else
                              some ⟨AV.bool false, false, []⟩)
                          else
                            some ⟨AV.bool false, false, []⟩)
                      else
                        some ⟨AV.bool false, false, []⟩)
            else
              bif (i12 : Int) == 45 then
                (need (decide ((([42] : List UInt8) : List UInt8).length + s4.length ≤ 9223372036854775807)) <|
                need (decide ((([42] : List UInt8) ++ s4 : List UInt8).length + ([44] : List UInt8).length ≤ 9223372036854775807)) <|
                (R id_propsTakeAlias [AV.bytes ((([42] : List UInt8) ++ s4) ++ [44])]).bind fun r149 =>
                asSIBT r149.v fun s68 i76 b148 =>
                bif decide ((i11 : Int) ≥ 1) then
                  ((R id_propsTakeAlias [AV.bytes s4]).bind fun r150 =>
                  asSIBT r150.v fun s69 i77 b149 =>
                  bif b148 == (decide ((i11 : Int) ≤ 32)) then
                    (bif !b148 then
                      (bif !b149 then
                        ((R id_law10Wakes []).bind fun r151 =>
                        asB r151.v fun b150 =>
                        some ⟨AV.bool b150, false, []⟩)
                      else
                        some ⟨AV.bool false, false, []⟩)
                    else
                      bif s68 == s4 then
                        (bif (i76 : Int) == (IntKind.i64.wrap (i11 + 1)) then
                          (bif !b149 then
                            ((R id_law10Wakes []).bind fun r152 =>
                            asB r152.v fun b151 =>
                            some ⟨AV.bool b151, false, []⟩)
                          else
                            some ⟨AV.bool false, false, []⟩)
                        else
                          some ⟨AV.bool false, false, []⟩)
                      else
                        some ⟨AV.bool false, false, []⟩)
                  else
                    some ⟨AV.bool false, false, []⟩)
                else
                  (R id_propsTakeAlias [AV.bytes s4]).bind fun r153 =>
                  asSIBT r153.v fun s70 i78 b152 =>
                  bif b148 == false then
                    (bif !b148 then
                      (bif !b152 then
                        ((R id_law10Wakes []).bind fun r154 =>
                        asB r154.v fun b153 =>
                        some ⟨AV.bool b153, false, []⟩)
                      else
                        some ⟨AV.bool false, false, []⟩)
                    else
                      bif s68 == s4 then
                        (bif (i76 : Int) == (IntKind.i64.wrap (i11 + 1)) then
                          (bif !b152 then
                            ((R id_law10Wakes []).bind fun r155 =>
                            asB r155.v fun b154 =>
                            some ⟨AV.bool b154, false, []⟩)
                          else
                            some ⟨AV.bool false, false, []⟩)
                        else
                          some ⟨AV.bool false, false, []⟩)
                      else
                        some ⟨AV.bool false, false, []⟩)
                  else
                    some ⟨AV.bool false, false, []⟩)
              else
                bif (i12 : Int) == 95 then
                  (need (decide ((([42] : List UInt8) : List UInt8).length + s4.length ≤ 9223372036854775807)) <|
                  need (decide ((([42] : List UInt8) ++ s4 : List UInt8).length + ([44] : List UInt8).length ≤ 9223372036854775807)) <|
                  (R id_propsTakeAlias [AV.bytes ((([42] : List UInt8) ++ s4) ++ [44])]).bind fun r156 =>
                  asSIBT r156.v fun s71 i79 b155 =>
                  bif decide ((i11 : Int) ≥ 1) then
                    ((R id_propsTakeAlias [AV.bytes s4]).bind fun r157 =>
                    asSIBT r157.v fun s72 i80 b156 =>
                    bif b155 == (decide ((i11 : Int) ≤ 32)) then
                      (bif !b155 then
                        (bif !b156 then
                          ((R id_law10Wakes []).bind fun r158 =>
                          asB r158.v fun b157 =>
                          some ⟨AV.bool b157, false, []⟩)
                        else
                          some ⟨AV.bool false, false, []⟩)
                      else
                        bif s71 == s4 then
                          (bif (i79 : Int) == (IntKind.i64.wrap (i11 + 1)) then
                            (bif !b156 then
                              ((R id_law10Wakes []).bind fun r159 =>
                              asB r159.v fun b158 =>
                              some ⟨AV.bool b158, false, []⟩)
                            else
                              some ⟨AV.bool false, false, []⟩)
                          else
                            some ⟨AV.bool false, false, []⟩)
                        else
                          some ⟨AV.bool false, false, []⟩)
                    else
                      some ⟨AV.bool false, false, []⟩)
                  else
                    (R id_propsTakeAlias [AV.bytes s4]).bind fun r160 =>
                    asSIBT r160.v fun s73 i81 b159 =>
                    bif b155 == false then
                      (bif !b155 then
                        (bif !b159 then
                          ((R id_law10Wakes []).bind fun r161 =>
                          asB r161.v fun b160 =>
                          some ⟨AV.bool b160, false, []⟩)
                        else
                          some ⟨AV.bool false, false, []⟩)
                      else
                        bif s71 == s4 then
                          (bif (i79 : Int) == (IntKind.i64.wrap (i11 + 1)) then
                            (bif !b159 then
                              ((R id_law10Wakes []).bind fun r162 =>
                              asB r162.v fun b161 =>
                              some ⟨AV.bool b161, false, []⟩)
                            else
                              some ⟨AV.bool false, false, []⟩)
                          else
                            some ⟨AV.bool false, false, []⟩)
                        else
                          some ⟨AV.bool false, false, []⟩)
                    else
                      some ⟨AV.bool false, false, []⟩)
                else
                  need (decide ((([42] : List UInt8) : List UInt8).length + s4.length ≤ 9223372036854775807)) <|
                  need (decide (0 ≤ (i12 : Int)) && decide ((i12 : Int) < 256)) <|
                  need (decide ((([42] : List UInt8) ++ s4 : List UInt8).length + ([UInt8.ofNat (Int.toNat i12)] : List UInt8).length ≤ 9223372036854775807)) <|
                  (R id_propsTakeAlias [AV.bytes ((([42] : List UInt8) ++ s4) ++ [UInt8.ofNat (Int.toNat i12)])]).bind fun r163 =>
                  asSIBT r163.v fun s74 i82 b162 =>
                  bif decide ((i11 : Int) ≥ 1) then
                    ((R id_propsTakeAlias [AV.bytes s4]).bind fun r164 =>
                    asSIBT r164.v fun s75 i83 b163 =>
                    bif b162 == (decide ((i11 : Int) ≤ 32)) then
                      (bif !b162 then
                        (bif !b163 then
                          ((R id_law10Wakes []).bind fun r165 =>
                          asB r165.v fun b164 =>
                          some ⟨AV.bool b164, false, []⟩)
                        else
                          some ⟨AV.bool false, false, []⟩)
                      else
                        bif s74 == s4 then
                          (bif (i82 : Int) == (IntKind.i64.wrap (i11 + 1)) then
                            (bif !b163 then
                              ((R id_law10Wakes []).bind fun r166 =>
                              asB r166.v fun b165 =>
                              some ⟨AV.bool b165, false, []⟩)
                            else
                              some ⟨AV.bool false, false, []⟩)
                          else
                            some ⟨AV.bool false, false, []⟩)
                        else
                          some ⟨AV.bool false, false, []⟩)
                    else
                      some ⟨AV.bool false, false, []⟩)
                  else
                    (R id_propsTakeAlias [AV.bytes s4]).bind fun r167 =>
                    asSIBT r167.v fun s76 i84 b166 =>
                    bif b162 == false then
                      (bif !b162 then
                        (bif !b166 then
                          ((R id_law10Wakes []).bind fun r168 =>
                          asB r168.v fun b167 =>
                          some ⟨AV.bool b167, false, []⟩)
                        else
                          some ⟨AV.bool false, false, []⟩)
                      else
                        bif s74 == s4 then
                          (bif (i82 : Int) == (IntKind.i64.wrap (i11 + 1)) then
                            (bif !b166 then
                              ((R id_law10Wakes []).bind fun r169 =>
                              asB r169.v fun b168 =>
                              some ⟨AV.bool b168, false, []⟩)
                            else
                              some ⟨AV.bool false, false, []⟩)
                          else
                            some ⟨AV.bool false, false, []⟩)
                        else
                          some ⟨AV.bool false, false, []⟩)
                    else
                      some ⟨AV.bool false, false, []⟩)
        else
          bif decide ((i12 : Int) ≥ 48) then
            (bif decide ((i12 : Int) ≤ 57) then
              (need (decide ((([42] : List UInt8) : List UInt8).length + s4.length ≤ 9223372036854775807)) <|
              need (decide ((([42] : List UInt8) ++ s4 : List UInt8).length + ([44] : List UInt8).length ≤ 9223372036854775807)) <|
              (R id_propsTakeAlias [AV.bytes ((([42] : List UInt8) ++ s4) ++ [44])]).bind fun r170 =>
              asSIBT r170.v fun s77 i85 b169 =>
              bif decide ((i11 : Int) ≥ 1) then
                ((R id_propsTakeAlias [AV.bytes s4]).bind fun r171 =>
                asSIBT r171.v fun s78 i86 b170 =>
                bif b169 == (decide ((i11 : Int) ≤ 32)) then
                  (bif !b169 then
                    (bif !b170 then
                      ((R id_law10Wakes []).bind fun r172 =>
                      asB r172.v fun b171 =>
                      some ⟨AV.bool b171, false, []⟩)
                    else
                      some ⟨AV.bool false, false, []⟩)
                  else
                    bif s77 == s4 then
                      (bif (i85 : Int) == (IntKind.i64.wrap (i11 + 1)) then
                        (bif !b170 then
                          ((R id_law10Wakes []).bind fun r173 =>
                          asB r173.v fun b172 =>
                          some ⟨AV.bool b172, false, []⟩)
                        else
                          some ⟨AV.bool false, false, []⟩)
                      else
                        some ⟨AV.bool false, false, []⟩)
                    else
                      some ⟨AV.bool false, false, []⟩)
                else
                  some ⟨AV.bool false, false, []⟩)
              else
                (R id_propsTakeAlias [AV.bytes s4]).bind fun r174 =>
                asSIBT r174.v fun s79 i87 b173 =>
                bif b169 == false then
                  (bif !b169 then
                    (bif !b173 then
                      ((R id_law10Wakes []).bind fun r175 =>
                      asB r175.v fun b174 =>
                      some ⟨AV.bool b174, false, []⟩)
                    else
                      some ⟨AV.bool false, false, []⟩)
                  else
                    bif s77 == s4 then
                      (bif (i85 : Int) == (IntKind.i64.wrap (i11 + 1)) then
                        (bif !b173 then
                          ((R id_law10Wakes []).bind fun r176 =>
                          asB r176.v fun b175 =>
                          some ⟨AV.bool b175, false, []⟩)
                        else
                          some ⟨AV.bool false, false, []⟩)
                      else
                        some ⟨AV.bool false, false, []⟩)
                    else
                      some ⟨AV.bool false, false, []⟩)
                else
                  some ⟨AV.bool false, false, []⟩)
            else
              bif (i12 : Int) == 45 then
                (need (decide ((([42] : List UInt8) : List UInt8).length + s4.length ≤ 9223372036854775807)) <|
                need (decide ((([42] : List UInt8) ++ s4 : List UInt8).length + ([44] : List UInt8).length ≤ 9223372036854775807)) <|
                (R id_propsTakeAlias [AV.bytes ((([42] : List UInt8) ++ s4) ++ [44])]).bind fun r177 =>
                asSIBT r177.v fun s80 i88 b176 =>
                bif decide ((i11 : Int) ≥ 1) then
                  ((R id_propsTakeAlias [AV.bytes s4]).bind fun r178 =>
                  asSIBT r178.v fun s81 i89 b177 =>
                  bif b176 == (decide ((i11 : Int) ≤ 32)) then
                    (bif !b176 then
                      (bif !b177 then
                        ((R id_law10Wakes []).bind fun r179 =>
                        asB r179.v fun b178 =>
                        some ⟨AV.bool b178, false, []⟩)
                      else
                        some ⟨AV.bool false, false, []⟩)
                    else
                      bif s80 == s4 then
                        (bif (i88 : Int) == (IntKind.i64.wrap (i11 + 1)) then
                          (bif !b177 then
                            ((R id_law10Wakes []).bind fun r180 =>
                            asB r180.v fun b179 =>
                            some ⟨AV.bool b179, false, []⟩)
                          else
                            some ⟨AV.bool false, false, []⟩)
                        else
                          some ⟨AV.bool false, false, []⟩)
                      else
                        some ⟨AV.bool false, false, []⟩)
                  else
                    some ⟨AV.bool false, false, []⟩)
                else
                  (R id_propsTakeAlias [AV.bytes s4]).bind fun r181 =>
                  asSIBT r181.v fun s82 i90 b180 =>
                  bif b176 == false then
                    (bif !b176 then
                      (bif !b180 then
                        ((R id_law10Wakes []).bind fun r182 =>
                        asB r182.v fun b181 =>
                        some ⟨AV.bool b181, false, []⟩)
                      else
                        some ⟨AV.bool false, false, []⟩)
                    else
                      bif s80 == s4 then
                        (bif (i88 : Int) == (IntKind.i64.wrap (i11 + 1)) then
                          (bif !b180 then
                            ((R id_law10Wakes []).bind fun r183 =>
                            asB r183.v fun b182 =>
                            some ⟨AV.bool b182, false, []⟩)
                          else
                            some ⟨AV.bool false, false, []⟩)
                        else
                          some ⟨AV.bool false, false, []⟩)
                      else
                        some ⟨AV.bool false, false, []⟩)
                  else
                    some ⟨AV.bool false, false, []⟩)
              else
                bif (i12 : Int) == 95 then
                  (need (decide ((([42] : List UInt8) : List UInt8).length + s4.length ≤ 9223372036854775807)) <|
                  need (decide ((([42] : List UInt8) ++ s4 : List UInt8).length + ([44] : List UInt8).length ≤ 9223372036854775807)) <|
                  (R id_propsTakeAlias [AV.bytes ((([42] : List UInt8) ++ s4) ++ [44])]).bind fun r184 =>
                  asSIBT r184.v fun s83 i91 b183 =>
                  bif decide ((i11 : Int) ≥ 1) then
                    ((R id_propsTakeAlias [AV.bytes s4]).bind fun r185 =>
                    asSIBT r185.v fun s84 i92 b184 =>
                    bif b183 == (decide ((i11 : Int) ≤ 32)) then
                      (bif !b183 then
                        (bif !b184 then
                          ((R id_law10Wakes []).bind fun r186 =>
                          asB r186.v fun b185 =>
                          some ⟨AV.bool b185, false, []⟩)
                        else
                          some ⟨AV.bool false, false, []⟩)
                      else
                        bif s83 == s4 then
                          (bif (i91 : Int) == (IntKind.i64.wrap (i11 + 1)) then
                            (bif !b184 then
                              ((R id_law10Wakes []).bind fun r187 =>
                              asB r187.v fun b186 =>
                              some ⟨AV.bool b186, false, []⟩)
                            else
                              some ⟨AV.bool false, false, []⟩)
                          else
                            some ⟨AV.bool false, false, []⟩)
                        else
                          some ⟨AV.bool false, false, []⟩)
                    else
                      some ⟨AV.bool false, false, []⟩)
                  else
                    (R id_propsTakeAlias [AV.bytes s4]).bind fun r188 =>
                    asSIBT r188.v fun s85 i93 b187 =>
                    bif b183 == false then
                      (bif !b183 then
                        (bif !b187 then
                          ((R id_law10Wakes []).bind fun r189 =>
                          asB r189.v fun b188 =>
                          some ⟨AV.bool b188, false, []⟩)
                        else
                          some ⟨AV.bool false, false, []⟩)
                      else
                        bif s83 == s4 then
                          (bif (i91 : Int) == (IntKind.i64.wrap (i11 + 1)) then
                            (bif !b187 then
                              ((R id_law10Wakes []).bind fun r190 =>
                              asB r190.v fun b189 =>
                              some ⟨AV.bool b189, false, []⟩)
                            else
                              some ⟨AV.bool false, false, []⟩)
                          else
                            some ⟨AV.bool false, false, []⟩)
                        else
                          some ⟨AV.bool false, false, []⟩)
                    else
                      some ⟨AV.bool false, false, []⟩)
                else
                  need (decide ((([42] : List UInt8) : List UInt8).length + s4.length ≤ 9223372036854775807)) <|
                  need (decide (0 ≤ (i12 : Int)) && decide ((i12 : Int) < 256)) <|
                  need (decide ((([42] : List UInt8) ++ s4 : List UInt8).length + ([UInt8.ofNat (Int.toNat i12)] : List UInt8).length ≤ 9223372036854775807)) <|
                  (R id_propsTakeAlias [AV.bytes ((([42] : List UInt8) ++ s4) ++ [UInt8.ofNat (Int.toNat i12)])]).bind fun r191 =>
                  asSIBT r191.v fun s86 i94 b190 =>
                  bif decide ((i11 : Int) ≥ 1) then
                    ((R id_propsTakeAlias [AV.bytes s4]).bind fun r192 =>
                    asSIBT r192.v fun s87 i95 b191 =>
                    bif b190 == (decide ((i11 : Int) ≤ 32)) then
                      (bif !b190 then
                        (bif !b191 then
                          ((R id_law10Wakes []).bind fun r193 =>
                          asB r193.v fun b192 =>
                          some ⟨AV.bool b192, false, []⟩)
                        else
                          some ⟨AV.bool false, false, []⟩)
                      else
                        bif s86 == s4 then
                          (bif (i94 : Int) == (IntKind.i64.wrap (i11 + 1)) then
                            (bif !b191 then
                              ((R id_law10Wakes []).bind fun r194 =>
                              asB r194.v fun b193 =>
                              some ⟨AV.bool b193, false, []⟩)
                            else
                              some ⟨AV.bool false, false, []⟩)
                          else
                            some ⟨AV.bool false, false, []⟩)
                        else
                          some ⟨AV.bool false, false, []⟩)
                    else
                      some ⟨AV.bool false, false, []⟩)
                  else
                    (R id_propsTakeAlias [AV.bytes s4]).bind fun r195 =>
                    asSIBT r195.v fun s88 i96 b194 =>
                    bif b190 == false then
                      (bif !b190 then
                        (bif !b194 then
                          ((R id_law10Wakes []).bind fun r196 =>
                          asB r196.v fun b195 =>
                          some ⟨AV.bool b195, false, []⟩)
                        else
                          some ⟨AV.bool false, false, []⟩)
                      else
                        bif s86 == s4 then
                          (bif (i94 : Int) == (IntKind.i64.wrap (i11 + 1)) then
                            (bif !b194 then
                              ((R id_law10Wakes []).bind fun r197 =>
                              asB r197.v fun b196 =>
                              some ⟨AV.bool b196, false, []⟩)
                            else
                              some ⟨AV.bool false, false, []⟩)
                          else
                            some ⟨AV.bool false, false, []⟩)
                        else
                          some ⟨AV.bool false, false, []⟩)
                    else
                      some ⟨AV.bool false, false, []⟩)
          else
            bif (i12 : Int) == 45 then
              (need (decide ((([42] : List UInt8) : List UInt8).length + s4.length ≤ 9223372036854775807)) <|
              need (decide ((([42] : List UInt8) ++ s4 : List UInt8).length + ([44] : List UInt8).length ≤ 9223372036854775807)) <|
              (R id_propsTakeAlias [AV.bytes ((([42] : List UInt8) ++ s4) ++ [44])]).bind fun r198 =>
              asSIBT r198.v fun s89 i97 b197 =>
              bif decide ((i11 : Int) ≥ 1) then
                ((R id_propsTakeAlias [AV.bytes s4]).bind fun r199 =>
                asSIBT r199.v fun s90 i98 b198 =>
                bif b197 == (decide ((i11 : Int) ≤ 32)) then
                  (bif !b197 then
                    (bif !b198 then
                      ((R id_law10Wakes []).bind fun r200 =>
                      asB r200.v fun b199 =>
                      some ⟨AV.bool b199, false, []⟩)
                    else
                      some ⟨AV.bool false, false, []⟩)
                  else
                    bif s89 == s4 then
                      (bif (i97 : Int) == (IntKind.i64.wrap (i11 + 1)) then
                        (bif !b198 then
                          ((R id_law10Wakes []).bind fun r201 =>
                          asB r201.v fun b200 =>
                          some ⟨AV.bool b200, false, []⟩)
                        else
                          some ⟨AV.bool false, false, []⟩)
                      else
                        some ⟨AV.bool false, false, []⟩)
                    else
                      some ⟨AV.bool false, false, []⟩)
                else
                  some ⟨AV.bool false, false, []⟩)
              else
                (R id_propsTakeAlias [AV.bytes s4]).bind fun r202 =>
                asSIBT r202.v fun s91 i99 b201 =>
                bif b197 == false then
                  (bif !b197 then
                    (bif !b201 then
                      ((R id_law10Wakes []).bind fun r203 =>
                      asB r203.v fun b202 =>
                      some ⟨AV.bool b202, false, []⟩)
                    else
                      some ⟨AV.bool false, false, []⟩)
                  else
                    bif s89 == s4 then
                      (bif (i97 : Int) == (IntKind.i64.wrap (i11 + 1)) then
                        (bif !b201 then
                          ((R id_law10Wakes []).bind fun r204 =>
                          asB r204.v fun b203 =>
                          some ⟨AV.bool b203, false, []⟩)
                        else
                          some ⟨AV.bool false, false, []⟩)
                      else
                        some ⟨AV.bool false, false, []⟩)
                    else
                      some ⟨AV.bool false, false, []⟩)
                else
                  some ⟨AV.bool false, false, []⟩)
            else
              bif (i12 : Int) == 95 then
                (need (decide ((([42] : List UInt8) : List UInt8).length + s4.length ≤ 9223372036854775807)) <|
                need (decide ((([42] : List UInt8) ++ s4 : List UInt8).length + ([44] : List UInt8).length ≤ 9223372036854775807)) <|
                (R id_propsTakeAlias [AV.bytes ((([42] : List UInt8) ++ s4) ++ [44])]).bind fun r205 =>
                asSIBT r205.v fun s92 i100 b204 =>
                bif decide ((i11 : Int) ≥ 1) then
                  ((R id_propsTakeAlias [AV.bytes s4]).bind fun r206 =>
                  asSIBT r206.v fun s93 i101 b205 =>
                  bif b204 == (decide ((i11 : Int) ≤ 32)) then
                    (bif !b204 then
                      (bif !b205 then
                        ((R id_law10Wakes []).bind fun r207 =>
                        asB r207.v fun b206 =>
                        some ⟨AV.bool b206, false, []⟩)
                      else
                        some ⟨AV.bool false, false, []⟩)
                    else
                      bif s92 == s4 then
                        (bif (i100 : Int) == (IntKind.i64.wrap (i11 + 1)) then
                          (bif !b205 then
                            ((R id_law10Wakes []).bind fun r208 =>
                            asB r208.v fun b207 =>
                            some ⟨AV.bool b207, false, []⟩)
                          else
                            some ⟨AV.bool false, false, []⟩)
                        else
                          some ⟨AV.bool false, false, []⟩)
                      else
                        some ⟨AV.bool false, false, []⟩)
                  else
                    some ⟨AV.bool false, false, []⟩)
                else
                  (R id_propsTakeAlias [AV.bytes s4]).bind fun r209 =>
                  asSIBT r209.v fun s94 i102 b208 =>
                  bif b204 == false then
                    (bif !b204 then
                      (bif !b208 then
                        ((R id_law10Wakes []).bind fun r210 =>
                        asB r210.v fun b209 =>
                        some ⟨AV.bool b209, false, []⟩)
                      else
                        some ⟨AV.bool false, false, []⟩)
                    else
                      bif s92 == s4 then
                        (bif (i100 : Int) == (IntKind.i64.wrap (i11 + 1)) then
                          (bif !b208 then
                            ((R id_law10Wakes []).bind fun r211 =>
                            asB r211.v fun b210 =>
                            some ⟨AV.bool b210, false, []⟩)
                          else
                            some ⟨AV.bool false, false, []⟩)
                        else
                          some ⟨AV.bool false, false, []⟩)
                      else
                        some ⟨AV.bool false, false, []⟩)
                  else
                    some ⟨AV.bool false, false, []⟩)
              else
                need (decide ((([42] : List UInt8) : List UInt8).length + s4.length ≤ 9223372036854775807)) <|
                need (decide (0 ≤ (i12 : Int)) && decide ((i12 : Int) < 256)) <|
                need (decide ((([42] : List UInt8) ++ s4 : List UInt8).length + ([UInt8.ofNat (Int.toNat i12)] : List UInt8).length ≤ 9223372036854775807)) <|
                (R id_propsTakeAlias [AV.bytes ((([42] : List UInt8) ++ s4) ++ [UInt8.ofNat (Int.toNat i12)])]).bind fun r212 =>
                asSIBT r212.v fun s95 i103 b211 =>
                bif decide ((i11 : Int) ≥ 1) then
                  ((R id_propsTakeAlias [AV.bytes s4]).bind fun r213 =>
                  asSIBT r213.v fun s96 i104 b212 =>
                  bif b211 == (decide ((i11 : Int) ≤ 32)) then
                    (bif !b211 then
                      (bif !b212 then
                        ((R id_law10Wakes []).bind fun r214 =>
                        asB r214.v fun b213 =>
                        some ⟨AV.bool b213, false, []⟩)
                      else
                        some ⟨AV.bool false, false, []⟩)
                    else
                      bif s95 == s4 then
                        (bif (i103 : Int) == (IntKind.i64.wrap (i11 + 1)) then
                          (bif !b212 then
                            ((R id_law10Wakes []).bind fun r215 =>
                            asB r215.v fun b214 =>
                            some ⟨AV.bool b214, false, []⟩)
                          else
                            some ⟨AV.bool false, false, []⟩)
                        else
                          some ⟨AV.bool false, false, []⟩)
                      else
                        some ⟨AV.bool false, false, []⟩)
                  else
                    some ⟨AV.bool false, false, []⟩)
                else
                  (R id_propsTakeAlias [AV.bytes s4]).bind fun r216 =>
                  asSIBT r216.v fun s97 i105 b215 =>
                  bif b211 == false then
                    (bif !b211 then
                      (bif !b215 then
                        ((R id_law10Wakes []).bind fun r217 =>
                        asB r217.v fun b216 =>
                        some ⟨AV.bool b216, false, []⟩)
                      else
                        some ⟨AV.bool false, false, []⟩)
                    else
                      bif s95 == s4 then
                        (bif (i103 : Int) == (IntKind.i64.wrap (i11 + 1)) then
                          (bif !b215 then
                            ((R id_law10Wakes []).bind fun r218 =>
                            asB r218.v fun b217 =>
                            some ⟨AV.bool b217, false, []⟩)
                          else
                            some ⟨AV.bool false, false, []⟩)
                        else
                          some ⟨AV.bool false, false, []⟩)
                      else
                        some ⟨AV.bool false, false, []⟩)
                  else
                    some ⟨AV.bool false, false, []⟩)
    N i3 i2 ([] : List UInt8) 0
theorem law10PropsAliases_eq (R : Nat → List AV → Option Res) (N : Nat) (i1 : Int) (i2 : Int) : runF gl R N law10PropsAliases [AV.int .i64 i1, AV.int .u8 i2] = law10PropsAliasesr R N i1 i2 := by
  refine Eq.trans (b :=
      (R id_keepWithin [AV.int .i64 i1, AV.int .i64 35]).bind fun r1 =>
      asI .i64 r1.v fun i3 =>
      rounds [0, 1, 5, 6] [] (evC gl R N law10PropsAliases_c0) (Kblock 0 (Kthen gl R N law10PropsAliases_c1 (Kret law10PropsAliases.rets []))) N ⟨[(0, .imm (AV.int .i64 i3)), (1, .imm (AV.int .u8 i2)), (5, .imm (AV.str ([] : List UInt8))), (6, .imm (AV.int .i64 0))], []⟩) (by kernel_rfl) ?_
  simp (config := { maxSteps := 100000000 }) only [law10PropsAliases_L1_eq]
  kernel_rfl
theorem law10PropsAliases_fit : fitF Tryd.prog law10PropsAliases Tryd.f5 = true := by
  kernel_rfl

def keepText_c0 : AC := .seq (.region [.op (some 4) none (.mv (.k (AV.str ([] : List UInt8))))]) (.seq (.region [.op (some 5) none (.mv (.t 0)), .op (some 6) none (.mv (.t 0)), .op (some 7) none (.len (.t 6) true), .op (some 8) none (.mv (.t 1)), .op (some 9) none (.mn [.t 7, .t 8]), .op (some 10) none (.sliceS (.t 5) none (some (.t 9))), .op (some 4) none (.mv (.t 10))]) (.ret [4] []))
def keepText : AFunc := ⟨2, 11, [.tmp 4], keepText_c0⟩
def keepTextr (R : Nat → List AV → Option Res) (N : Nat) (s1 : List UInt8) (i1 : Int) : Option Res :=
  need (decide (0 ≤ (if i1 < ((s1.length : Nat) : Int) then i1 else ((s1.length : Nat) : Int) : Int)) && decide ((if i1 < ((s1.length : Nat) : Int) then i1 else ((s1.length : Nat) : Int) : Int) ≤ ((s1.length : Nat) : Int))) <|
  some ⟨AV.str ((s1.take (Int.toNat (if i1 < ((s1.length : Nat) : Int) then i1 else ((s1.length : Nat) : Int)))).drop 0), false, []⟩
theorem keepText_eq (R : Nat → List AV → Option Res) (N : Nat) (s1 : List UInt8) (i1 : Int) : runF gl R N keepText [AV.str s1, AV.int .i64 i1] = keepTextr R N s1 i1 := by
  kernel_rfl
theorem keepText_fit : fitF Tryd.prog keepText Tryd.f35 = true := by
  kernel_rfl

def ref01Rune_L1s (R : Nat → List AV → Option Res) (N : Nat) (go : List UInt8 → Int → Int → Int → Int → Option Res) (k0 : Int → Int → Bool → Option Res) (k1 : Int → Int → Int → Option Res) (s2 : List UInt8) (i1 : Int) (i2 : Int) (i3 : Int) (i4 : Int) : Option Res :=
  bif decide ((i4 : Int) < i1) then
    (need (decide (0 ≤ (i4 : Int))) <|
    (s2[Int.toNat i4]?).bind fun c2 =>
    bif ((IntKind.u8.wrap (BitVec.ofInt IntKind.u8.bits (c2.toNat : Int) &&& BitVec.ofInt IntKind.u8.bits 192).toNat) : Int) != 128 then
      (k0 0 1 false)
    else
      need (!decide (6 < 0)) <|
      need (decide (0 ≤ (i4 : Int))) <|
      (s2[Int.toNat i4]?).bind fun c3 =>
      go s2 i1 i2 (IntKind.i32.wrap (BitVec.ofInt IntKind.i32.bits (IntKind.i32.wrap (i3 * 2 ^ (min (Int.toNat 6) IntKind.i32.bits))) ||| BitVec.ofInt IntKind.i32.bits (IntKind.i32.wrap (IntKind.u8.wrap (BitVec.ofInt IntKind.u8.bits (c3.toNat : Int) &&& BitVec.ofInt IntKind.u8.bits 63).toNat))).toNat) (IntKind.i64.wrap (i4 + 1)))
  else
    k1 i1 i2 i3
def ref01Rune_L1 (R : Nat → List AV → Option Res) (N : Nat) (k0 : Int → Int → Bool → Option Res) (k1 : Int → Int → Int → Option Res) : Nat → List UInt8 → Int → Int → Int → Int → Option Res
  | 0, _, _, _, _, _ => none
  | n + 1, s2, i1, i2, i3, i4 => ref01Rune_L1s R N (ref01Rune_L1 R N k0 k1 n) k0 k1 s2 i1 i2 i3 i4
def ref01Rune_c0 : AC := .seq (.seq (.region [.op (some 55) none (.mv (.t 9)), .op (some 56) none (.mv (.t 6)), .op (some 57) none (.bin .lss (.t 55) (.t 56))]) (.cond (.t 57) (.skip) (.exit 1 [6, 7, 8] []))) (.seq (.block 2 (.seq (.seq (.region [.op (some 60) none (.mv (.t 0)), .op (some 61) none (.mv (.t 9)), .op (some 62) none (.iaddr (.t 60) (.t 61) 1 (.int .u8)), .op (some 63) none (.load (.t 62) none (.int .u8)), .op (some 64) none (.bin .and (.t 63) (.k (AV.int .u8 192))), .op (some 65) none (.bin .neq (.t 64) (.k (AV.int .u8 128)))]) (.cond (.t 65) (.seq (.region [.op (some 2) none (.mv (.k (AV.int .i32 0))), .op (some 3) none (.mv (.k (AV.int .i64 1))), .op (some 4) none (.mv (.k (AV.bool false)))]) (.ret [2, 3, 4] [])) (.skip))) (.region [.op (some 66) none (.mv (.t 8)), .op (some 67) none (.bin .shl (.t 66) (.k (AV.int .u64 6))), .op (some 68) none (.mv (.t 0)), .op (some 69) none (.mv (.t 9)), .op (some 70) none (.iaddr (.t 68) (.t 69) 1 (.int .u8)), .op (some 71) none (.load (.t 70) none (.int .u8)), .op (some 72) none (.bin .and (.t 71) (.k (AV.int .u8 63))), .op (some 73) none (.cvInt .i32 (.t 72)), .op (some 74) none (.bin .or (.t 67) (.t 73)), .op (some 8) none (.mv (.t 74))]))) (.region [.op (some 58) none (.mv (.t 9)), .op (some 59) none (.bin .add (.t 58) (.k (AV.int .i64 1))), .op (some 9) none (.mv (.t 59))]))
theorem ref01Rune_L1s_eq (R : Nat → List AV → Option Res) (N : Nat) (K : Ex → St → Option Res) (W : St → Option Res) (s2 : List UInt8) (i1 : Int) (i2 : Int) (i3 : Int) (i4 : Int) :
    evC gl R N ref01Rune_c0 (Kseq (fun st' => W (prune [0, 6, 7, 8, 9] [] st')) K) ⟨[(0, .imm (AV.bytes s2)), (6, .imm (AV.int .i64 i1)), (7, .imm (AV.int .i32 i2)), (8, .imm (AV.int .i32 i3)), (9, .imm (AV.int .i64 i4))], []⟩ =
    ref01Rune_L1s R N (fun (s2 : List UInt8) (i1 : Int) (i2 : Int) (i3 : Int) (i4 : Int) => W ⟨[(0, .imm (AV.bytes s2)), (6, .imm (AV.int .i64 i1)), (7, .imm (AV.int .i32 i2)), (8, .imm (AV.int .i32 i3)), (9, .imm (AV.int .i64 i4))], []⟩) (fun (i5 : Int) (i6 : Int) (b1 : Bool) => K .ret ⟨[(2, .imm (AV.int .i32 i5)), (3, .imm (AV.int .i64 i6)), (4, .imm (AV.bool b1))], []⟩) (fun (i7 : Int) (i8 : Int) (i9 : Int) => K (.exit 1) ⟨[(6, .imm (AV.int .i64 i7)), (7, .imm (AV.int .i32 i8)), (8, .imm (AV.int .i32 i9))], []⟩) s2 i1 i2 i3 i4 := by
  kernel_rfl
theorem ref01Rune_L1_eq (R : Nat → List AV → Option Res) (N : Nat) (K : Ex → St → Option Res) : ∀ (n : Nat) (s2 : List UInt8) (i1 : Int) (i2 : Int) (i3 : Int) (i4 : Int),
    rounds [0, 6, 7, 8, 9] [] (evC gl R N ref01Rune_c0) K n ⟨[(0, .imm (AV.bytes s2)), (6, .imm (AV.int .i64 i1)), (7, .imm (AV.int .i32 i2)), (8, .imm (AV.int .i32 i3)), (9, .imm (AV.int .i64 i4))], []⟩ = ref01Rune_L1 R N (fun (i5 : Int) (i6 : Int) (b1 : Bool) => K .ret ⟨[(2, .imm (AV.int .i32 i5)), (3, .imm (AV.int .i64 i6)), (4, .imm (AV.bool b1))], []⟩) (fun (i7 : Int) (i8 : Int) (i9 : Int) => K (.exit 1) ⟨[(6, .imm (AV.int .i64 i7)), (7, .imm (AV.int .i32 i8)), (8, .imm (AV.int .i32 i9))], []⟩) n s2 i1 i2 i3 i4
  | 0, _, _, _, _, _ => rfl
  | n + 1, s2, i1, i2, i3, i4 => (ref01Rune_L1s_eq R N K (rounds [0, 6, 7, 8, 9] [] (evC gl R N ref01Rune_c0) K n) s2 i1 i2 i3 i4).trans
      (congrArg (fun go => ref01Rune_L1s R N go (fun (i5 : Int) (i6 : Int) (b1 : Bool) => K .ret ⟨[(2, .imm (AV.int .i32 i5)), (3, .imm (AV.int .i64 i6)), (4, .imm (AV.bool b1))], []⟩) (fun (i7 : Int) (i8 : Int) (i9 : Int) => K (.exit 1) ⟨[(6, .imm (AV.int .i64 i7)), (7, .imm (AV.int .i32 i8)), (8, .imm (AV.int .i32 i9))], []⟩) s2 i1 i2 i3 i4) (funext fun s2 => funext fun i1 => funext fun i2 => funext fun i3 => funext fun i4 => ref01Rune_L1_eq R N K n s2 i1 i2 i3 i4))
def ref01Rune_c1 : AC := .seq (.seq (.region [.op (some 75) none (.mv (.t 8)), .op (some 76) none (.mv (.t 7)), .op (some 77) none (.bin .lss (.t 75) (.t 76)), .op (some 78) none (.mv (.t 77)), .split 78, .op (some 79) (some (78, false)) (.mv (.t 8)), .op (some 80) (some (78, false)) (.bin .gtr (.t 79) (.k (AV.int .i32 1114111))), .op (some 81) none (.pick (.t 78) (.k (AV.bool true)) (.t 80)), .op (some 82) none (.mv (.t 81)), .split 82, .op (some 83) (some (82, false)) (.mv (.t 8)), .op (some 84) (some (82, false)) (.bin .geq (.t 83) (.k (AV.int .i32 55296))), .op (some 85) (some (82, false)) (.mv (.t 84)), .split 85, .op (some 86) (some (85, true)) (.mv (.t 8)), .op (some 87) (some (85, true)) (.bin .leq (.t 86) (.k (AV.int .i32 57343))), .op (some 88) (some (82, false)) (.pick (.t 85) (.t 87) (.k (AV.bool false))), .op (some 89) none (.pick (.t 82) (.k (AV.bool true)) (.t 88))]) (.cond (.t 89) (.seq (.region [.op (some 2) none (.mv (.k (AV.int .i32 0))), .op (some 3) none (.mv (.k (AV.int .i64 1))), .op (some 4) none (.mv (.k (AV.bool false)))]) (.ret [2, 3, 4] [])) (.skip))) (.seq (.region [.op (some 90) none (.mv (.t 8)), .op (some 91) none (.mv (.t 6)), .op (some 2) none (.mv (.t 90)), .op (some 3) none (.mv (.t 91)), .op (some 4) none (.mv (.k (AV.bool true)))]) (.ret [2, 3, 4] []))
def ref01Rune_c2 : AC := .seq (.region [.op (some 2) none (.mv (.k (AV.int .i32 0))), .op (some 3) none (.mv (.k (AV.int .i64 0))), .op (some 4) none (.mv (.k (AV.bool false)))]) (.seq (.seq (.region [.op (some 10) none (.mv (.t 0)), .op (some 11) none (.len (.t 10) false), .op (some 12) none (.bin .eql (.t 11) (.k (AV.int .i64 0)))]) (.cond (.t 12) (.seq (.region [.op (some 2) none (.mv (.k (AV.int .i32 0))), .op (some 3) none (.mv (.k (AV.int .i64 0))), .op (some 4) none (.mv (.k (AV.bool false)))]) (.ret [2, 3, 4] [])) (.skip))) (.seq (.region [.op (some 13) none (.mv (.t 0)), .op (some 14) none (.iaddr (.t 13) (.k (AV.int .i64 0)) 1 (.int .u8)), .op (some 15) none (.load (.t 14) none (.int .u8)), .op (some 5) none (.mv (.t 15))]) (.seq (.region [.op (some 6) none (.mv (.k (AV.int .i64 0))), .op (some 7) none (.mv (.k (AV.int .i32 0)))]) (.seq (.region [.op (some 8) none (.mv (.k (AV.int .i32 0)))]) (.seq (.block 0 (.seq (.region [.op (some 17) none (.mv (.t 5)), .op (some 18) none (.bin .lss (.t 17) (.k (AV.int .u8 128))), .op (some 16) none (.mv (.t 18))]) (.cond (.t 16) (.seq (.region [.op (some 19) none (.mv (.t 5)), .op (some 20) none (.cvInt .i32 (.t 19)), .op (some 2) none (.mv (.t 20)), .op (some 3) none (.mv (.k (AV.int .i64 1))), .op (some 4) none (.mv (.k (AV.bool true)))]) (.ret [2, 3, 4] [])) (.seq (.region [.op (some 22) none (.mv (.t 5)), .op (some 23) none (.bin .geq (.t 22) (.k (AV.int .u8 194))), .op (some 24) none (.mv (.t 23)), .split 24, .op (some 25) (some (24, true)) (.mv (.t 5)), .op (some 26) (some (24, true)) (.bin .leq (.t 25) (.k (AV.int .u8 223))), .op (some 27) none (.pick (.t 24) (.t 26) (.k (AV.bool false))), .op (some 21) none (.mv (.t 27))]) (.cond (.t 21) (.region [.op (some 28) none (.mv (.t 5)), .op (some 29) none (.bin .and (.t 28) (.k (AV.int .u8 31))), .op (some 30) none (.cvInt .i32 (.t 29)), .op (some 6) none (.mv (.k (AV.int .i64 2))), .op (some 7) none (.mv (.k (AV.int .i32 128))), .op (some 8) none (.mv (.t 30))]) (.seq (.region [.op (some 32) none (.mv (.t 5)), .op (some 33) none (.bin .geq (.t 32) (.k (AV.int .u8 224))), .op (some 34) none (.mv (.t 33)), .split 34, .op (some 35) (some (34, true)) (.mv (.t 5)), .op (some 36) (some (34, true)) (.bin .leq (.t 35) (.k (AV.int .u8 239))), .op (some 37) none (.pick (.t 34) (.t 36) (.k (AV.bool false))), .op (some 31) none (.mv (.t 37))]) (.cond (.t 31) (.region [.op (some 38) none (.mv (.t 5)), .op (some 39) none (.bin .and (.t 38) (.k (AV.int .u8 15))), .op (some 40) none (.cvInt .i32 (.t 39)), .op (some 6) none (.mv (.k (AV.int .i64 3))), .op (some 7) none (.mv (.k (AV.int .i32 2048))), .op (some 8) none (.mv (.t 40))]) (.seq (.region [.op (some 42) none (.mv (.t 5)), .op (some 43) none (.bin .geq (.t 42) (.k (AV.int .u8 240))), .op (some 44) none (.mv (.t 43)), .split 44, .op (some 45) (some (44, true)) (.mv (.t 5)), .op (some 46) (some (44, true)) (.bin .leq (.t 45) (.k (AV.int .u8 244))), .op (some 47) none (.pick (.t 44) (.t 46) (.k (AV.bool false))), .op (some 41) none (.mv (.t 47))]) (.cond (.t 41) (.region [.op (some 48) none (.mv (.t 5)), .op (some 49) none (.bin .and (.t 48) (.k (AV.int .u8 7))), .op (some 50) none (.cvInt .i32 (.t 49)), .op (some 6) none (.mv (.k (AV.int .i64 4))), .op (some 7) none (.mv (.k (AV.int .i32 65536))), .op (some 8) none (.mv (.t 50))]) (.seq (.region [.op (some 2) none (.mv (.k (AV.int .i32 0))), .op (some 3) none (.mv (.k (AV.int .i64 1))), .op (some 4) none (.mv (.k (AV.bool false)))]) (.ret [2, 3, 4] []))))))))))) (.seq (.seq (.region [.op (some 51) none (.mv (.t 0)), .op (some 52) none (.len (.t 51) false), .op (some 53) none (.mv (.t 6)), .op (some 54) none (.bin .lss (.t 52) (.t 53))]) (.cond (.t 54) (.seq (.region [.op (some 2) none (.mv (.k (AV.int .i32 0))), .op (some 3) none (.mv (.k (AV.int .i64 1))), .op (some 4) none (.mv (.k (AV.bool false)))]) (.ret [2, 3, 4] [])) (.skip))) (.seq (.seq (.region [.op (some 9) none (.mv (.k (AV.int .i64 1)))]) (.block 1 (.loop [0, 6, 7, 8, 9] [] (ref01Rune_c0)))) (ref01Rune_c1))))))))
def ref01Rune : AFunc := ⟨1, 92, [.tmp 2, .tmp 3, .tmp 4], ref01Rune_c2⟩
def ref01Runer (R : Nat → List AV → Option Res) (N : Nat) (s1 : List UInt8) : Option Res :=
  bif (((s1.length : Nat) : Int) : Int) == 0 then
    (some ⟨AV.tup [AV.int .i32 0, AV.int .i64 0, AV.bool false], false, []⟩)
  else
    need (decide (0 ≤ (0 : Int))) <|
    (s1[Int.toNat 0]?).bind fun c1 =>
    bif decide (((c1.toNat : Int) : Int) < 128) then
      (some ⟨AV.tup [AV.int .i32 (IntKind.i32.wrap (c1.toNat : Int)), AV.int .i64 1, AV.bool true], false, []⟩)
    else
      bif decide (((c1.toNat : Int) : Int) ≥ 194) then
        (bif decide (((c1.toNat : Int) : Int) ≤ 223) then
          (bif decide ((((s1.length : Nat) : Int) : Int) < 2) then
            (some ⟨AV.tup [AV.int .i32 0, AV.int .i64 1, AV.bool false], false, []⟩)
          else
            ref01Rune_L1 R N
              (fun i15 i16 b3 =>
                some ⟨AV.tup [AV.int .i32 i15, AV.int .i64 i16, AV.bool b3], false, []⟩)
              (fun i17 i18 i19 =>
                bif decide ((i19 : Int) < i18) then
                  (some ⟨AV.tup [AV.int .i32 0, AV.int .i64 1, AV.bool false], false, []⟩)
                else
                  bif decide ((i19 : Int) > 1114111) then
                    (some ⟨AV.tup [AV.int .i32 0, AV.int .i64 1, AV.bool false], false, []⟩)
                  else
                    bif decide ((i19 : Int) ≥ 55296) then
                      (bif decide ((i19 : Int) ≤ 57343) then
                        (some ⟨AV.tup [AV.int .i32 0, AV.int .i64 1, AV.bool false], false, []⟩)
                      else
                        some ⟨AV.tup [AV.int .i32 i19, AV.int .i64 i17, AV.bool true], false, []⟩)
                    else
                      some ⟨AV.tup [AV.int .i32 i19, AV.int .i64 i17, AV.bool true], false, []⟩)
              N s1 2 128 (IntKind.i32.wrap (IntKind.u8.wrap (BitVec.ofInt IntKind.u8.bits (c1.toNat : Int) &&& BitVec.ofInt IntKind.u8.bits 31).toNat)) 1)
        else
          bif decide (((c1.toNat : Int) : Int) ≥ 224) then
            (bif decide (((c1.toNat : Int) : Int) ≤ 239) then
              (bif decide ((((s1.length : Nat) : Int) : Int) < 3) then
                (some ⟨AV.tup [AV.int .i32 0, AV.int .i64 1, AV.bool false], false, []⟩)
              else
                ref01Rune_L1 R N
                  (fun i20 i21 b4 =>
                    some ⟨AV.tup [AV.int .i32 i20, AV.int .i64 i21, AV.bool b4], false, []⟩)
                  (fun i22 i23 i24 =>
                    bif decide ((i24 : Int) < i23) then
                      (some ⟨AV.tup [AV.int .i32 0, AV.int .i64 1, AV.bool false], false, []⟩)
                    else
                      bif decide ((i24 : Int) > 1114111) then
                        (some ⟨AV.tup [AV.int .i32 0, AV.int .i64 1, AV.bool false], false, []⟩)
                      else
                        bif decide ((i24 : Int) ≥ 55296) then
                          (bif decide ((i24 : Int) ≤ 57343) then
                            (some ⟨AV.tup [AV.int .i32 0, AV.int .i64 1, AV.bool false], false, []⟩)
                          else
                            some ⟨AV.tup [AV.int .i32 i24, AV.int .i64 i22, AV.bool true], false, []⟩)
                        else
                          some ⟨AV.tup [AV.int .i32 i24, AV.int .i64 i22, AV.bool true], false, []⟩)
                  N s1 3 2048 (IntKind.i32.wrap (IntKind.u8.wrap (BitVec.ofInt IntKind.u8.bits (c1.toNat : Int) &&& BitVec.ofInt IntKind.u8.bits 15).toNat)) 1)
            else
              bif decide (((c1.toNat : Int) : Int) ≥ 240) then
                (bif decide (((c1.toNat : Int) : Int) ≤ 244) then
                  (bif decide ((((s1.length : Nat) : Int) : Int) < 4) then
                    (some ⟨AV.tup [AV.int .i32 0, AV.int .i64 1, AV.bool false], false, []⟩)
                  else
                    ref01Rune_L1 R N
                      (fun i25 i26 b5 =>
                        some ⟨AV.tup [AV.int .i32 i25, AV.int .i64 i26, AV.bool b5], false, []⟩)
                      (fun i27 i28 i29 =>
                        bif decide ((i29 : Int) < i28) then
                          (some ⟨AV.tup [AV.int .i32 0, AV.int .i64 1, AV.bool false], false, []⟩)
                        else
                          bif decide ((i29 : Int) > 1114111) then
                            (some ⟨AV.tup [AV.int .i32 0, AV.int .i64 1, AV.bool false], false, []⟩)
                          else
                            bif decide ((i29 : Int) ≥ 55296) then
                              (bif decide ((i29 : Int) ≤ 57343) then
                                (some ⟨AV.tup [AV.int .i32 0, AV.int .i64 1, AV.bool false], false, []⟩)
                              else
                                some ⟨AV.tup [AV.int .i32 i29, AV.int .i64 i27, AV.bool true], false, []⟩)
                            else
                              some ⟨AV.tup [AV.int .i32 i29, AV.int .i64 i27, AV.bool true], false, []⟩)
                      N s1 4 65536 (IntKind.i32.wrap (IntKind.u8.wrap (BitVec.ofInt IntKind.u8.bits (c1.toNat : Int) &&& BitVec.ofInt IntKind.u8.bits 7).toNat)) 1)
                else
                  some ⟨AV.tup [AV.int .i32 0, AV.int .i64 1, AV.bool false], false, []⟩)
              else
                some ⟨AV.tup [AV.int .i32 0, AV.int .i64 1, AV.bool false], false, []⟩)
          else
            bif decide (((c1.toNat : Int) : Int) ≥ 240) then
              (bif decide (((c1.toNat : Int) : Int) ≤ 244) then
                (bif decide ((((s1.length : Nat) : Int) : Int) < 4) then
                  (some ⟨AV.tup [AV.int .i32 0, AV.int .i64 1, AV.bool false], false, []⟩)
                else
                  ref01Rune_L1 R N
                    (fun i30 i31 b6 =>
                      some ⟨AV.tup [AV.int .i32 i30, AV.int .i64 i31, AV.bool b6], false, []⟩)
                    (fun i32 i33 i34 =>
                      bif decide ((i34 : Int) < i33) then
                        (some ⟨AV.tup [AV.int .i32 0, AV.int .i64 1, AV.bool false], false, []⟩)
                      else
                        bif decide ((i34 : Int) > 1114111) then
                          (some ⟨AV.tup [AV.int .i32 0, AV.int .i64 1, AV.bool false], false, []⟩)
                        else
                          bif decide ((i34 : Int) ≥ 55296) then
                            (bif decide ((i34 : Int) ≤ 57343) then
                              (some ⟨AV.tup [AV.int .i32 0, AV.int .i64 1, AV.bool false], false, []⟩)
                            else
                              some ⟨AV.tup [AV.int .i32 i34, AV.int .i64 i32, AV.bool true], false, []⟩)
                          else
                            some ⟨AV.tup [AV.int .i32 i34, AV.int .i64 i32, AV.bool true], false, []⟩)
                    N s1 4 65536 (IntKind.i32.wrap (IntKind.u8.wrap (BitVec.ofInt IntKind.u8.bits (c1.toNat : Int) &&& BitVec.ofInt IntKind.u8.bits 7).toNat)) 1)
              else
                some ⟨AV.tup [AV.int .i32 0, AV.int .i64 1, AV.bool false], false, []⟩)
            else
              some ⟨AV.tup [AV.int .i32 0, AV.int .i64 1, AV.bool false], false, []⟩)
      else
        bif decide (((c1.toNat : Int) : Int) ≥ 224) then
          (bif decide (((c1.toNat : Int) : Int) ≤ 239) then
            (bif decide ((((s1.length : Nat) : Int) : Int) < 3) then
              (some ⟨AV.tup [AV.int .i32 0, AV.int .i64 1, AV.bool false], false, []⟩)
            else
              ref01Rune_L1 R N
                (fun i35 i36 b7 =>
                  some ⟨AV.tup [AV.int .i32 i35, AV.int .i64 i36, AV.bool b7], false, []⟩)
                (fun i37 i38 i39 =>
                  bif decide ((i39 : Int) < i38) then
                    (some ⟨AV.tup [AV.int .i32 0, AV.int .i64 1, AV.bool false], false, []⟩)
                  else
                    bif decide ((i39 : Int) > 1114111) then
                      (some ⟨AV.tup [AV.int .i32 0, AV.int .i64 1, AV.bool false], false, []⟩)
                    else
                      bif decide ((i39 : Int) ≥ 55296) then
                        (bif decide ((i39 : Int) ≤ 57343) then
                          (some ⟨AV.tup [AV.int .i32 0, AV.int .i64 1, AV.bool false], false, []⟩)
                        else
                          some ⟨AV.tup [AV.int .i32 i39, AV.int .i64 i37, AV.bool true], false, []⟩)
                      else
                        some ⟨AV.tup [AV.int .i32 i39, AV.int .i64 i37, AV.bool true], false, []⟩)
                N s1 3 2048 (IntKind.i32.wrap (IntKind.u8.wrap (BitVec.ofInt IntKind.u8.bits (c1.toNat : Int) &&& BitVec.ofInt IntKind.u8.bits 15).toNat)) 1)
          else
            bif decide (((c1.toNat : Int) : Int) ≥ 240) then
              (bif decide (((c1.toNat : Int) : Int) ≤ 244) then
                (bif decide ((((s1.length : Nat) : Int) : Int) < 4) then
                  (some ⟨AV.tup [AV.int .i32 0, AV.int .i64 1, AV.bool false], false, []⟩)
                else
                  ref01Rune_L1 R N
                    (fun i40 i41 b8 =>
                      some ⟨AV.tup [AV.int .i32 i40, AV.int .i64 i41, AV.bool b8], false, []⟩)
                    (fun i42 i43 i44 =>
                      bif decide ((i44 : Int) < i43) then
                        (some ⟨AV.tup [AV.int .i32 0, AV.int .i64 1, AV.bool false], false, []⟩)
                      else
                        bif decide ((i44 : Int) > 1114111) then
                          (some ⟨AV.tup [AV.int .i32 0, AV.int .i64 1, AV.bool false], false, []⟩)
                        else
                          bif decide ((i44 : Int) ≥ 55296) then
                            (bif decide ((i44 : Int) ≤ 57343) then
                              (some ⟨AV.tup [AV.int .i32 0, AV.int .i64 1, AV.bool false], false, []⟩)
                            else
                              some ⟨AV.tup [AV.int .i32 i44, AV.int .i64 i42, AV.bool true], false, []⟩)
                          else
                            some ⟨AV.tup [AV.int .i32 i44, AV.int .i64 i42, AV.bool true], false, []⟩)
                    N s1 4 65536 (IntKind.i32.wrap (IntKind.u8.wrap (BitVec.ofInt IntKind.u8.bits (c1.toNat : Int) &&& BitVec.ofInt IntKind.u8.bits 7).toNat)) 1)
              else
                some ⟨AV.tup [AV.int .i32 0, AV.int .i64 1, AV.bool false], false, []⟩)
            else
              some ⟨AV.tup [AV.int .i32 0, AV.int .i64 1, AV.bool false], false, []⟩)
        else
          bif decide (((c1.toNat : Int) : Int) ≥ 240) then
            (bif decide (((c1.toNat : Int) : Int) ≤ 244) then
              (bif decide ((((s1.length : Nat) : Int) : Int) < 4) then
                (some ⟨AV.tup [AV.int .i32 0, AV.int .i64 1, AV.bool false], false, []⟩)
              else
                ref01Rune_L1 R N
                  (fun i45 i46 b9 =>
                    some ⟨AV.tup [AV.int .i32 i45, AV.int .i64 i46, AV.bool b9], false, []⟩)
                  (fun i47 i48 i49 =>
                    bif decide ((i49 : Int) < i48) then
                      (some ⟨AV.tup [AV.int .i32 0, AV.int .i64 1, AV.bool false], false, []⟩)
                    else
                      bif decide ((i49 : Int) > 1114111) then
                        (some ⟨AV.tup [AV.int .i32 0, AV.int .i64 1, AV.bool false], false, []⟩)
                      else
                        bif decide ((i49 : Int) ≥ 55296) then
                          (bif decide ((i49 : Int) ≤ 57343) then
                            (some ⟨AV.tup [AV.int .i32 0, AV.int .i64 1, AV.bool false], false, []⟩)
                          else
                            some ⟨AV.tup [AV.int .i32 i49, AV.int .i64 i47, AV.bool true], false, []⟩)
                        else
                          some ⟨AV.tup [AV.int .i32 i49, AV.int .i64 i47, AV.bool true], false, []⟩)
                  N s1 4 65536 (IntKind.i32.wrap (IntKind.u8.wrap (BitVec.ofInt IntKind.u8.bits (c1.toNat : Int) &&& BitVec.ofInt IntKind.u8.bits 7).toNat)) 1)
            else
              some ⟨AV.tup [AV.int .i32 0, AV.int .i64 1, AV.bool false], false, []⟩)
          else
            some ⟨AV.tup [AV.int .i32 0, AV.int .i64 1, AV.bool false], false, []⟩
theorem ref01Rune_eq (R : Nat → List AV → Option Res) (N : Nat) (s1 : List UInt8) : runF gl R N ref01Rune [AV.bytes s1] = ref01Runer R N s1 := by
  refine Eq.trans (b :=
      bif (((s1.length : Nat) : Int) : Int) == 0 then
        (some ⟨AV.tup [AV.int .i32 0, AV.int .i64 0, AV.bool false], false, []⟩)
      else
        need (decide (0 ≤ (0 : Int))) <|
        (s1[Int.toNat 0]?).bind fun c1 =>
        bif decide (((c1.toNat : Int) : Int) < 128) then
          (some ⟨AV.tup [AV.int .i32 (IntKind.i32.wrap (c1.toNat : Int)), AV.int .i64 1, AV.bool true], false, []⟩)
        else
          bif decide (((c1.toNat : Int) : Int) ≥ 194) then
            (bif decide (((c1.toNat : Int) : Int) ≤ 223) then
              (bif decide ((((s1.length : Nat) : Int) : Int) < 2) then
                (some ⟨AV.tup [AV.int .i32 0, AV.int .i64 1, AV.bool false], false, []⟩)
              else
                rounds [0, 6, 7, 8, 9] [] (evC gl R N ref01Rune_c0) (Kblock 1 (Kthen gl R N ref01Rune_c1 (Kret ref01Rune.rets []))) N ⟨[(0, .imm (AV.bytes s1)), (6, .imm (AV.int .i64 2)), (7, .imm (AV.int .i32 128)), (8, .imm (AV.int .i32 (IntKind.i32.wrap (IntKind.u8.wrap (BitVec.ofInt IntKind.u8.bits (c1.toNat : Int) &&& BitVec.ofInt IntKind.u8.bits 31).toNat)))), (9, .imm (AV.int .i64 1))], []⟩)
            else
              bif decide (((c1.toNat : Int) : Int) ≥ 224) then
                (bif decide (((c1.toNat : Int) : Int) ≤ 239) then
                  (bif decide ((((s1.length : Nat) : Int) : Int) < 3) then
                    (some ⟨AV.tup [AV.int .i32 0, AV.int .i64 1, AV.bool false], false, []⟩)
                  else
                    rounds [0, 6, 7, 8, 9] [] (evC gl R N ref01Rune_c0) (Kblock 1 (Kthen gl R N ref01Rune_c1 (Kret ref01Rune.rets []))) N ⟨[(0, .imm (AV.bytes s1)), (6, .imm (AV.int .i64 3)), (7, .imm (AV.int .i32 2048)), (8, .imm (AV.int .i32 (IntKind.i32.wrap (IntKind.u8.wrap (BitVec.ofInt IntKind.u8.bits (c1.toNat : Int) &&& BitVec.ofInt IntKind.u8.bits 15).toNat)))), (9, .imm (AV.int .i64 1))], []⟩)
                else
                  bif decide (((c1.toNat : Int) : Int) ≥ 240) then
                    (bif decide (((c1.toNat : Int) : Int) ≤ 244) then
                      (bif decide ((((s1.length : Nat) : Int) : Int) < 4) then
                        (some ⟨AV.tup [AV.int .i32 0, AV.int .i64 1, AV.bool false], false, []⟩)
                      else
                        rounds [0, 6, 7, 8, 9] [] (evC gl R N ref01Rune_c0) (Kblock 1 (Kthen gl R N ref01Rune_c1 (Kret ref01Rune.rets []))) N ⟨[(0, .imm (AV.bytes s1)), (6, .imm (AV.int .i64 4)), (7, .imm (AV.int .i32 65536)), (8, .imm (AV.int .i32 (IntKind.i32.wrap (IntKind.u8.wrap (BitVec.ofInt IntKind.u8.bits (c1.toNat : Int) &&& BitVec.ofInt IntKind.u8.bits 7).toNat)))), (9, .imm (AV.int .i64 1))], []⟩)
                    else
                      some ⟨AV.tup [AV.int .i32 0, AV.int .i64 1, AV.bool false], false, []⟩)
                  else
                    some ⟨AV.tup [AV.int .i32 0, AV.int .i64 1, AV.bool false], false, []⟩)
              else
                bif decide (((c1.toNat : Int) : Int) ≥ 240) then
                  (bif decide (((c1.toNat : Int) : Int) ≤ 244) then
                    (bif decide ((((s1.length : Nat) : Int) : Int) < 4) then
                      (some ⟨AV.tup [AV.int .i32 0, AV.int .i64 1, AV.bool false], false, []⟩)
                    else
                      rounds [0, 6, 7, 8, 9] [] (evC gl R N ref01Rune_c0) (Kblock 1 (Kthen gl R N ref01Rune_c1 (Kret ref01Rune.rets []))) N ⟨[(0, .imm (AV.bytes s1)), (6, .imm (AV.int .i64 4)), (7, .imm (AV.int .i32 65536)), (8, .imm (AV.int .i32 (IntKind.i32.wrap (IntKind.u8.wrap (BitVec.ofInt IntKind.u8.bits (c1.toNat : Int) &&& BitVec.ofInt IntKind.u8.bits 7).toNat)))), (9, .imm (AV.int .i64 1))], []⟩)
                  else
                    some ⟨AV.tup [AV.int .i32 0, AV.int .i64 1, AV.bool false], false, []⟩)
                else
                  some ⟨AV.tup [AV.int .i32 0, AV.int .i64 1, AV.bool false], false, []⟩)
          else
            bif decide (((c1.toNat : Int) : Int) ≥ 224) then
              (bif decide (((c1.toNat : Int) : Int) ≤ 239) then
                (bif decide ((((s1.length : Nat) : Int) : Int) < 3) then
                  (some ⟨AV.tup [AV.int .i32 0, AV.int .i64 1, AV.bool false], false, []⟩)
                else
                  rounds [0, 6, 7, 8, 9] [] (evC gl R N ref01Rune_c0) (Kblock 1 (Kthen gl R N ref01Rune_c1 (Kret ref01Rune.rets []))) N ⟨[(0, .imm (AV.bytes s1)), (6, .imm (AV.int .i64 3)), (7, .imm (AV.int .i32 2048)), (8, .imm (AV.int .i32 (IntKind.i32.wrap (IntKind.u8.wrap (BitVec.ofInt IntKind.u8.bits (c1.toNat : Int) &&& BitVec.ofInt IntKind.u8.bits 15).toNat)))), (9, .imm (AV.int .i64 1))], []⟩)
              else
                bif decide (((c1.toNat : Int) : Int) ≥ 240) then
                  (bif decide (((c1.toNat : Int) : Int) ≤ 244) then
                    (bif decide ((((s1.length : Nat) : Int) : Int) < 4) then
                      (some ⟨AV.tup [AV.int .i32 0, AV.int .i64 1, AV.bool false], false, []⟩)
                    else
                      rounds [0, 6, 7, 8, 9] [] (evC gl R N ref01Rune_c0) (Kblock 1 (Kthen gl R N ref01Rune_c1 (Kret ref01Rune.rets []))) N ⟨[(0, .imm (AV.bytes s1)), (6, .imm (AV.int .i64 4)), (7, .imm (AV.int .i32 65536)), (8, .imm (AV.int .i32 (IntKind.i32.wrap (IntKind.u8.wrap (BitVec.ofInt IntKind.u8.bits (c1.toNat : Int) &&& BitVec.ofInt IntKind.u8.bits 7).toNat)))), (9, .imm (AV.int .i64 1))], []⟩)
                  else
                    some ⟨AV.tup [AV.int .i32 0, AV.int .i64 1, AV.bool false], false, []⟩)
                else
                  some ⟨AV.tup [AV.int .i32 0, AV.int .i64 1, AV.bool false], false, []⟩)
            else
              bif decide (((c1.toNat : Int) : Int) ≥ 240) then
                (bif decide (((c1.toNat : Int) : Int) ≤ 244) then
                  (bif decide ((((s1.length : Nat) : Int) : Int) < 4) then
                    (some ⟨AV.tup [AV.int .i32 0, AV.int .i64 1, AV.bool false], false, []⟩)
                  else
                    rounds [0, 6, 7, 8, 9] [] (evC gl R N ref01Rune_c0) (Kblock 1 (Kthen gl R N ref01Rune_c1 (Kret ref01Rune.rets []))) N ⟨[(0, .imm (AV.bytes s1)), (6, .imm (AV.int .i64 4)), (7, .imm (AV.int .i32 65536)), (8, .imm (AV.int .i32 (IntKind.i32.wrap (IntKind.u8.wrap (BitVec.ofInt IntKind.u8.bits (c1.toNat : Int) &&& BitVec.ofInt IntKind.u8.bits 7).toNat)))), (9, .imm (AV.int .i64 1))], []⟩)
                else
                  some ⟨AV.tup [AV.int .i32 0, AV.int .i64 1, AV.bool false], false, []⟩)
              else
                some ⟨AV.tup [AV.int .i32 0, AV.int .i64 1, AV.bool false], false, []⟩) (by kernel_rfl) ?_
  simp (config := { maxSteps := 100000000 }) only [ref01Rune_L1_eq]
  kernel_rfl
theorem ref01Rune_fit : fitF Tryd.prog ref01Rune Tryd.f80 = true := by
  kernel_rfl

def ref01Printable_c0 : AC := .seq (.region [.op (some 2) none (.mv (.k (AV.bool false)))]) (.seq (.block 0 (.seq (.region [.op (some 4) none (.mv (.t 0)), .op (some 5) none (.bin .eql (.t 4) (.k (AV.int .i32 9))), .op (some 6) none (.mv (.t 5)), .split 6, .op (some 7) (some (6, false)) (.mv (.t 0)), .op (some 8) (some (6, false)) (.bin .eql (.t 7) (.k (AV.int .i32 10))), .op (some 9) none (.pick (.t 6) (.k (AV.bool true)) (.t 8)), .op (some 10) none (.mv (.t 9)), .split 10, .op (some 11) (some (10, false)) (.mv (.t 0)), .op (some 12) (some (10, false)) (.bin .eql (.t 11) (.k (AV.int .i32 13))), .op (some 13) none (.pick (.t 10) (.k (AV.bool true)) (.t 12)), .op (some 14) none (.mv (.t 13)), .split 14, .op (some 15) (some (14, false)) (.mv (.t 0)), .op (some 16) (some (14, false)) (.bin .eql (.t 15) (.k (AV.int .i32 133))), .op (some 17) none (.pick (.t 14) (.k (AV.bool true)) (.t 16)), .op (some 3) none (.mv (.t 17))]) (.cond (.t 3) (.seq (.region [.op (some 2) none (.mv (.k (AV.bool true)))]) (.ret [2] [])) (.seq (.region [.op (some 19) none (.mv (.t 0)), .op (some 20) none (.bin .lss (.t 19) (.k (AV.int .i32 32))), .op (some 21) none (.mv (.t 20)), .split 21, .op (some 22) (some (21, false)) (.mv (.t 0)), .op (some 23) (some (21, false)) (.bin .geq (.t 22) (.k (AV.int .i32 127))), .op (some 24) (some (21, false)) (.mv (.t 23)), .split 24, .op (some 25) (some (24, true)) (.mv (.t 0)), .op (some 26) (some (24, true)) (.bin .leq (.t 25) (.k (AV.int .i32 159))), .op (some 27) (some (21, false)) (.pick (.t 24) (.t 26) (.k (AV.bool false))), .op (some 28) none (.pick (.t 21) (.k (AV.bool true)) (.t 27)), .op (some 29) none (.mv (.t 28)), .split 29, .op (some 30) (some (29, false)) (.mv (.t 0)), .op (some 31) (some (29, false)) (.bin .geq (.t 30) (.k (AV.int .i32 55296))), .op (some 32) (some (29, false)) (.mv (.t 31)), .split 32, .op (some 33) (some (32, true)) (.mv (.t 0)), .op (some 34) (some (32, true)) (.bin .leq (.t 33) (.k (AV.int .i32 57343))), .op (some 35) (some (29, false)) (.pick (.t 32) (.t 34) (.k (AV.bool false))), .op (some 36) none (.pick (.t 29) (.k (AV.bool true)) (.t 35)), .op (some 37) none (.mv (.t 36)), .split 37, .op (some 38) (some (37, false)) (.mv (.t 0)), .op (some 39) (some (37, false)) (.bin .eql (.t 38) (.k (AV.int .i32 65279))), .op (some 40) none (.pick (.t 37) (.k (AV.bool true)) (.t 39)), .op (some 41) none (.mv (.t 40)), .split 41, .op (some 42) (some (41, false)) (.mv (.t 0)), .op (some 43) (some (41, false)) (.bin .eql (.t 42) (.k (AV.int .i32 65534))), .op (some 44) none (.pick (.t 41) (.k (AV.bool true)) (.t 43)), .op (some 45) none (.mv (.t 44)), .split 45, .op (some 46) (some (45, false)) (.mv (.t 0)), .op (some 47) (some (45, false)) (.bin .eql (.t 46) (.k (AV.int .i32 65535))), .op (some 48) none (.pick (.t 45) (.k (AV.bool true)) (.t 47)), .op (some 49) none (.mv (.t 48)), .split 49, .op (some 50) (some (49, false)) (.mv (.t 0)), .op (some 51) (some (49, false)) (.bin .gtr (.t 50) (.k (AV.int .i32 1114111))), .op (some 52) none (.pick (.t 49) (.k (AV.bool true)) (.t 51)), .op (some 18) none (.mv (.t 52))]) (.cond (.t 18) (.seq (.region [.op (some 2) none (.mv (.k (AV.bool false)))]) (.ret [2] [])) (.skip)))))) (.seq (.region [.op (some 2) none (.mv (.k (AV.bool true)))]) (.ret [2] [])))
def ref01Printable : AFunc := ⟨1, 53, [.tmp 2], ref01Printable_c0⟩
def ref01Printabler (R : Nat → List AV → Option Res) (N : Nat) (i1 : Int) : Option Res :=
  bif (i1 : Int) == 9 then
    (some ⟨AV.bool true, false, []⟩)
  else
    bif (i1 : Int) == 10 then
      (some ⟨AV.bool true, false, []⟩)
    else
      bif (i1 : Int) == 13 then
        (some ⟨AV.bool true, false, []⟩)
      else
        bif (i1 : Int) == 133 then
          (some ⟨AV.bool true, false, []⟩)
        else
          bif decide ((i1 : Int) < 32) then
            (some ⟨AV.bool false, false, []⟩)
          else
            bif decide ((i1 : Int) ≥ 127) then
              (bif decide ((i1 : Int) ≤ 159) then
                (some ⟨AV.bool false, false, []⟩)
              else
                bif decide ((i1 : Int) ≥ 55296) then
                  (bif decide ((i1 : Int) ≤ 57343) then
                    (some ⟨AV.bool false, false, []⟩)
                  else
                    bif (i1 : Int) == 65279 then
                      (some ⟨AV.bool false, false, []⟩)
                    else
                      bif (i1 : Int) == 65534 then
                        (some ⟨AV.bool false, false, []⟩)
                      else
                        bif (i1 : Int) == 65535 then
                          (some ⟨AV.bool false, false, []⟩)
                        else
                          bif decide ((i1 : Int) > 1114111) then
                            (some ⟨AV.bool false, false, []⟩)
                          else
                            some ⟨AV.bool true, false, []⟩)
                else
                  bif (i1 : Int) == 65279 then
                    (some ⟨AV.bool false, false, []⟩)
                  else
                    bif (i1 : Int) == 65534 then
                      (some ⟨AV.bool false, false, []⟩)
                    else
                      bif (i1 : Int) == 65535 then
                        (some ⟨AV.bool false, false, []⟩)
                      else
                        bif decide ((i1 : Int) > 1114111) then
                          (some ⟨AV.bool false, false, []⟩)
                        else
                          some ⟨AV.bool true, false, []⟩)
            else
              bif decide ((i1 : Int) ≥ 55296) then
                (bif decide ((i1 : Int) ≤ 57343) then
                  (some ⟨AV.bool false, false, []⟩)
                else
                  bif (i1 : Int) == 65279 then
                    (some ⟨AV.bool false, false, []⟩)
                  else
                    bif (i1 : Int) == 65534 then
                      (some ⟨AV.bool false, false, []⟩)
                    else
                      bif (i1 : Int) == 65535 then
                        (some ⟨AV.bool false, false, []⟩)
                      else
                        bif decide ((i1 : Int) > 1114111) then
                          (some ⟨AV.bool false, false, []⟩)
                        else
                          some ⟨AV.bool true, false, []⟩)
              else
                bif (i1 : Int) == 65279 then
                  (some ⟨AV.bool false, false, []⟩)
                else
                  bif (i1 : Int) == 65534 then
                    (some ⟨AV.bool false, false, []⟩)
                  else
                    bif (i1 : Int) == 65535 then
                      (some ⟨AV.bool false, false, []⟩)
                    else
                      bif decide ((i1 : Int) > 1114111) then
                        (some ⟨AV.bool false, false, []⟩)
                      else
                        some ⟨AV.bool true, false, []⟩
theorem ref01Printable_eq (R : Nat → List AV → Option Res) (N : Nat) (i1 : Int) : runF gl R N ref01Printable [AV.int .i32 i1] = ref01Printabler R N i1 := by
  kernel_rfl
theorem ref01Printable_fit : fitF Tryd.prog ref01Printable Tryd.f82 = true := by
  kernel_rfl

def keepCopyInt_c0 : AC := .seq (.region [.op (some 2) none (.nilOwn 4 (some (1, .any)))]) (.seq (.region [.op (some 3) none (.mv (.t 0)), .op (some 4) none (.appNil 4 (.t 3) 1 false), .op (some 2) none (.mv (.t 4))]) (.ret [2] [4]))
def keepCopyInt : AFunc := ⟨1, 5, [.tmp 2], keepCopyInt_c0⟩
def keepCopyIntr (R : Nat → List AV → Option Res) (N : Nat) (l1 : List AV) : Option Res :=
  need (decide (l1.length ≤ 1099511627776)) <|
  some ⟨AV.row 1 ((l1.drop 0).take l1.length), true, []⟩
theorem keepCopyInt_eq (R : Nat → List AV → Option Res) (N : Nat) (l1 : List AV) : runF gl R N keepCopyInt [AV.row 1 l1] = keepCopyIntr R N l1 := by
  kernel_rfl
theorem keepCopyInt_fit : fitF Tryd.prog keepCopyInt Tryd.f84 = true := by
  kernel_rfl

def keepCutInt_c0 : AC := .seq (.region [.op (some 4) none (.mv (.k (AV.row 1 [])))]) (.seq (.region [.op (some 5) none (.mv (.t 0)), .op (some 6) none (.mv (.t 0)), .op (some 7) none (.len (.t 6) false), .op (some 8) none (.mv (.t 1)), .op (some 9) none (.mn [.t 7, .t 8]), .op (some 10) none (.slice (.t 5) none (some (.t 9)) 1), .op (some 11) none (.call id_keepCopyInt [.t 10] (.row 1)), .op (some 4) none (.mv (.t 11))]) (.ret [4] []))
def keepCutInt : AFunc := ⟨2, 12, [.tmp 4], keepCutInt_c0⟩
def keepCutIntr (R : Nat → List AV → Option Res) (N : Nat) (l1 : List AV) (i1 : Int) : Option Res :=
  need (decide (0 ≤ (if i1 < ((l1.length : Nat) : Int) then i1 else ((l1.length : Nat) : Int) : Int)) && decide ((if i1 < ((l1.length : Nat) : Int) then i1 else ((l1.length : Nat) : Int) : Int) ≤ ((l1.length : Nat) : Int))) <|
  (R id_keepCopyInt [AV.row 1 ((l1.take (Int.toNat (if i1 < ((l1.length : Nat) : Int) then i1 else ((l1.length : Nat) : Int)))).drop 0)]).bind fun r1 =>
  asR 1 r1.v fun l2 =>
  some ⟨AV.row 1 l2, false, []⟩
theorem keepCutInt_eq (R : Nat → List AV → Option Res) (N : Nat) (l1 : List AV) (i1 : Int) : runF gl R N keepCutInt [AV.row 1 l1, AV.int .i64 i1] = keepCutIntr R N l1 i1 := by
  kernel_rfl
theorem keepCutInt_fit : fitF Tryd.prog keepCutInt Tryd.f54 = true := by
  kernel_rfl

def keepSameInt_L1s (R : Nat → List AV → Option Res) (N : Nat) (go : List AV → List AV → Int → Option Res) (k0 : Bool → Option Res) (k1 : Option Res) (l3 : List AV) (l4 : List AV) (i1 : Int) : Option Res :=
  bif decide ((i1 : Int) < ((l3.length : Nat) : Int)) then
    (need (decide (0 ≤ (i1 : Int))) <|
    (l3[Int.toNat i1]?).bind fun e1 =>
    asI .i64 e1 fun i2 =>
    need (decide (0 ≤ (i1 : Int))) <|
    (l4[Int.toNat i1]?).bind fun e2 =>
    asI .i64 e2 fun i3 =>
    bif (i2 : Int) != i3 then
      (k0 false)
    else
      go l3 l4 (IntKind.i64.wrap (i1 + 1)))
  else
    k1
def keepSameInt_L1 (R : Nat → List AV → Option Res) (N : Nat) (k0 : Bool → Option Res) (k1 : Option Res) : Nat → List AV → List AV → Int → Option Res
  | 0, _, _, _ => none
  | n + 1, l3, l4, i1 => keepSameInt_L1s R N (keepSameInt_L1 R N k0 k1 n) k0 k1 l3 l4 i1
def keepSameInt_c0 : AC := .seq (.seq (.region [.op (some 11) none (.mv (.t 5)), .op (some 12) none (.mv (.t 0)), .op (some 13) none (.len (.t 12) false), .op (some 14) none (.bin .lss (.t 11) (.t 13))]) (.cond (.t 14) (.skip) (.exit 0 [] []))) (.seq (.block 1 (.seq (.regionD [0, 1, 5, 25] [] [.op (some 17) none (.mv (.t 0)), .op (some 18) none (.mv (.t 5)), .op (some 19) none (.iaddr (.t 17) (.t 18) 1 (.int .i64)), .op (some 20) none (.load (.t 19) none (.int .i64)), .op (some 21) none (.mv (.t 1)), .op (some 22) none (.mv (.t 5)), .op (some 23) none (.iaddr (.t 21) (.t 22) 1 (.int .i64)), .op (some 24) none (.load (.t 23) none (.int .i64)), .op (some 25) none (.bin .neq (.t 20) (.t 24))] []) (.cond (.t 25) (.seq (.region [.op (some 4) none (.mv (.k (AV.bool false)))]) (.ret [4] [])) (.skip)))) (.region [.op (some 15) none (.mv (.t 5)), .op (some 16) none (.bin .add (.t 15) (.k (AV.int .i64 1))), .op (some 5) none (.mv (.t 16))]))
theorem keepSameInt_L1s_eq (R : Nat → List AV → Option Res) (N : Nat) (K : Ex → St → Option Res) (W : St → Option Res) (l3 : List AV) (l4 : List AV) (i1 : Int) :
    evC gl R N keepSameInt_c0 (Kseq (fun st' => W (prune [0, 1, 5] [] st')) K) ⟨[(0, .imm (AV.row 1 l3)), (1, .imm (AV.row 1 l4)), (5, .imm (AV.int .i64 i1))], []⟩ =
    keepSameInt_L1s R N (fun (l3 : List AV) (l4 : List AV) (i1 : Int) => W ⟨[(0, .imm (AV.row 1 l3)), (1, .imm (AV.row 1 l4)), (5, .imm (AV.int .i64 i1))], []⟩) (fun (b1 : Bool) => K .ret ⟨[(4, .imm (AV.bool b1))], []⟩) (K (.exit 0) ⟨[], []⟩) l3 l4 i1 := by
  kernel_rfl
theorem keepSameInt_L1_eq (R : Nat → List AV → Option Res) (N : Nat) (K : Ex → St → Option Res) : ∀ (n : Nat) (l3 : List AV) (l4 : List AV) (i1 : Int),
    rounds [0, 1, 5] [] (evC gl R N keepSameInt_c0) K n ⟨[(0, .imm (AV.row 1 l3)), (1, .imm (AV.row 1 l4)), (5, .imm (AV.int .i64 i1))], []⟩ = keepSameInt_L1 R N (fun (b1 : Bool) => K .ret ⟨[(4, .imm (AV.bool b1))], []⟩) (K (.exit 0) ⟨[], []⟩) n l3 l4 i1
  | 0, _, _, _ => rfl
  | n + 1, l3, l4, i1 => (keepSameInt_L1s_eq R N K (rounds [0, 1, 5] [] (evC gl R N keepSameInt_c0) K n) l3 l4 i1).trans
      (congrArg (fun go => keepSameInt_L1s R N go (fun (b1 : Bool) => K .ret ⟨[(4, .imm (AV.bool b1))], []⟩) (K (.exit 0) ⟨[], []⟩) l3 l4 i1) (funext fun l3 => funext fun l4 => funext fun i1 => keepSameInt_L1_eq R N K n l3 l4 i1))
def keepSameInt_c1 : AC := .seq (.region [.op (some 4) none (.mv (.k (AV.bool true)))]) (.ret [4] [])
def keepSameInt_c2 : AC := .seq (.region [.op (some 4) none (.mv (.k (AV.bool false)))]) (.seq (.seq (.region [.op (some 6) none (.mv (.t 0)), .op (some 7) none (.len (.t 6) false), .op (some 8) none (.mv (.t 1)), .op (some 9) none (.len (.t 8) false), .op (some 10) none (.bin .neq (.t 7) (.t 9))]) (.cond (.t 10) (.seq (.region [.op (some 4) none (.mv (.k (AV.bool false)))]) (.ret [4] [])) (.skip))) (.seq (.seq (.region [.op (some 5) none (.mv (.k (AV.int .i64 0)))]) (.block 0 (.loop [0, 1, 5] [] (keepSameInt_c0)))) (keepSameInt_c1)))
def keepSameInt : AFunc := ⟨2, 26, [.tmp 4], keepSameInt_c2⟩
def keepSameIntr (R : Nat → List AV → Option Res) (N : Nat) (l1 : List AV) (l2 : List AV) : Option Res :=
  bif (((l1.length : Nat) : Int) : Int) != ((l2.length : Nat) : Int) then
    (some ⟨AV.bool false, false, []⟩)
  else
    keepSameInt_L1 R N
      (fun b3 =>
        some ⟨AV.bool b3, false, []⟩)
      (
        some ⟨AV.bool true, false, []⟩)
      N l1 l2 0
theorem keepSameInt_eq (R : Nat → List AV → Option Res) (N : Nat) (l1 : List AV) (l2 : List AV) : runF gl R N keepSameInt [AV.row 1 l1, AV.row 1 l2] = keepSameIntr R N l1 l2 := by
  refine Eq.trans (b :=
      bif (((l1.length : Nat) : Int) : Int) != ((l2.length : Nat) : Int) then
        (some ⟨AV.bool false, false, []⟩)
      else
        rounds [0, 1, 5] [] (evC gl R N keepSameInt_c0) (Kblock 0 (Kthen gl R N keepSameInt_c1 (Kret keepSameInt.rets []))) N ⟨[(0, .imm (AV.row 1 l1)), (1, .imm (AV.row 1 l2)), (5, .imm (AV.int .i64 0))], []⟩) (by kernel_rfl) ?_
  simp (config := { maxSteps := 100000000 }) only [keepSameInt_L1_eq]
  kernel_rfl
theorem keepSameInt_fit : fitF Tryd.prog keepSameInt Tryd.f33 = true := by
  kernel_rfl

def ref01Letter_c0 : AC := .seq (.region [.op (some 2) none (.mv (.k (AV.bool false)))]) (.seq (.region [.op (some 3) none (.mv (.t 0)), .op (some 4) none (.bin .geq (.t 3) (.k (AV.int .u8 65))), .op (some 5) none (.mv (.t 4)), .split 5, .op (some 6) (some (5, true)) (.mv (.t 0)), .op (some 7) (some (5, true)) (.bin .leq (.t 6) (.k (AV.int .u8 90))), .op (some 8) none (.pick (.t 5) (.t 7) (.k (AV.bool false))), .op (some 9) none (.mv (.t 8)), .split 9, .op (some 10) (some (9, false)) (.mv (.t 0)), .op (some 11) (some (9, false)) (.bin .geq (.t 10) (.k (AV.int .u8 97))), .op (some 12) (some (9, false)) (.mv (.t 11)), .split 12, .op (some 13) (some (12, true)) (.mv (.t 0)), .op (some 14) (some (12, true)) (.bin .leq (.t 13) (.k (AV.int .u8 122))), .op (some 15) (some (9, false)) (.pick (.t 12) (.t 14) (.k (AV.bool false))), .op (some 16) none (.pick (.t 9) (.k (AV.bool true)) (.t 15)), .op (some 17) none (.mv (.t 16)), .split 17, .op (some 18) (some (17, false)) (.mv (.t 0)), .op (some 19) (some (17, false)) (.bin .geq (.t 18) (.k (AV.int .u8 48))), .op (some 20) (some (17, false)) (.mv (.t 19)), .split 20, .op (some 21) (some (20, true)) (.mv (.t 0)), .op (some 22) (some (20, true)) (.bin .leq (.t 21) (.k (AV.int .u8 57))), .op (some 23) (some (17, false)) (.pick (.t 20) (.t 22) (.k (AV.bool false))), .op (some 24) none (.pick (.t 17) (.k (AV.bool true)) (.t 23)), .op (some 25) none (.mv (.t 24)), .split 25, .op (some 26) (some (25, false)) (.mv (.t 0)), .op (some 27) (some (25, false)) (.bin .eql (.t 26) (.k (AV.int .u8 45))), .op (some 28) none (.pick (.t 25) (.k (AV.bool true)) (.t 27)), .op (some 29) none (.mv (.t 28)), .split 29, .op (some 30) (some (29, false)) (.mv (.t 0)), .op (some 31) (some (29, false)) (.bin .eql (.t 30) (.k (AV.int .u8 95))), .op (some 32) none (.pick (.t 29) (.k (AV.bool true)) (.t 31)), .op (some 2) none (.mv (.t 32))]) (.ret [2] []))
def ref01Letter : AFunc := ⟨1, 33, [.tmp 2], ref01Letter_c0⟩
def ref01Letterr (R : Nat → List AV → Option Res) (N : Nat) (i1 : Int) : Option Res :=
  bif decide ((i1 : Int) ≥ 65) then
    (bif decide ((i1 : Int) ≤ 90) then
      (some ⟨AV.bool true, false, []⟩)
    else
      bif decide ((i1 : Int) ≥ 97) then
        (bif decide ((i1 : Int) ≤ 122) then
          (some ⟨AV.bool true, false, []⟩)
        else
          bif decide ((i1 : Int) ≥ 48) then
            (bif decide ((i1 : Int) ≤ 57) then
              (some ⟨AV.bool true, false, []⟩)
            else
              bif (i1 : Int) == 45 then
                (some ⟨AV.bool true, false, []⟩)
              else
                some ⟨AV.bool ((i1 : Int) == 95), false, []⟩)
          else
            bif (i1 : Int) == 45 then
              (some ⟨AV.bool true, false, []⟩)
            else
              some ⟨AV.bool ((i1 : Int) == 95), false, []⟩)
      else
        bif decide ((i1 : Int) ≥ 48) then
          (bif decide ((i1 : Int) ≤ 57) then
            (some ⟨AV.bool true, false, []⟩)
          else
            bif (i1 : Int) == 45 then
              (some ⟨AV.bool true, false, []⟩)
            else
              some ⟨AV.bool ((i1 : Int) == 95), false, []⟩)
        else
          bif (i1 : Int) == 45 then
            (some ⟨AV.bool true, false, []⟩)
          else
            some ⟨AV.bool ((i1 : Int) == 95), false, []⟩)
  else
    bif decide ((i1 : Int) ≥ 97) then
      (bif decide ((i1 : Int) ≤ 122) then
        (some ⟨AV.bool true, false, []⟩)
      else
        bif decide ((i1 : Int) ≥ 48) then
          (bif decide ((i1 : Int) ≤ 57) then
            (some ⟨AV.bool true, false, []⟩)
          else
            bif (i1 : Int) == 45 then
              (some ⟨AV.bool true, false, []⟩)
            else
              some ⟨AV.bool ((i1 : Int) == 95), false, []⟩)
        else
          bif (i1 : Int) == 45 then
            (some ⟨AV.bool true, false, []⟩)
          else
            some ⟨AV.bool ((i1 : Int) == 95), false, []⟩)
    else
      bif decide ((i1 : Int) ≥ 48) then
        (bif decide ((i1 : Int) ≤ 57) then
          (some ⟨AV.bool true, false, []⟩)
        else
          bif (i1 : Int) == 45 then
            (some ⟨AV.bool true, false, []⟩)
          else
            some ⟨AV.bool ((i1 : Int) == 95), false, []⟩)
      else
        bif (i1 : Int) == 45 then
          (some ⟨AV.bool true, false, []⟩)
        else
          some ⟨AV.bool ((i1 : Int) == 95), false, []⟩
theorem ref01Letter_eq (R : Nat → List AV → Option Res) (N : Nat) (i1 : Int) : runF gl R N ref01Letter [AV.int .u8 i1] = ref01Letterr R N i1 := by
  kernel_rfl
theorem ref01Letter_fit : fitF Tryd.prog ref01Letter Tryd.f68 = true := by
  kernel_rfl

def ref01Name_L1s (R : Nat → List AV → Option Res) (N : Nat) (go : List UInt8 → Int → Option Res) (k0 : Bool → Option Res) (k1 : List UInt8 → Option Res) (s2 : List UInt8) (i1 : Int) : Option Res :=
  bif decide ((i1 : Int) < ((s2.length : Nat) : Int)) then
    (need (decide (0 ≤ (i1 : Int))) <|
    (s2[Int.toNat i1]?).bind fun c1 =>
    (R id_ref01Letter [AV.int .u8 (c1.toNat : Int)]).bind fun r1 =>
    asB r1.v fun b1 =>
    bif !b1 then
      (k0 false)
    else
      go s2 (IntKind.i64.wrap (i1 + 1)))
  else
    k1 s2
def ref01Name_L1 (R : Nat → List AV → Option Res) (N : Nat) (k0 : Bool → Option Res) (k1 : List UInt8 → Option Res) : Nat → List UInt8 → Int → Option Res
  | 0, _, _ => none
  | n + 1, s2, i1 => ref01Name_L1s R N (ref01Name_L1 R N k0 k1 n) k0 k1 s2 i1
def ref01Name_c0 : AC := .seq (.seq (.region [.op (some 4) none (.mv (.t 3)), .op (some 5) none (.mv (.t 0)), .op (some 6) none (.len (.t 5) true), .op (some 7) none (.bin .lss (.t 4) (.t 6))]) (.cond (.t 7) (.skip) (.exit 0 [0] []))) (.seq (.block 1 (.seq (.region [.op (some 10) none (.mv (.t 0)), .op (some 11) none (.mv (.t 3)), .op (some 12) none (.index (.t 10) (.t 11)), .op (some 13) none (.call id_ref01Letter [.t 12] (.bool)), .op (some 14) none (.un .not (.t 13))]) (.cond (.t 14) (.seq (.region [.op (some 2) none (.mv (.k (AV.bool false)))]) (.ret [2] [])) (.skip)))) (.region [.op (some 8) none (.mv (.t 3)), .op (some 9) none (.bin .add (.t 8) (.k (AV.int .i64 1))), .op (some 3) none (.mv (.t 9))]))
theorem ref01Name_L1s_eq (R : Nat → List AV → Option Res) (N : Nat) (K : Ex → St → Option Res) (W : St → Option Res) (s2 : List UInt8) (i1 : Int) :
    evC gl R N ref01Name_c0 (Kseq (fun st' => W (prune [0, 3] [] st')) K) ⟨[(0, .imm (AV.str s2)), (3, .imm (AV.int .i64 i1))], []⟩ =
    ref01Name_L1s R N (fun (s2 : List UInt8) (i1 : Int) => W ⟨[(0, .imm (AV.str s2)), (3, .imm (AV.int .i64 i1))], []⟩) (fun (b2 : Bool) => K .ret ⟨[(2, .imm (AV.bool b2))], []⟩) (fun (s3 : List UInt8) => K (.exit 0) ⟨[(0, .imm (AV.str s3))], []⟩) s2 i1 := by
  kernel_rfl
theorem ref01Name_L1_eq (R : Nat → List AV → Option Res) (N : Nat) (K : Ex → St → Option Res) : ∀ (n : Nat) (s2 : List UInt8) (i1 : Int),
    rounds [0, 3] [] (evC gl R N ref01Name_c0) K n ⟨[(0, .imm (AV.str s2)), (3, .imm (AV.int .i64 i1))], []⟩ = ref01Name_L1 R N (fun (b2 : Bool) => K .ret ⟨[(2, .imm (AV.bool b2))], []⟩) (fun (s3 : List UInt8) => K (.exit 0) ⟨[(0, .imm (AV.str s3))], []⟩) n s2 i1
  | 0, _, _ => rfl
  | n + 1, s2, i1 => (ref01Name_L1s_eq R N K (rounds [0, 3] [] (evC gl R N ref01Name_c0) K n) s2 i1).trans
      (congrArg (fun go => ref01Name_L1s R N go (fun (b2 : Bool) => K .ret ⟨[(2, .imm (AV.bool b2))], []⟩) (fun (s3 : List UInt8) => K (.exit 0) ⟨[(0, .imm (AV.str s3))], []⟩) s2 i1) (funext fun s2 => funext fun i1 => ref01Name_L1_eq R N K n s2 i1))
def ref01Name_c1 : AC := .seq (.region [.op (some 15) none (.mv (.t 0)), .op (some 16) none (.len (.t 15) true), .op (some 17) none (.bin .geq (.t 16) (.k (AV.int .i64 1))), .op (some 18) none (.mv (.t 17)), .split 18, .op (some 19) (some (18, true)) (.mv (.t 0)), .op (some 20) (some (18, true)) (.len (.t 19) true), .op (some 21) (some (18, true)) (.bin .leq (.t 20) (.k (AV.int .i64 32))), .op (some 22) none (.pick (.t 18) (.t 21) (.k (AV.bool false))), .op (some 2) none (.mv (.t 22))]) (.ret [2] [])
def ref01Name_c2 : AC := .seq (.region [.op (some 2) none (.mv (.k (AV.bool false)))]) (.seq (.seq (.region [.op (some 3) none (.mv (.k (AV.int .i64 0)))]) (.block 0 (.loop [0, 3] [] (ref01Name_c0)))) (ref01Name_c1))
def ref01Name : AFunc := ⟨1, 23, [.tmp 2], ref01Name_c2⟩
def ref01Namer (R : Nat → List AV → Option Res) (N : Nat) (s1 : List UInt8) : Option Res :=
  ref01Name_L1 R N
    (fun b4 =>
      some ⟨AV.bool b4, false, []⟩)
    (fun s5 =>
      bif decide ((((s5.length : Nat) : Int) : Int) ≥ 1) then
        (some ⟨AV.bool (decide ((((s5.length : Nat) : Int) : Int) ≤ 32)), false, []⟩)
      else
        some ⟨AV.bool false, false, []⟩)
    N s1 0
theorem ref01Name_eq (R : Nat → List AV → Option Res) (N : Nat) (s1 : List UInt8) : runF gl R N ref01Name [AV.str s1] = ref01Namer R N s1 := by
  refine Eq.trans (b :=
      rounds [0, 3] [] (evC gl R N ref01Name_c0) (Kblock 0 (Kthen gl R N ref01Name_c1 (Kret ref01Name.rets []))) N ⟨[(0, .imm (AV.str s1)), (3, .imm (AV.int .i64 0))], []⟩) (by kernel_rfl) ?_
  simp (config := { maxSteps := 100000000 }) only [ref01Name_L1_eq]
  kernel_rfl
theorem ref01Name_fit : fitF Tryd.prog ref01Name Tryd.f67 = true := by
  kernel_rfl

def ref08ValidTag_c0 : AC := .seq (.region [.op (some 2) none (.mv (.k (AV.bool false)))]) (.seq (.seq (.region [.op (some 3) none (.mv (.t 0)), .op (some 4) none (.bin .eql (.t 3) (.k (AV.str ([33] : List UInt8))))]) (.cond (.t 4) (.seq (.region [.op (some 2) none (.mv (.k (AV.bool true)))]) (.ret [2] [])) (.skip))) (.seq (.seq (.region [.op (some 5) none (.mv (.t 0)), .op (some 6) none (.len (.t 5) true), .op (some 7) none (.bin .gtr (.t 6) (.k (AV.int .i64 2))), .op (some 8) none (.mv (.t 7)), .split 8, .op (some 9) (some (8, true)) (.mv (.t 0)), .op (some 10) (some (8, true)) (.sliceS (.t 9) none (some (.k (AV.int .i64 2)))), .op (some 11) (some (8, true)) (.bin .eql (.t 10) (.k (AV.str ([33, 33] : List UInt8)))), .op (some 12) none (.pick (.t 8) (.t 11) (.k (AV.bool false)))]) (.cond (.t 12) (.seq (.region [.op (some 13) none (.mv (.t 0)), .op (some 14) none (.sliceS (.t 13) (some (.k (AV.int .i64 2))) none), .op (some 15) none (.call id_ref01Name [.t 14] (.bool)), .op (some 2) none (.mv (.t 15))]) (.ret [2] [])) (.skip))) (.seq (.region [.op (some 16) none (.mv (.t 0)), .op (some 17) none (.len (.t 16) true), .op (some 18) none (.bin .gtr (.t 17) (.k (AV.int .i64 1))), .op (some 19) none (.mv (.t 18)), .split 19, .op (some 20) (some (19, true)) (.mv (.t 0)), .op (some 21) (some (19, true)) (.index (.t 20) (.k (AV.int .i64 0))), .op (some 22) (some (19, true)) (.bin .eql (.t 21) (.k (AV.int .u8 33))), .op (some 23) none (.pick (.t 19) (.t 22) (.k (AV.bool false))), .op (some 24) none (.mv (.t 23)), .split 24, .op (some 25) (some (24, true)) (.mv (.t 0)), .op (some 26) (some (24, true)) (.sliceS (.t 25) (some (.k (AV.int .i64 1))) none), .op (some 27) (some (24, true)) (.call id_ref01Name [.t 26] (.bool)), .op (some 28) none (.pick (.t 24) (.t 27) (.k (AV.bool false))), .op (some 2) none (.mv (.t 28))]) (.ret [2] []))))
def ref08ValidTag : AFunc := ⟨1, 29, [.tmp 2], ref08ValidTag_c0⟩
def ref08ValidTagr (R : Nat → List AV → Option Res) (N : Nat) (s1 : List UInt8) : Option Res :=
  bif s1 == ([33] : List UInt8) then
    (some ⟨AV.bool true, false, []⟩)
  else
    bif decide ((((s1.length : Nat) : Int) : Int) > 2) then
      (need (decide (0 ≤ (2 : Int)) && decide ((2 : Int) ≤ ((s1.length : Nat) : Int))) <|
      bif ((s1.take (Int.toNat 2)).drop 0) == ([33, 33] : List UInt8) then
        (need (decide (0 ≤ (2 : Int)) && decide ((2 : Int) ≤ ((s1.length : Nat) : Int))) <|
        (R id_ref01Name [AV.str ((s1.take s1.length).drop (Int.toNat 2))]).bind fun r1 =>
        asB r1.v fun b1 =>
        some ⟨AV.bool b1, false, []⟩)
      else
        bif decide ((((s1.length : Nat) : Int) : Int) > 1) then
          (need (decide (0 ≤ (0 : Int))) <|
          (s1[Int.toNat 0]?).bind fun c1 =>
          bif ((c1.toNat : Int) : Int) == 33 then
            (need (decide (0 ≤ (1 : Int)) && decide ((1 : Int) ≤ ((s1.length : Nat) : Int))) <|
            (R id_ref01Name [AV.str ((s1.take s1.length).drop (Int.toNat 1))]).bind fun r2 =>
            asB r2.v fun b2 =>
            some ⟨AV.bool b2, false, []⟩)
          else
            some ⟨AV.bool false, false, []⟩)
        else
          some ⟨AV.bool false, false, []⟩)
    else
      bif decide ((((s1.length : Nat) : Int) : Int) > 1) then
        (need (decide (0 ≤ (0 : Int))) <|
        (s1[Int.toNat 0]?).bind fun c2 =>
        bif ((c2.toNat : Int) : Int) == 33 then
          (need (decide (0 ≤ (1 : Int)) && decide ((1 : Int) ≤ ((s1.length : Nat) : Int))) <|
          (R id_ref01Name [AV.str ((s1.take s1.length).drop (Int.toNat 1))]).bind fun r3 =>
          asB r3.v fun b3 =>
          some ⟨AV.bool b3, false, []⟩)
        else
          some ⟨AV.bool false, false, []⟩)
      else
        some ⟨AV.bool false, false, []⟩
theorem ref08ValidTag_eq (R : Nat → List AV → Option Res) (N : Nat) (s1 : List UInt8) : runF gl R N ref08ValidTag [AV.str s1] = ref08ValidTagr R N s1 := by
  kernel_rfl
theorem ref08ValidTag_fit : fitF Tryd.prog ref08ValidTag Tryd.f41 = true := by
  kernel_rfl

def propsPut_c0 : AC := .seq (.region [.op (some 1) none (.box 1001 (.t 0) 2), .op (some 2) none (.mv (.k (AV.str ([] : List UInt8))))]) (.seq (.region [.op (some 3) none (.nilOwn 3 (some (1, .any)))]) (.seq (.seq (.region [.op (some 4) none (.faddr (.t 1) 1), .op (some 5) none (.load (.t 4) none (.str)), .op (some 6) none (.bin .neq (.t 5) (.k (AV.str ([] : List UInt8))))]) (.cond (.t 6) (.region [.op (some 7) none (.mv (.t 3)), .op (some 8) none (.faddr (.t 1) 1), .op (some 9) none (.load (.t 8) none (.str)), .op (some 10) none (.bin .add (.k (AV.str ([38] : List UInt8))) (.t 9)), .op (some 11) none (.bslice [.t 10] 1 false), .op (some 12) none (.app 3 (.t 7) (.t 11) 1 .any false), .op (some 3) none (.mv (.t 12))]) (.skip))) (.seq (.seq (.region [.op (some 13) none (.faddr (.t 1) 0), .op (some 14) none (.load (.t 13) none (.str)), .op (some 15) none (.bin .neq (.t 14) (.k (AV.str ([] : List UInt8))))]) (.cond (.t 15) (.region [.op (some 16) none (.mv (.t 3)), .op (some 17) none (.faddr (.t 1) 0), .op (some 18) none (.load (.t 17) none (.str)), .op (some 19) none (.bslice [.t 18] 1 false), .op (some 20) none (.app 3 (.t 16) (.t 19) 1 .any false), .op (some 3) none (.mv (.t 20))]) (.skip))) (.seq (.region [.op (some 21) none (.mv (.t 3)), .op (some 22) none (.call id_stringsJoin [.t 21, .k (AV.str ([32] : List UInt8))] (.str)), .op (some 2) none (.mv (.t 22))]) (.ret [2] [])))))
def propsPut : AFunc := ⟨1, 23, [.tmp 2], propsPut_c0⟩
def propsPutr (R : Nat → List AV → Option Res) (N : Nat) (s1 : List UInt8) (s2 : List UInt8) : Option Res :=
  bif !(s2 == ([] : List UInt8)) then
    (need (decide ((([38] : List UInt8) : List UInt8).length + s2.length ≤ 9223372036854775807)) <|
    need (decide (((([] : List AV).drop 0).take 0).length + [AV.str (([38] : List UInt8) ++ s2)].length ≤ 1099511627776)) <|
    bif !(s1 == ([] : List UInt8)) then
      (need (decide ((((((([] : List AV).drop 0).take 0) ++ [AV.str (([38] : List UInt8) ++ s2)] : List AV).drop 0).take ((((([] : List AV).drop 0).take 0) ++ [AV.str (([38] : List UInt8) ++ s2)]).length)).length + [AV.str s1].length ≤ 1099511627776)) <|
      (R id_stringsJoin [AV.row 1 ((((((((([] : List AV).drop 0).take 0) ++ [AV.str (([38] : List UInt8) ++ s2)] : List AV).drop 0).take ((((([] : List AV).drop 0).take 0) ++ [AV.str (([38] : List UInt8) ++ s2)]).length)) ++ [AV.str s1] : List AV).drop 0).take (((((((([] : List AV).drop 0).take 0) ++ [AV.str (([38] : List UInt8) ++ s2)] : List AV).drop 0).take ((((([] : List AV).drop 0).take 0) ++ [AV.str (([38] : List UInt8) ++ s2)]).length)) ++ [AV.str s1]).length)), AV.str ([32] : List UInt8)]).bind fun r1 =>
      asS r1.v fun s3 =>
      some ⟨AV.str s3, false, []⟩)
    else
      (R id_stringsJoin [AV.row 1 (((((([] : List AV).drop 0).take 0) ++ [AV.str (([38] : List UInt8) ++ s2)] : List AV).drop 0).take ((((([] : List AV).drop 0).take 0) ++ [AV.str (([38] : List UInt8) ++ s2)]).length)), AV.str ([32] : List UInt8)]).bind fun r2 =>
      asS r2.v fun s4 =>
      some ⟨AV.str s4, false, []⟩)
  else
    bif !(s1 == ([] : List UInt8)) then
      (need (decide (((([] : List AV).drop 0).take 0).length + [AV.str s1].length ≤ 1099511627776)) <|
      (R id_stringsJoin [AV.row 1 (((((([] : List AV).drop 0).take 0) ++ [AV.str s1] : List AV).drop 0).take ((((([] : List AV).drop 0).take 0) ++ [AV.str s1]).length)), AV.str ([32] : List UInt8)]).bind fun r3 =>
      asS r3.v fun s5 =>
      some ⟨AV.str s5, false, []⟩)
    else
      (R id_stringsJoin [AV.row 1 ((([] : List AV).drop 0).take 0), AV.str ([32] : List UInt8)]).bind fun r4 =>
      asS r4.v fun s6 =>
      some ⟨AV.str s6, false, []⟩
theorem propsPut_eq (R : Nat → List AV → Option Res) (N : Nat) (s1 : List UInt8) (s2 : List UInt8) : runF gl R N propsPut [AV.agg [AV.str s1, AV.str s2]] = propsPutr R N s1 s2 := by
  kernel_rfl
theorem propsPut_fit : fitF Tryd.prog propsPut Tryd.f36 = true := by
  kernel_rfl
end Go.Proofs.YtmpjohnbddnehaaDoor.Vf
