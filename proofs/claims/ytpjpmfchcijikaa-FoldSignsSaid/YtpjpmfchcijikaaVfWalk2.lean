/- The code of the functions that the statements reach, as our evaluator takes it, and what each of them comes to, readably: printed by a program of ours. No condition. -/
import Derived.Test.YtpjpmfchcijikaaVfWalk1
namespace Go.Proofs.Ytpjpmfchcijikaa.Vf
set_option linter.unusedVariables false
set_option linter.unusedSimpArgs false
set_option maxRecDepth 100000


def law07FoldSigns_c0 : AC := .seq (.region [.op (some 6) none (.mv (.k (AV.bool false)))]) (.seq (.region [.op (some 25) none (.mv (.t 0)), .op (some 26) none (.bin .rem (.t 25) (.k (AV.int .i64 2))), .op (some 27) none (.bin .neq (.t 26) (.k (AV.int .i64 0))), .op (some 7) none (.mv (.t 27))]) (.seq (.regionD [1, 2, 7, 8, 9] [] [.op (some 28) none (.bslice [.k (AV.str ([] : List UInt8)), .k (AV.str ([45] : List UInt8)), .k (AV.str ([43] : List UInt8))] 1 false), .op (some 29) none (.mv (.t 0)), .op (some 30) none (.bin .quo (.t 29) (.k (AV.int .i64 2))), .op (some 31) none (.call id_keepWithin [.t 30, .k (AV.int .i64 3)] (.int .i64)), .op (some 32) none (.iaddr (.t 28) (.t 31) 1 (.str)), .op (some 33) none (.load (.t 32) none (.str)), .op (some 34) none (.mv (.t 0)), .op (some 35) none (.bin .quo (.t 34) (.k (AV.int .i64 6))), .op (some 36) none (.call id_keepWithin [.t 35, .k (AV.int .i64 10)] (.int .i64)), .op (some 8) none (.mv (.t 33)), .op (some 9) none (.mv (.t 36))] []) (.seq (.region [.op (some 37) none (.mv (.t 8)), .op (some 10) none (.mv (.t 37)), .op (some 11) none (.mv (.k (AV.str ([] : List UInt8))))]) (.seq (.seq (.region [.op (some 38) none (.mv (.t 9)), .op (some 39) none (.bin .gtr (.t 38) (.k (AV.int .i64 0)))]) (.cond (.t 39) (.region [.op (some 40) none (.mv (.t 9)), .op (some 41) none (.bin .add (.k (AV.int .i64 48)) (.t 40)), .op (some 42) none (.cvInt .u8 (.t 41)), .op (some 43) none (.bslice [.t 42] 1 true), .op (some 44) none (.cvStr (.t 43)), .op (some 11) none (.mv (.t 44))]) (.skip))) (.seq (.seq (.region [.op (some 45) none (.mv (.t 1))]) (.cond (.t 45) (.region [.op (some 46) none (.mv (.t 11)), .op (some 47) none (.mv (.t 10)), .op (some 10) none (.mv (.t 46)), .op (some 11) none (.mv (.t 47))]) (.skip))) (.seq (.region [.op (some 12) none (.mv (.k (AV.str ([124] : List UInt8))))]) (.seq (.seq (.region [.op (some 48) none (.mv (.t 7))]) (.cond (.t 48) (.region [.op (some 12) none (.mv (.k (AV.str ([62] : List UInt8))))]) (.skip))) (.seq (.region [.op (some 49) none (.mv (.t 12)), .op (some 50) none (.mv (.t 10)), .op (some 51) none (.mv (.t 11)), .op (some 52) none (.bin .add (.t 50) (.t 51)), .op (some 53) none (.bin .add (.t 49) (.t 52)), .op (some 12) none (.mv (.t 53))]) (.seq (.region [.op (some 54) none (.mv (.t 2)), .op (some 55) none (.call id_keepText [.t 54, .k (AV.int .i64 5)] (.str)), .op (some 2) none (.mv (.t 55))]) (.seq (.seq (.region [.op (some 56) none (.mv (.t 2)), .op (some 57) none (.len (.t 56) true), .op (some 58) none (.bin .gtr (.t 57) (.k (AV.int .i64 0))), .op (some 59) none (.mv (.t 58)), .split 59, .op (some 60) (some (59, true)) (.mv (.t 2)), .op (some 61) (some (59, true)) (.index (.t 60) (.k (AV.int .i64 0))), .op (some 62) (some (59, true)) (.bin .eql (.t 61) (.k (AV.int .u8 45))), .op (some 63) (some (59, true)) (.mv (.t 62)), .split 63, .op (some 64) (some (63, false)) (.mv (.t 2)), .op (some 65) (some (63, false)) (.index (.t 64) (.k (AV.int .i64 0))), .op (some 66) (some (63, false)) (.bin .eql (.t 65) (.k (AV.int .u8 43))), .op (some 67) (some (59, true)) (.pick (.t 63) (.k (AV.bool true)) (.t 66)), .op (some 68) (some (59, true)) (.mv (.t 67)), .split 68, .op (some 69) (some (68, false)) (.mv (.t 2)), .op (some 70) (some (68, false)) (.index (.t 69) (.k (AV.int .i64 0))), .op (some 71) (some (68, false)) (.bin .geq (.t 70) (.k (AV.int .u8 49))), .op (some 72) (some (68, false)) (.mv (.t 71)), .split 72, .op (some 73) (some (72, true)) (.mv (.t 2)), .op (some 74) (some (72, true)) (.index (.t 73) (.k (AV.int .i64 0))), .op (some 75) (some (72, true)) (.bin .leq (.t 74) (.k (AV.int .u8 57))), .op (some 76) (some (68, false)) (.pick (.t 72) (.t 75) (.k (AV.bool false))), .op (some 77) (some (59, true)) (.pick (.t 68) (.k (AV.bool true)) (.t 76)), .op (some 78) none (.pick (.t 59) (.t 77) (.k (AV.bool false)))]) (.cond (.t 78) (.region [.op (some 79) none (.mv (.t 2)), .op (some 80) none (.bin .add (.k (AV.str ([32] : List UInt8))) (.t 79)), .op (some 2) none (.mv (.t 80))]) (.skip))) (.seq (.region [.op (some 82) none (.mv (.t 12)), .op (some 83) none (.mv (.t 2)), .op (some 84) none (.bin .add (.t 82) (.t 83)), .op (some 85) none (.cvBytes (.t 84)), .op (some 86) none (.call id_foldTakeHeader [.t 85] (.tup [.agg [.bool, .bool, .bool, .int .i64], .int .i64, .bool])), .op (some 81) none (.mv (.t 86)), .op (some 87) none (.extract (.t 81) 0), .op (some 88) none (.extract (.t 81) 1), .op (some 89) none (.extract (.t 81) 2), .op (some 13) none (.alloc 1013 [AV.bool false, AV.bool false, AV.bool false, AV.int .i64 0]), .op none none (.store (.t 13) (.t 87) 4), .op (some 14) none (.mv (.t 88)), .op (some 15) none (.mv (.t 89))]) (.seq (.region [.op (some 91) none (.mv (.t 12)), .op (some 92) none (.bin .add (.k (AV.str ([120] : List UInt8))) (.t 91)), .op (some 93) none (.cvBytes (.t 92)), .op (some 94) none (.call id_foldTakeHeader [.t 93] (.tup [.agg [.bool, .bool, .bool, .int .i64], .int .i64, .bool])), .op (some 90) none (.mv (.t 94)), .op (some 95) none (.extract (.t 90) 0), .op (some 96) none (.extract (.t 90) 1), .op (some 97) none (.extract (.t 90) 2), .op (some 16) none (.alloc 1016 [AV.bool false, AV.bool false, AV.bool false, AV.int .i64 0]), .op none none (.store (.t 16) (.t 95) 4), .op (some 17) none (.mv (.t 96)), .op (some 18) none (.mv (.t 97))]) (.seq (.region [.op (some 99) none (.bsliceOwn 99 [.k (AV.int .u8 124), .k (AV.int .u8 45), .k (AV.int .u8 45)] 1 .any true), .op (some 100) none (.cvSame (.t 99)), .op (some 101) none (.call id_foldTakeHeader [.t 100] (.tup [.agg [.bool, .bool, .bool, .int .i64], .int .i64, .bool])), .op (some 98) none (.mv (.t 101)), .op (some 102) none (.extract (.t 98) 0), .op (some 103) none (.extract (.t 98) 1), .op (some 104) none (.extract (.t 98) 2), .op (some 19) none (.alloc 1019 [AV.bool false, AV.bool false, AV.bool false, AV.int .i64 0]), .op none none (.store (.t 19) (.t 102) 4), .op (some 20) none (.mv (.t 103)), .op (some 21) none (.mv (.t 104))]) (.seq (.region [.op (some 106) none (.bsliceOwn 106 [.k (AV.int .u8 62), .k (AV.int .u8 49), .k (AV.int .u8 50)] 1 .any true), .op (some 107) none (.cvSame (.t 106)), .op (some 108) none (.call id_foldTakeHeader [.t 107] (.tup [.agg [.bool, .bool, .bool, .int .i64], .int .i64, .bool])), .op (some 105) none (.mv (.t 108)), .op (some 109) none (.extract (.t 105) 0), .op (some 110) none (.extract (.t 105) 1), .op (some 111) none (.extract (.t 105) 2), .op (some 22) none (.alloc 1022 [AV.bool false, AV.bool false, AV.bool false, AV.int .i64 0]), .op none none (.store (.t 22) (.t 109) 4), .op (some 23) none (.mv (.t 110)), .op (some 24) none (.mv (.t 111))]) (.seq (.region [.op (some 112) none (.mv (.t 15)), .op (some 113) none (.mv (.t 112)), .split 113, .op (some 114) (some (113, true)) (.mv (.t 14)), .op (some 115) (some (113, true)) (.mv (.t 12)), .op (some 116) (some (113, true)) (.len (.t 115) true), .op (some 117) (some (113, true)) (.bin .eql (.t 114) (.t 116)), .op (some 118) none (.pick (.t 113) (.t 117) (.k (AV.bool false))), .op (some 119) none (.mv (.t 118)), .split 119, .op (some 120) (some (119, true)) (.faddr (.t 13) 0), .op (some 121) (some (119, true)) (.load (.t 120) none (.bool)), .op (some 122) (some (119, true)) (.mv (.t 7)), .op (some 123) (some (119, true)) (.binB .eql (.t 121) (.t 122)), .op (some 124) none (.pick (.t 119) (.t 123) (.k (AV.bool false))), .op (some 125) none (.mv (.t 124)), .split 125, .op (some 126) (some (125, true)) (.faddr (.t 13) 1), .op (some 127) (some (125, true)) (.load (.t 126) none (.bool)), .op (some 128) (some (125, true)) (.mv (.t 8)), .op (some 129) (some (125, true)) (.bin .eql (.t 128) (.k (AV.str ([45] : List UInt8)))), .op (some 130) (some (125, true)) (.binB .eql (.t 127) (.t 129)), .op (some 131) none (.pick (.t 125) (.t 130) (.k (AV.bool false))), .op (some 132) none (.mv (.t 131)), .split 132, .op (some 133) (some (132, true)) (.faddr (.t 13) 2), .op (some 134) (some (132, true)) (.load (.t 133) none (.bool)), .op (some 135) (some (132, true)) (.mv (.t 8)), .op (some 136) (some (132, true)) (.bin .eql (.t 135) (.k (AV.str ([43] : List UInt8)))), .op (some 137) (some (132, true)) (.binB .eql (.t 134) (.t 136)), .op (some 138) none (.pick (.t 132) (.t 137) (.k (AV.bool false))), .op (some 139) none (.mv (.t 138)), .split 139, .op (some 140) (some (139, true)) (.faddr (.t 13) 3), .op (some 141) (some (139, true)) (.load (.t 140) none (.int .i64)), .op (some 142) (some (139, true)) (.mv (.t 9)), .op (some 143) (some (139, true)) (.bin .eql (.t 141) (.t 142)), .op (some 144) none (.pick (.t 139) (.t 143) (.k (AV.bool false))), .op (some 145) none (.mv (.t 144)), .split 145, .op (some 146) (some (145, true)) (.mv (.t 18)), .op (some 147) (some (145, true)) (.un .not (.t 146)), .op (some 148) none (.pick (.t 145) (.t 147) (.k (AV.bool false))), .op (some 149) none (.mv (.t 148)), .split 149, .op (some 150) (some (149, true)) (.mv (.t 21)), .op (some 151) none (.pick (.t 149) (.t 150) (.k (AV.bool false))), .op (some 152) none (.mv (.t 151)), .split 152, .op (some 153) (some (152, true)) (.mv (.t 20)), .op (some 154) (some (152, true)) (.bin .eql (.t 153) (.k (AV.int .i64 2))), .op (some 155) none (.pick (.t 152) (.t 154) (.k (AV.bool false))), .op (some 156) none (.mv (.t 155)), .split 156, .op (some 157) (some (156, true)) (.mv (.t 24)), .op (some 158) none (.pick (.t 156) (.t 157) (.k (AV.bool false))), .op (some 159) none (.mv (.t 158)), .split 159, .op (some 160) (some (159, true)) (.mv (.t 23)), .op (some 161) (some (159, true)) (.bin .eql (.t 160) (.k (AV.int .i64 2))), .op (some 162) none (.pick (.t 159) (.t 161) (.k (AV.bool false))), .op (some 163) none (.mv (.t 162)), .split 163, .op (some 164) (some (163, true)) (.call id_law07Wakes [] (.bool)), .op (some 165) none (.pick (.t 163) (.t 164) (.k (AV.bool false))), .op (some 6) none (.mv (.t 165))]) (.ret [6] []))))))))))))))))
def law07FoldSigns : AFunc := ⟨3, 166, [.tmp 6], law07FoldSigns_c0⟩
def law07FoldSignsr (R : Nat → List AV → Option Res) (N : Nat) (i1 : Int) (b1 : Bool) (s1 : List UInt8) : Option Res :=
  need (!decide (2 = 0)) <|
  need (!decide (2 = 0)) <|
  (R id_keepWithin [AV.int .i64 (IntKind.i64.wrap (Int.tdiv i1 2)), AV.int .i64 3]).bind fun r1 =>
  asI .i64 r1.v fun i2 =>
  need (decide (0 ≤ (i2 : Int))) <|
  (([AV.str ([] : List UInt8), AV.str ([45] : List UInt8), AV.str ([43] : List UInt8)] : List AV)[Int.toNat i2]?).bind fun e1 =>
  asS e1 fun s2 =>
  need (!decide (6 = 0)) <|
  (R id_keepWithin [AV.int .i64 (IntKind.i64.wrap (Int.tdiv i1 6)), AV.int .i64 10]).bind fun r2 =>
  asI .i64 r2.v fun i3 =>
  bif decide ((i3 : Int) > 0) then
    (need (decide (0 ≤ (IntKind.u8.wrap (IntKind.i64.wrap (48 + i3)) : Int)) && decide ((IntKind.u8.wrap (IntKind.i64.wrap (48 + i3)) : Int) < 256)) <|
    bif b1 then
      (bif ((Int.tmod i1 2) : Int) != 0 then
        (need (decide (([UInt8.ofNat (Int.toNat (IntKind.u8.wrap (IntKind.i64.wrap (48 + i3))))] : List UInt8).length + s2.length ≤ 9223372036854775807)) <|
        need (decide ((([62] : List UInt8) : List UInt8).length + ([UInt8.ofNat (Int.toNat (IntKind.u8.wrap (IntKind.i64.wrap (48 + i3))))] ++ s2 : List UInt8).length ≤ 9223372036854775807)) <|
        (R id_keepText [AV.str s1, AV.int .i64 5]).bind fun r3 =>
        asS r3.v fun s3 =>
        bif decide ((((s3.length : Nat) : Int) : Int) > 0) then
          (need (decide (0 ≤ (0 : Int))) <|
          (s3[Int.toNat 0]?).bind fun c1 =>
          bif ((c1.toNat : Int) : Int) == 45 then
            (need (decide ((([32] : List UInt8) : List UInt8).length + s3.length ≤ 9223372036854775807)) <|
            need (decide ((([62] : List UInt8) ++ ([UInt8.ofNat (Int.toNat (IntKind.u8.wrap (IntKind.i64.wrap (48 + i3))))] ++ s2) : List UInt8).length + (([32] : List UInt8) ++ s3 : List UInt8).length ≤ 9223372036854775807)) <|
            (R id_foldTakeHeader [AV.bytes ((([62] : List UInt8) ++ ([UInt8.ofNat (Int.toNat (IntKind.u8.wrap (IntKind.i64.wrap (48 + i3))))] ++ s2)) ++ (([32] : List UInt8) ++ s3))]).bind fun r4 =>
            asAIBT r4.v fun b2 b3 b4 i4 i5 b5 =>
            need (decide ((([120] : List UInt8) : List UInt8).length + (([62] : List UInt8) ++ ([UInt8.ofNat (Int.toNat (IntKind.u8.wrap (IntKind.i64.wrap (48 + i3))))] ++ s2) : List UInt8).length ≤ 9223372036854775807)) <|
            (R id_foldTakeHeader [AV.bytes (([120] : List UInt8) ++ (([62] : List UInt8) ++ ([UInt8.ofNat (Int.toNat (IntKind.u8.wrap (IntKind.i64.wrap (48 + i3))))] ++ s2)))]).bind fun r5 =>
            asAIBT r5.v fun b6 b7 b8 i6 i7 b9 =>
            (R id_foldTakeHeader [AV.bytes ((([124, 45, 45] : List UInt8).drop 0).take 3)]).bind fun r6 =>
            asAIBT r6.v fun b10 b11 b12 i8 i9 b13 =>
            (R id_foldTakeHeader [AV.bytes ((([62, 49, 50] : List UInt8).drop 0).take 3)]).bind fun r7 =>
            asAIBT r7.v fun b14 b15 b16 i10 i11 b17 =>
            bif b5 then
              (bif (i5 : Int) == (((([62] : List UInt8) ++ ([UInt8.ofNat (Int.toNat (IntKind.u8.wrap (IntKind.i64.wrap (48 + i3))))] ++ s2) : List UInt8).length : Nat) : Int) then
                (bif b2 == (((Int.tmod i1 2) : Int) != 0) then
                  (bif b3 == (s2 == ([45] : List UInt8)) then
                    (bif b4 == (s2 == ([43] : List UInt8)) then
                      (bif (i4 : Int) == i3 then
                        (bif !b9 then
                          (bif b13 then
                            (bif (i9 : Int) == 2 then
                              (bif b17 then
                                (bif (i11 : Int) == 2 then
                                  ((R id_law07Wakes []).bind fun r8 =>
                                  asB r8.v fun b18 =>
                                  some ⟨AV.bool b18, false, []⟩)
                                else
                                  some ⟨AV.bool false, false, []⟩)
                              else
                                some ⟨AV.bool false, false, []⟩)
                            else
                              some ⟨AV.bool false, false, []⟩)
                          else
                            some ⟨AV.bool false, false, []⟩)
                        else
                          some ⟨AV.bool false, false, []⟩)
                      else
                        some ⟨AV.bool false, false, []⟩)
                    else
                      some ⟨AV.bool false, false, []⟩)
                  else
                    some ⟨AV.bool false, false, []⟩)
                else
                  some ⟨AV.bool false, false, []⟩)
              else
                some ⟨AV.bool false, false, []⟩)
            else
              some ⟨AV.bool false, false, []⟩)
          else
            need (decide (0 ≤ (0 : Int))) <|
            (s3[Int.toNat 0]?).bind fun c2 =>
            bif ((c2.toNat : Int) : Int) == 43 then
              (need (decide ((([32] : List UInt8) : List UInt8).length + s3.length ≤ 9223372036854775807)) <|
              need (decide ((([62] : List UInt8) ++ ([UInt8.ofNat (Int.toNat (IntKind.u8.wrap (IntKind.i64.wrap (48 + i3))))] ++ s2) : List UInt8).length + (([32] : List UInt8) ++ s3 : List UInt8).length ≤ 9223372036854775807)) <|
              (R id_foldTakeHeader [AV.bytes ((([62] : List UInt8) ++ ([UInt8.ofNat (Int.toNat (IntKind.u8.wrap (IntKind.i64.wrap (48 + i3))))] ++ s2)) ++ (([32] : List UInt8) ++ s3))]).bind fun r9 =>
              asAIBT r9.v fun b19 b20 b21 i12 i13 b22 =>
              need (decide ((([120] : List UInt8) : List UInt8).length + (([62] : List UInt8) ++ ([UInt8.ofNat (Int.toNat (IntKind.u8.wrap (IntKind.i64.wrap (48 + i3))))] ++ s2) : List UInt8).length ≤ 9223372036854775807)) <|
              (R id_foldTakeHeader [AV.bytes (([120] : List UInt8) ++ (([62] : List UInt8) ++ ([UInt8.ofNat (Int.toNat (IntKind.u8.wrap (IntKind.i64.wrap (48 + i3))))] ++ s2)))]).bind fun r10 =>
              asAIBT r10.v fun b23 b24 b25 i14 i15 b26 =>
              (R id_foldTakeHeader [AV.bytes ((([124, 45, 45] : List UInt8).drop 0).take 3)]).bind fun r11 =>
              asAIBT r11.v fun b27 b28 b29 i16 i17 b30 =>
              (R id_foldTakeHeader [AV.bytes ((([62, 49, 50] : List UInt8).drop 0).take 3)]).bind fun r12 =>
              asAIBT r12.v fun b31 b32 b33 i18 i19 b34 =>
              bif b22 then
                (bif (i13 : Int) == (((([62] : List UInt8) ++ ([UInt8.ofNat (Int.toNat (IntKind.u8.wrap (IntKind.i64.wrap (48 + i3))))] ++ s2) : List UInt8).length : Nat) : Int) then
                  (bif b19 == (((Int.tmod i1 2) : Int) != 0) then
                    (bif b20 == (s2 == ([45] : List UInt8)) then
                      (bif b21 == (s2 == ([43] : List UInt8)) then
                        (bif (i12 : Int) == i3 then
                          (bif !b26 then
                            (bif b30 then
                              (bif (i17 : Int) == 2 then
                                (bif b34 then
                                  (bif (i19 : Int) == 2 then
                                    ((R id_law07Wakes []).bind fun r13 =>
                                    asB r13.v fun b35 =>
                                    some ⟨AV.bool b35, false, []⟩)
                                  else
                                    some ⟨AV.bool false, false, []⟩)
                                else
                                  some ⟨AV.bool false, false, []⟩)
                              else
                                some ⟨AV.bool false, false, []⟩)
                            else
                              some ⟨AV.bool false, false, []⟩)
                          else
                            some ⟨AV.bool false, false, []⟩)
                        else
                          some ⟨AV.bool false, false, []⟩)
                      else
                        some ⟨AV.bool false, false, []⟩)
                    else
                      some ⟨AV.bool false, false, []⟩)
                  else
                    some ⟨AV.bool false, false, []⟩)
                else
                  some ⟨AV.bool false, false, []⟩)
              else
                some ⟨AV.bool false, false, []⟩)
            else
              need (decide (0 ≤ (0 : Int))) <|
              (s3[Int.toNat 0]?).bind fun c3 =>
              bif decide (((c3.toNat : Int) : Int) ≥ 49) then
                (need (decide (0 ≤ (0 : Int))) <|
                (s3[Int.toNat 0]?).bind fun c4 =>
                bif decide (((c4.toNat : Int) : Int) ≤ 57) then
                  (need (decide ((([32] : List UInt8) : List UInt8).length + s3.length ≤ 9223372036854775807)) <|
                  need (decide ((([62] : List UInt8) ++ ([UInt8.ofNat (Int.toNat (IntKind.u8.wrap (IntKind.i64.wrap (48 + i3))))] ++ s2) : List UInt8).length + (([32] : List UInt8) ++ s3 : List UInt8).length ≤ 9223372036854775807)) <|
                  (R id_foldTakeHeader [AV.bytes ((([62] : List UInt8) ++ ([UInt8.ofNat (Int.toNat (IntKind.u8.wrap (IntKind.i64.wrap (48 + i3))))] ++ s2)) ++ (([32] : List UInt8) ++ s3))]).bind fun r14 =>
                  asAIBT r14.v fun b36 b37 b38 i20 i21 b39 =>
                  need (decide ((([120] : List UInt8) : List UInt8).length + (([62] : List UInt8) ++ ([UInt8.ofNat (Int.toNat (IntKind.u8.wrap (IntKind.i64.wrap (48 + i3))))] ++ s2) : List UInt8).length ≤ 9223372036854775807)) <|
                  (R id_foldTakeHeader [AV.bytes (([120] : List UInt8) ++ (([62] : List UInt8) ++ ([UInt8.ofNat (Int.toNat (IntKind.u8.wrap (IntKind.i64.wrap (48 + i3))))] ++ s2)))]).bind fun r15 =>
                  asAIBT r15.v fun b40 b41 b42 i22 i23 b43 =>
                  (R id_foldTakeHeader [AV.bytes ((([124, 45, 45] : List UInt8).drop 0).take 3)]).bind fun r16 =>
                  asAIBT r16.v fun b44 b45 b46 i24 i25 b47 =>
                  (R id_foldTakeHeader [AV.bytes ((([62, 49, 50] : List UInt8).drop 0).take 3)]).bind fun r17 =>
                  asAIBT r17.v fun b48 b49 b50 i26 i27 b51 =>
                  bif b39 then
                    (bif (i21 : Int) == (((([62] : List UInt8) ++ ([UInt8.ofNat (Int.toNat (IntKind.u8.wrap (IntKind.i64.wrap (48 + i3))))] ++ s2) : List UInt8).length : Nat) : Int) then
                      (bif b36 == (((Int.tmod i1 2) : Int) != 0) then
                        (bif b37 == (s2 == ([45] : List UInt8)) then
                          (bif b38 == (s2 == ([43] : List UInt8)) then
                            (bif (i20 : Int) == i3 then
                              (bif !b43 then
                                (bif b47 then
                                  (bif (i25 : Int) == 2 then
                                    (bif b51 then
                                      (bif (i27 : Int) == 2 then
                                        ((R id_law07Wakes []).bind fun r18 =>
                                        asB r18.v fun b52 =>
                                        some ⟨AV.bool b52, false, []⟩)
                                      else
                                        some ⟨AV.bool false, false, []⟩)
                                    else
                                      some ⟨AV.bool false, false, []⟩)
                                  else
                                    some ⟨AV.bool false, false, []⟩)
                                else
                                  some ⟨AV.bool false, false, []⟩)
                              else
                                some ⟨AV.bool false, false, []⟩)
                            else
                              some ⟨AV.bool false, false, []⟩)
                          else
                            some ⟨AV.bool false, false, []⟩)
                        else
                          some ⟨AV.bool false, false, []⟩)
                      else
                        some ⟨AV.bool false, false, []⟩)
                    else
                      some ⟨AV.bool false, false, []⟩)
                  else
                    some ⟨AV.bool false, false, []⟩)
                else
                  need (decide ((([62] : List UInt8) ++ ([UInt8.ofNat (Int.toNat (IntKind.u8.wrap (IntKind.i64.wrap (48 + i3))))] ++ s2) : List UInt8).length + s3.length ≤ 9223372036854775807)) <|
                  (R id_foldTakeHeader [AV.bytes ((([62] : List UInt8) ++ ([UInt8.ofNat (Int.toNat (IntKind.u8.wrap (IntKind.i64.wrap (48 + i3))))] ++ s2)) ++ s3)]).bind fun r19 =>
                  asAIBT r19.v fun b53 b54 b55 i28 i29 b56 =>
                  need (decide ((([120] : List UInt8) : List UInt8).length + (([62] : List UInt8) ++ ([UInt8.ofNat (Int.toNat (IntKind.u8.wrap (IntKind.i64.wrap (48 + i3))))] ++ s2) : List UInt8).length ≤ 9223372036854775807)) <|
                  (R id_foldTakeHeader [AV.bytes (([120] : List UInt8) ++ (([62] : List UInt8) ++ ([UInt8.ofNat (Int.toNat (IntKind.u8.wrap (IntKind.i64.wrap (48 + i3))))] ++ s2)))]).bind fun r20 =>
                  asAIBT r20.v fun b57 b58 b59 i30 i31 b60 =>
                  (R id_foldTakeHeader [AV.bytes ((([124, 45, 45] : List UInt8).drop 0).take 3)]).bind fun r21 =>
                  asAIBT r21.v fun b61 b62 b63 i32 i33 b64 =>
                  (R id_foldTakeHeader [AV.bytes ((([62, 49, 50] : List UInt8).drop 0).take 3)]).bind fun r22 =>
                  asAIBT r22.v fun b65 b66 b67 i34 i35 b68 =>
                  bif b56 then
                    (bif (i29 : Int) == (((([62] : List UInt8) ++ ([UInt8.ofNat (Int.toNat (IntKind.u8.wrap (IntKind.i64.wrap (48 + i3))))] ++ s2) : List UInt8).length : Nat) : Int) then
                      (bif b53 == (((Int.tmod i1 2) : Int) != 0) then
                        (bif b54 == (s2 == ([45] : List UInt8)) then
                          (bif b55 == (s2 == ([43] : List UInt8)) then
                            (bif (i28 : Int) == i3 then
                              (bif !b60 then
                                (bif b64 then
                                  (bif (i33 : Int) == 2 then
                                    (bif b68 then
                                      (bif (i35 : Int) == 2 then
                                        ((R id_law07Wakes []).bind fun r23 =>
                                        asB r23.v fun b69 =>
                                        some ⟨AV.bool b69, false, []⟩)
                                      else
                                        some ⟨AV.bool false, false, []⟩)
                                    else
                                      some ⟨AV.bool false, false, []⟩)
                                  else
                                    some ⟨AV.bool false, false, []⟩)
                                else
                                  some ⟨AV.bool false, false, []⟩)
                              else
                                some ⟨AV.bool false, false, []⟩)
                            else
                              some ⟨AV.bool false, false, []⟩)
                          else
                            some ⟨AV.bool false, false, []⟩)
                        else
                          some ⟨AV.bool false, false, []⟩)
                      else
                        some ⟨AV.bool false, false, []⟩)
                    else
                      some ⟨AV.bool false, false, []⟩)
                  else
                    some ⟨AV.bool false, false, []⟩)
              else
                need (decide ((([62] : List UInt8) ++ ([UInt8.ofNat (Int.toNat (IntKind.u8.wrap (IntKind.i64.wrap (48 + i3))))] ++ s2) : List UInt8).length + s3.length ≤ 9223372036854775807)) <|
                (R id_foldTakeHeader [AV.bytes ((([62] : List UInt8) ++ ([UInt8.ofNat (Int.toNat (IntKind.u8.wrap (IntKind.i64.wrap (48 + i3))))] ++ s2)) ++ s3)]).bind fun r24 =>
                asAIBT r24.v fun b70 b71 b72 i36 i37 b73 =>
                need (decide ((([120] : List UInt8) : List UInt8).length + (([62] : List UInt8) ++ ([UInt8.ofNat (Int.toNat (IntKind.u8.wrap (IntKind.i64.wrap (48 + i3))))] ++ s2) : List UInt8).length ≤ 9223372036854775807)) <|
                (R id_foldTakeHeader [AV.bytes (([120] : List UInt8) ++ (([62] : List UInt8) ++ ([UInt8.ofNat (Int.toNat (IntKind.u8.wrap (IntKind.i64.wrap (48 + i3))))] ++ s2)))]).bind fun r25 =>
                asAIBT r25.v fun b74 b75 b76 i38 i39 b77 =>
                (R id_foldTakeHeader [AV.bytes ((([124, 45, 45] : List UInt8).drop 0).take 3)]).bind fun r26 =>
                asAIBT r26.v fun b78 b79 b80 i40 i41 b81 =>
                (R id_foldTakeHeader [AV.bytes ((([62, 49, 50] : List UInt8).drop 0).take 3)]).bind fun r27 =>
                asAIBT r27.v fun b82 b83 b84 i42 i43 b85 =>
                bif b73 then
                  (bif (i37 : Int) == (((([62] : List UInt8) ++ ([UInt8.ofNat (Int.toNat (IntKind.u8.wrap (IntKind.i64.wrap (48 + i3))))] ++ s2) : List UInt8).length : Nat) : Int) then
                    (bif b70 == (((Int.tmod i1 2) : Int) != 0) then
                      (bif b71 == (s2 == ([45] : List UInt8)) then
                        (bif b72 == (s2 == ([43] : List UInt8)) then
                          (bif (i36 : Int) == i3 then
                            (bif !b77 then
                              (bif b81 then
                                (bif (i41 : Int) == 2 then
                                  (bif b85 then
                                    (bif (i43 : Int) == 2 then
                                      ((R id_law07Wakes []).bind fun r28 =>
                                      asB r28.v fun b86 =>
                                      some ⟨AV.bool b86, false, []⟩)
                                    else
                                      some ⟨AV.bool false, false, []⟩)
                                  else
                                    some ⟨AV.bool false, false, []⟩)
                                else
                                  some ⟨AV.bool false, false, []⟩)
                              else
                                some ⟨AV.bool false, false, []⟩)
                            else
                              some ⟨AV.bool false, false, []⟩)
                          else
                            some ⟨AV.bool false, false, []⟩)
                        else
                          some ⟨AV.bool false, false, []⟩)
                      else
                        some ⟨AV.bool false, false, []⟩)
                    else
                      some ⟨AV.bool false, false, []⟩)
                  else
                    some ⟨AV.bool false, false, []⟩)
                else
                  some ⟨AV.bool false, false, []⟩)
        else
          need (decide ((([62] : List UInt8) ++ ([UInt8.ofNat (Int.toNat (IntKind.u8.wrap (IntKind.i64.wrap (48 + i3))))] ++ s2) : List UInt8).length + s3.length ≤ 9223372036854775807)) <|
          (R id_foldTakeHeader [AV.bytes ((([62] : List UInt8) ++ ([UInt8.ofNat (Int.toNat (IntKind.u8.wrap (IntKind.i64.wrap (48 + i3))))] ++ s2)) ++ s3)]).bind fun r29 =>
          asAIBT r29.v fun b87 b88 b89 i44 i45 b90 =>
          need (decide ((([120] : List UInt8) : List UInt8).length + (([62] : List UInt8) ++ ([UInt8.ofNat (Int.toNat (IntKind.u8.wrap (IntKind.i64.wrap (48 + i3))))] ++ s2) : List UInt8).length ≤ 9223372036854775807)) <|
          (R id_foldTakeHeader [AV.bytes (([120] : List UInt8) ++ (([62] : List UInt8) ++ ([UInt8.ofNat (Int.toNat (IntKind.u8.wrap (IntKind.i64.wrap (48 + i3))))] ++ s2)))]).bind fun r30 =>
          asAIBT r30.v fun b91 b92 b93 i46 i47 b94 =>
          (R id_foldTakeHeader [AV.bytes ((([124, 45, 45] : List UInt8).drop 0).take 3)]).bind fun r31 =>
          asAIBT r31.v fun b95 b96 b97 i48 i49 b98 =>
          (R id_foldTakeHeader [AV.bytes ((([62, 49, 50] : List UInt8).drop 0).take 3)]).bind fun r32 =>
          asAIBT r32.v fun b99 b100 b101 i50 i51 b102 =>
          bif b90 then
            (bif (i45 : Int) == (((([62] : List UInt8) ++ ([UInt8.ofNat (Int.toNat (IntKind.u8.wrap (IntKind.i64.wrap (48 + i3))))] ++ s2) : List UInt8).length : Nat) : Int) then
              (bif b87 == (((Int.tmod i1 2) : Int) != 0) then
                (bif b88 == (s2 == ([45] : List UInt8)) then
                  (bif b89 == (s2 == ([43] : List UInt8)) then
                    (bif (i44 : Int) == i3 then
                      (bif !b94 then
                        (bif b98 then
                          (bif (i49 : Int) == 2 then
                            (bif b102 then
                              (bif (i51 : Int) == 2 then
                                ((R id_law07Wakes []).bind fun r33 =>
                                asB r33.v fun b103 =>
                                some ⟨AV.bool b103, false, []⟩)
                              else
                                some ⟨AV.bool false, false, []⟩)
                            else
                              some ⟨AV.bool false, false, []⟩)
                          else
                            some ⟨AV.bool false, false, []⟩)
                        else
                          some ⟨AV.bool false, false, []⟩)
                      else
                        some ⟨AV.bool false, false, []⟩)
                    else
                      some ⟨AV.bool false, false, []⟩)
                  else
                    some ⟨AV.bool false, false, []⟩)
                else
                  some ⟨AV.bool false, false, []⟩)
              else
                some ⟨AV.bool false, false, []⟩)
            else
              some ⟨AV.bool false, false, []⟩)
          else
            some ⟨AV.bool false, false, []⟩)
      else
        need (decide (([UInt8.ofNat (Int.toNat (IntKind.u8.wrap (IntKind.i64.wrap (48 + i3))))] : List UInt8).length + s2.length ≤ 9223372036854775807)) <|
        need (decide ((([124] : List UInt8) : List UInt8).length + ([UInt8.ofNat (Int.toNat (IntKind.u8.wrap (IntKind.i64.wrap (48 + i3))))] ++ s2 : List UInt8).length ≤ 9223372036854775807)) <|
        (R id_keepText [AV.str s1, AV.int .i64 5]).bind fun r34 =>
        asS r34.v fun s4 =>
        bif decide ((((s4.length : Nat) : Int) : Int) > 0) then
          (need (decide (0 ≤ (0 : Int))) <|
          (s4[Int.toNat 0]?).bind fun c5 =>
          bif ((c5.toNat : Int) : Int) == 45 then
            (need (decide ((([32] : List UInt8) : List UInt8).length + s4.length ≤ 9223372036854775807)) <|
            need (decide ((([124] : List UInt8) ++ ([UInt8.ofNat (Int.toNat (IntKind.u8.wrap (IntKind.i64.wrap (48 + i3))))] ++ s2) : List UInt8).length + (([32] : List UInt8) ++ s4 : List UInt8).length ≤ 9223372036854775807)) <|
            (R id_foldTakeHeader [AV.bytes ((([124] : List UInt8) ++ ([UInt8.ofNat (Int.toNat (IntKind.u8.wrap (IntKind.i64.wrap (48 + i3))))] ++ s2)) ++ (([32] : List UInt8) ++ s4))]).bind fun r35 =>
            asAIBT r35.v fun b104 b105 b106 i52 i53 b107 =>
            need (decide ((([120] : List UInt8) : List UInt8).length + (([124] : List UInt8) ++ ([UInt8.ofNat (Int.toNat (IntKind.u8.wrap (IntKind.i64.wrap (48 + i3))))] ++ s2) : List UInt8).length ≤ 9223372036854775807)) <|
            (R id_foldTakeHeader [AV.bytes (([120] : List UInt8) ++ (([124] : List UInt8) ++ ([UInt8.ofNat (Int.toNat (IntKind.u8.wrap (IntKind.i64.wrap (48 + i3))))] ++ s2)))]).bind fun r36 =>
            asAIBT r36.v fun b108 b109 b110 i54 i55 b111 =>
            (R id_foldTakeHeader [AV.bytes ((([124, 45, 45] : List UInt8).drop 0).take 3)]).bind fun r37 =>
            asAIBT r37.v fun b112 b113 b114 i56 i57 b115 =>
            (R id_foldTakeHeader [AV.bytes ((([62, 49, 50] : List UInt8).drop 0).take 3)]).bind fun r38 =>
            asAIBT r38.v fun b116 b117 b118 i58 i59 b119 =>
            bif b107 then
              (bif (i53 : Int) == (((([124] : List UInt8) ++ ([UInt8.ofNat (Int.toNat (IntKind.u8.wrap (IntKind.i64.wrap (48 + i3))))] ++ s2) : List UInt8).length : Nat) : Int) then
                (bif b104 == (((Int.tmod i1 2) : Int) != 0) then
                  (bif b105 == (s2 == ([45] : List UInt8)) then
                    (bif b106 == (s2 == ([43] : List UInt8)) then
                      (bif (i52 : Int) == i3 then
                        (bif !b111 then
                          (bif b115 then
                            (bif (i57 : Int) == 2 then
                              (bif b119 then
                                (bif (i59 : Int) == 2 then
                                  ((R id_law07Wakes []).bind fun r39 =>
                                  asB r39.v fun b120 =>
                                  some ⟨AV.bool b120, false, []⟩)
                                else
                                  some ⟨AV.bool false, false, []⟩)
                              else
                                some ⟨AV.bool false, false, []⟩)
                            else
                              some ⟨AV.bool false, false, []⟩)
                          else
                            some ⟨AV.bool false, false, []⟩)
                        else
                          some ⟨AV.bool false, false, []⟩)
                      else
                        some ⟨AV.bool false, false, []⟩)
                    else
                      some ⟨AV.bool false, false, []⟩)
                  else
                    some ⟨AV.bool false, false, []⟩)
                else
                  some ⟨AV.bool false, false, []⟩)
              else
                some ⟨AV.bool false, false, []⟩)
            else
              some ⟨AV.bool false, false, []⟩)
          else
            need (decide (0 ≤ (0 : Int))) <|
            (s4[Int.toNat 0]?).bind fun c6 =>
            bif ((c6.toNat : Int) : Int) == 43 then
              (need (decide ((([32] : List UInt8) : List UInt8).length + s4.length ≤ 9223372036854775807)) <|
              need (decide ((([124] : List UInt8) ++ ([UInt8.ofNat (Int.toNat (IntKind.u8.wrap (IntKind.i64.wrap (48 + i3))))] ++ s2) : List UInt8).length + (([32] : List UInt8) ++ s4 : List UInt8).length ≤ 9223372036854775807)) <|
              (R id_foldTakeHeader [AV.bytes ((([124] : List UInt8) ++ ([UInt8.ofNat (Int.toNat (IntKind.u8.wrap (IntKind.i64.wrap (48 + i3))))] ++ s2)) ++ (([32] : List UInt8) ++ s4))]).bind fun r40 =>
              asAIBT r40.v fun b121 b122 b123 i60 i61 b124 =>
              need (decide ((([120] : List UInt8) : List UInt8).length + (([124] : List UInt8) ++ ([UInt8.ofNat (Int.toNat (IntKind.u8.wrap (IntKind.i64.wrap (48 + i3))))] ++ s2) : List UInt8).length ≤ 9223372036854775807)) <|
              (R id_foldTakeHeader [AV.bytes (([120] : List UInt8) ++ (([124] : List UInt8) ++ ([UInt8.ofNat (Int.toNat (IntKind.u8.wrap (IntKind.i64.wrap (48 + i3))))] ++ s2)))]).bind fun r41 =>
              asAIBT r41.v fun b125 b126 b127 i62 i63 b128 =>
              (R id_foldTakeHeader [AV.bytes ((([124, 45, 45] : List UInt8).drop 0).take 3)]).bind fun r42 =>
              asAIBT r42.v fun b129 b130 b131 i64 i65 b132 =>
              (R id_foldTakeHeader [AV.bytes ((([62, 49, 50] : List UInt8).drop 0).take 3)]).bind fun r43 =>
              asAIBT r43.v fun b133 b134 b135 i66 i67 b136 =>
              bif b124 then
                (bif (i61 : Int) == (((([124] : List UInt8) ++ ([UInt8.ofNat (Int.toNat (IntKind.u8.wrap (IntKind.i64.wrap (48 + i3))))] ++ s2) : List UInt8).length : Nat) : Int) then
                  (bif b121 == (((Int.tmod i1 2) : Int) != 0) then
                    (bif b122 == (s2 == ([45] : List UInt8)) then
                      (bif b123 == (s2 == ([43] : List UInt8)) then
                        (bif (i60 : Int) == i3 then
                          (bif !b128 then
                            (bif b132 then
                              (bif (i65 : Int) == 2 then
                                (bif b136 then
                                  (bif (i67 : Int) == 2 then
                                    ((R id_law07Wakes []).bind fun r44 =>
                                    asB r44.v fun b137 =>
                                    some ⟨AV.bool b137, false, []⟩)
                                  else
                                    some ⟨AV.bool false, false, []⟩)
                                else
                                  some ⟨AV.bool false, false, []⟩)
                              else
                                some ⟨AV.bool false, false, []⟩)
                            else
                              some ⟨AV.bool false, false, []⟩)
                          else
                            some ⟨AV.bool false, false, []⟩)
                        else
                          some ⟨AV.bool false, false, []⟩)
                      else
                        some ⟨AV.bool false, false, []⟩)
                    else
                      some ⟨AV.bool false, false, []⟩)
                  else
                    some ⟨AV.bool false, false, []⟩)
                else
                  some ⟨AV.bool false, false, []⟩)
              else
                some ⟨AV.bool false, false, []⟩)
            else
              need (decide (0 ≤ (0 : Int))) <|
              (s4[Int.toNat 0]?).bind fun c7 =>
              bif decide (((c7.toNat : Int) : Int) ≥ 49) then
                (need (decide (0 ≤ (0 : Int))) <|
                (s4[Int.toNat 0]?).bind fun c8 =>
                bif decide (((c8.toNat : Int) : Int) ≤ 57) then
                  (need (decide ((([32] : List UInt8) : List UInt8).length + s4.length ≤ 9223372036854775807)) <|
                  need (decide ((([124] : List UInt8) ++ ([UInt8.ofNat (Int.toNat (IntKind.u8.wrap (IntKind.i64.wrap (48 + i3))))] ++ s2) : List UInt8).length + (([32] : List UInt8) ++ s4 : List UInt8).length ≤ 9223372036854775807)) <|
                  (R id_foldTakeHeader [AV.bytes ((([124] : List UInt8) ++ ([UInt8.ofNat (Int.toNat (IntKind.u8.wrap (IntKind.i64.wrap (48 + i3))))] ++ s2)) ++ (([32] : List UInt8) ++ s4))]).bind fun r45 =>
                  asAIBT r45.v fun b138 b139 b140 i68 i69 b141 =>
                  need (decide ((([120] : List UInt8) : List UInt8).length + (([124] : List UInt8) ++ ([UInt8.ofNat (Int.toNat (IntKind.u8.wrap (IntKind.i64.wrap (48 + i3))))] ++ s2) : List UInt8).length ≤ 9223372036854775807)) <|
                  (R id_foldTakeHeader [AV.bytes (([120] : List UInt8) ++ (([124] : List UInt8) ++ ([UInt8.ofNat (Int.toNat (IntKind.u8.wrap (IntKind.i64.wrap (48 + i3))))] ++ s2)))]).bind fun r46 =>
                  asAIBT r46.v fun b142 b143 b144 i70 i71 b145 =>
                  (R id_foldTakeHeader [AV.bytes ((([124, 45, 45] : List UInt8).drop 0).take 3)]).bind fun r47 =>
                  asAIBT r47.v fun b146 b147 b148 i72 i73 b149 =>
                  (R id_foldTakeHeader [AV.bytes ((([62, 49, 50] : List UInt8).drop 0).take 3)]).bind fun r48 =>
                  asAIBT r48.v fun b150 b151 b152 i74 i75 b153 =>
                  bif b141 then
                    (bif (i69 : Int) == (((([124] : List UInt8) ++ ([UInt8.ofNat (Int.toNat (IntKind.u8.wrap (IntKind.i64.wrap (48 + i3))))] ++ s2) : List UInt8).length : Nat) : Int) then
                      (bif b138 == (((Int.tmod i1 2) : Int) != 0) then
                        (bif b139 == (s2 == ([45] : List UInt8)) then
                          (bif b140 == (s2 == ([43] : List UInt8)) then
                            (bif (i68 : Int) == i3 then
                              (bif !b145 then
                                (bif b149 then
                                  (bif (i73 : Int) == 2 then
                                    (bif b153 then
                                      (bif (i75 : Int) == 2 then
                                        ((R id_law07Wakes []).bind fun r49 =>
                                        asB r49.v fun b154 =>
                                        some ⟨AV.bool b154, false, []⟩)
                                      else
                                        some ⟨AV.bool false, false, []⟩)
                                    else
                                      some ⟨AV.bool false, false, []⟩)
                                  else
                                    some ⟨AV.bool false, false, []⟩)
                                else
                                  some ⟨AV.bool false, false, []⟩)
                              else
                                some ⟨AV.bool false, false, []⟩)
                            else
                              some ⟨AV.bool false, false, []⟩)
                          else
                            some ⟨AV.bool false, false, []⟩)
                        else
                          some ⟨AV.bool false, false, []⟩)
                      else
                        some ⟨AV.bool false, false, []⟩)
                    else
                      some ⟨AV.bool false, false, []⟩)
                  else
                    some ⟨AV.bool false, false, []⟩)
                else
                  need (decide ((([124] : List UInt8) ++ ([UInt8.ofNat (Int.toNat (IntKind.u8.wrap (IntKind.i64.wrap (48 + i3))))] ++ s2) : List UInt8).length + s4.length ≤ 9223372036854775807)) <|
                  (R id_foldTakeHeader [AV.bytes ((([124] : List UInt8) ++ ([UInt8.ofNat (Int.toNat (IntKind.u8.wrap (IntKind.i64.wrap (48 + i3))))] ++ s2)) ++ s4)]).bind fun r50 =>
                  asAIBT r50.v fun b155 b156 b157 i76 i77 b158 =>
                  need (decide ((([120] : List UInt8) : List UInt8).length + (([124] : List UInt8) ++ ([UInt8.ofNat (Int.toNat (IntKind.u8.wrap (IntKind.i64.wrap (48 + i3))))] ++ s2) : List UInt8).length ≤ 9223372036854775807)) <|
                  (R id_foldTakeHeader [AV.bytes (([120] : List UInt8) ++ (([124] : List UInt8) ++ ([UInt8.ofNat (Int.toNat (IntKind.u8.wrap (IntKind.i64.wrap (48 + i3))))] ++ s2)))]).bind fun r51 =>
                  asAIBT r51.v fun b159 b160 b161 i78 i79 b162 =>
                  (R id_foldTakeHeader [AV.bytes ((([124, 45, 45] : List UInt8).drop 0).take 3)]).bind fun r52 =>
                  asAIBT r52.v fun b163 b164 b165 i80 i81 b166 =>
                  (R id_foldTakeHeader [AV.bytes ((([62, 49, 50] : List UInt8).drop 0).take 3)]).bind fun r53 =>
                  asAIBT r53.v fun b167 b168 b169 i82 i83 b170 =>
                  bif b158 then
                    (bif (i77 : Int) == (((([124] : List UInt8) ++ ([UInt8.ofNat (Int.toNat (IntKind.u8.wrap (IntKind.i64.wrap (48 + i3))))] ++ s2) : List UInt8).length : Nat) : Int) then
                      (bif b155 == (((Int.tmod i1 2) : Int) != 0) then
                        (bif b156 == (s2 == ([45] : List UInt8)) then
                          (bif b157 == (s2 == ([43] : List UInt8)) then
                            (bif (i76 : Int) == i3 then
                              (bif !b162 then
                                (bif b166 then
                                  (bif (i81 : Int) == 2 then
                                    (bif b170 then
                                      (bif (i83 : Int) == 2 then
                                        ((R id_law07Wakes []).bind fun r54 =>
                                        asB r54.v fun b171 =>
                                        some ⟨AV.bool b171, false, []⟩)
                                      else
                                        some ⟨AV.bool false, false, []⟩)
                                    else
                                      some ⟨AV.bool false, false, []⟩)
                                  else
                                    some ⟨AV.bool false, false, []⟩)
                                else
                                  some ⟨AV.bool false, false, []⟩)
                              else
                                some ⟨AV.bool false, false, []⟩)
                            else
                              some ⟨AV.bool false, false, []⟩)
                          else
                            some ⟨AV.bool false, false, []⟩)
                        else
                          some ⟨AV.bool false, false, []⟩)
                      else
                        some ⟨AV.bool false, false, []⟩)
                    else
                      some ⟨AV.bool false, false, []⟩)
                  else
                    some ⟨AV.bool false, false, []⟩)
              else
                need (decide ((([124] : List UInt8) ++ ([UInt8.ofNat (Int.toNat (IntKind.u8.wrap (IntKind.i64.wrap (48 + i3))))] ++ s2) : List UInt8).length + s4.length ≤ 9223372036854775807)) <|
                (R id_foldTakeHeader [AV.bytes ((([124] : List UInt8) ++ ([UInt8.ofNat (Int.toNat (IntKind.u8.wrap (IntKind.i64.wrap (48 + i3))))] ++ s2)) ++ s4)]).bind fun r55 =>
                asAIBT r55.v fun b172 b173 b174 i84 i85 b175 =>
                need (decide ((([120] : List UInt8) : List UInt8).length + (([124] : List UInt8) ++ ([UInt8.ofNat (Int.toNat (IntKind.u8.wrap (IntKind.i64.wrap (48 + i3))))] ++ s2) : List UInt8).length ≤ 9223372036854775807)) <|
                (R id_foldTakeHeader [AV.bytes (([120] : List UInt8) ++ (([124] : List UInt8) ++ ([UInt8.ofNat (Int.toNat (IntKind.u8.wrap (IntKind.i64.wrap (48 + i3))))] ++ s2)))]).bind fun r56 =>
                asAIBT r56.v fun b176 b177 b178 i86 i87 b179 =>
                (R id_foldTakeHeader [AV.bytes ((([124, 45, 45] : List UInt8).drop 0).take 3)]).bind fun r57 =>
                asAIBT r57.v fun b180 b181 b182 i88 i89 b183 =>
                (R id_foldTakeHeader [AV.bytes ((([62, 49, 50] : List UInt8).drop 0).take 3)]).bind fun r58 =>
                asAIBT r58.v fun b184 b185 b186 i90 i91 b187 =>
                bif b175 then
                  (bif (i85 : Int) == (((([124] : List UInt8) ++ ([UInt8.ofNat (Int.toNat (IntKind.u8.wrap (IntKind.i64.wrap (48 + i3))))] ++ s2) : List UInt8).length : Nat) : Int) then
                    (bif b172 == (((Int.tmod i1 2) : Int) != 0) then
                      (bif b173 == (s2 == ([45] : List UInt8)) then
                        (bif b174 == (s2 == ([43] : List UInt8)) then
                          (bif (i84 : Int) == i3 then
                            (bif !b179 then
                              (bif b183 then
                                (bif (i89 : Int) == 2 then
                                  (bif b187 then
                                    (bif (i91 : Int) == 2 then
                                      ((R id_law07Wakes []).bind fun r59 =>
                                      asB r59.v fun b188 =>
                                      some ⟨AV.bool b188, false, []⟩)
                                    else
                                      some ⟨AV.bool false, false, []⟩)
                                  else
                                    some ⟨AV.bool false, false, []⟩)
                                else
                                  some ⟨AV.bool false, false, []⟩)
                              else
                                some ⟨AV.bool false, false, []⟩)
                            else
                              some ⟨AV.bool false, false, []⟩)
                          else
                            some ⟨AV.bool false, false, []⟩)
                        else
                          some ⟨AV.bool false, false, []⟩)
                      else
                        some ⟨AV.bool false, false, []⟩)
                    else
                      some ⟨AV.bool false, false, []⟩)
                  else
                    some ⟨AV.bool false, false, []⟩)
                else
                  some ⟨AV.bool false, false, []⟩)
        else
          need (decide ((([124] : List UInt8) ++ ([UInt8.ofNat (Int.toNat (IntKind.u8.wrap (IntKind.i64.wrap (48 + i3))))] ++ s2) : List UInt8).length + s4.length ≤ 9223372036854775807)) <|
          (R id_foldTakeHeader [AV.bytes ((([124] : List UInt8) ++ ([UInt8.ofNat (Int.toNat (IntKind.u8.wrap (IntKind.i64.wrap (48 + i3))))] ++ s2)) ++ s4)]).bind fun r60 =>
          asAIBT r60.v fun b189 b190 b191 i92 i93 b192 =>
          need (decide ((([120] : List UInt8) : List UInt8).length + (([124] : List UInt8) ++ ([UInt8.ofNat (Int.toNat (IntKind.u8.wrap (IntKind.i64.wrap (48 + i3))))] ++ s2) : List UInt8).length ≤ 9223372036854775807)) <|
          (R id_foldTakeHeader [AV.bytes (([120] : List UInt8) ++ (([124] : List UInt8) ++ ([UInt8.ofNat (Int.toNat (IntKind.u8.wrap (IntKind.i64.wrap (48 + i3))))] ++ s2)))]).bind fun r61 =>
          asAIBT r61.v fun b193 b194 b195 i94 i95 b196 =>
          (R id_foldTakeHeader [AV.bytes ((([124, 45, 45] : List UInt8).drop 0).take 3)]).bind fun r62 =>
          asAIBT r62.v fun b197 b198 b199 i96 i97 b200 =>
          (R id_foldTakeHeader [AV.bytes ((([62, 49, 50] : List UInt8).drop 0).take 3)]).bind fun r63 =>
          asAIBT r63.v fun b201 b202 b203 i98 i99 b204 =>
          bif b192 then
            (bif (i93 : Int) == (((([124] : List UInt8) ++ ([UInt8.ofNat (Int.toNat (IntKind.u8.wrap (IntKind.i64.wrap (48 + i3))))] ++ s2) : List UInt8).length : Nat) : Int) then
              (bif b189 == (((Int.tmod i1 2) : Int) != 0) then
                (bif b190 == (s2 == ([45] : List UInt8)) then
                  (bif b191 == (s2 == ([43] : List UInt8)) then
                    (bif (i92 : Int) == i3 then
                      (bif !b196 then
                        (bif b200 then
                          (bif (i97 : Int) == 2 then
                            (bif b204 then
                              (bif (i99 : Int) == 2 then
                                ((R id_law07Wakes []).bind fun r64 =>
                                asB r64.v fun b205 =>
                                some ⟨AV.bool b205, false, []⟩)
                              else
                                some ⟨AV.bool false, false, []⟩)
                            else
                              some ⟨AV.bool false, false, []⟩)
                          else
                            some ⟨AV.bool false, false, []⟩)
                        else
                          some ⟨AV.bool false, false, []⟩)
                      else
                        some ⟨AV.bool false, false, []⟩)
                    else
                      some ⟨AV.bool false, false, []⟩)
                  else
                    some ⟨AV.bool false, false, []⟩)
                else
                  some ⟨AV.bool false, false, []⟩)
              else
                some ⟨AV.bool false, false, []⟩)
            else
              some ⟨AV.bool false, false, []⟩)
          else
            some ⟨AV.bool false, false, []⟩)
    else
      bif ((Int.tmod i1 2) : Int) != 0 then
        (need (decide (s2.length + ([UInt8.ofNat (Int.toNat (IntKind.u8.wrap (IntKind.i64.wrap (48 + i3))))] : List UInt8).length ≤ 9223372036854775807)) <|
        need (decide ((([62] : List UInt8) : List UInt8).length + (s2 ++ [UInt8.ofNat (Int.toNat (IntKind.u8.wrap (IntKind.i64.wrap (48 + i3))))]).length ≤ 9223372036854775807)) <|
        (R id_keepText [AV.str s1, AV.int .i64 5]).bind fun r65 =>
        asS r65.v fun s5 =>
        bif decide ((((s5.length : Nat) : Int) : Int) > 0) then
          (need (decide (0 ≤ (0 : Int))) <|
          (s5[Int.toNat 0]?).bind fun c9 =>
          bif ((c9.toNat : Int) : Int) == 45 then
            (need (decide ((([32] : List UInt8) : List UInt8).length + s5.length ≤ 9223372036854775807)) <|
            need (decide ((([62] : List UInt8) ++ (s2 ++ [UInt8.ofNat (Int.toNat (IntKind.u8.wrap (IntKind.i64.wrap (48 + i3))))]) : List UInt8).length + (([32] : List UInt8) ++ s5 : List UInt8).length ≤ 9223372036854775807)) <|
            (R id_foldTakeHeader [AV.bytes ((([62] : List UInt8) ++ (s2 ++ [UInt8.ofNat (Int.toNat (IntKind.u8.wrap (IntKind.i64.wrap (48 + i3))))])) ++ (([32] : List UInt8) ++ s5))]).bind fun r66 =>
            asAIBT r66.v fun b206 b207 b208 i100 i101 b209 =>
            need (decide ((([120] : List UInt8) : List UInt8).length + (([62] : List UInt8) ++ (s2 ++ [UInt8.ofNat (Int.toNat (IntKind.u8.wrap (IntKind.i64.wrap (48 + i3))))]) : List UInt8).length ≤ 9223372036854775807)) <|
            (R id_foldTakeHeader [AV.bytes (([120] : List UInt8) ++ (([62] : List UInt8) ++ (s2 ++ [UInt8.ofNat (Int.toNat (IntKind.u8.wrap (IntKind.i64.wrap (48 + i3))))])))]).bind fun r67 =>
            asAIBT r67.v fun b210 b211 b212 i102 i103 b213 =>
            (R id_foldTakeHeader [AV.bytes ((([124, 45, 45] : List UInt8).drop 0).take 3)]).bind fun r68 =>
            asAIBT r68.v fun b214 b215 b216 i104 i105 b217 =>
            (R id_foldTakeHeader [AV.bytes ((([62, 49, 50] : List UInt8).drop 0).take 3)]).bind fun r69 =>
            asAIBT r69.v fun b218 b219 b220 i106 i107 b221 =>
            bif b209 then
              (bif (i101 : Int) == (((([62] : List UInt8) ++ (s2 ++ [UInt8.ofNat (Int.toNat (IntKind.u8.wrap (IntKind.i64.wrap (48 + i3))))]) : List UInt8).length : Nat) : Int) then
                (bif b206 == (((Int.tmod i1 2) : Int) != 0) then
                  (bif b207 == (s2 == ([45] : List UInt8)) then
                    (bif b208 == (s2 == ([43] : List UInt8)) then
                      (bif (i100 : Int) == i3 then
                        (bif !b213 then
                          (bif b217 then
                            (bif (i105 : Int) == 2 then
                              (bif b221 then
                                (bif (i107 : Int) == 2 then
                                  ((R id_law07Wakes []).bind fun r70 =>
                                  asB r70.v fun b222 =>
                                  some ⟨AV.bool b222, false, []⟩)
                                else
                                  some ⟨AV.bool false, false, []⟩)
                              else
                                some ⟨AV.bool false, false, []⟩)
                            else
                              some ⟨AV.bool false, false, []⟩)
                          else
                            some ⟨AV.bool false, false, []⟩)
                        else
                          some ⟨AV.bool false, false, []⟩)
                      else
                        some ⟨AV.bool false, false, []⟩)
                    else
                      some ⟨AV.bool false, false, []⟩)
                  else
                    some ⟨AV.bool false, false, []⟩)
                else
                  some ⟨AV.bool false, false, []⟩)
              else
                some ⟨AV.bool false, false, []⟩)
            else
              some ⟨AV.bool false, false, []⟩)
          else
            need (decide (0 ≤ (0 : Int))) <|
            (s5[Int.toNat 0]?).bind fun c10 =>
            bif ((c10.toNat : Int) : Int) == 43 then
              (need (decide ((([32] : List UInt8) : List UInt8).length + s5.length ≤ 9223372036854775807)) <|
              need (decide ((([62] : List UInt8) ++ (s2 ++ [UInt8.ofNat (Int.toNat (IntKind.u8.wrap (IntKind.i64.wrap (48 + i3))))]) : List UInt8).length + (([32] : List UInt8) ++ s5 : List UInt8).length ≤ 9223372036854775807)) <|
              (R id_foldTakeHeader [AV.bytes ((([62] : List UInt8) ++ (s2 ++ [UInt8.ofNat (Int.toNat (IntKind.u8.wrap (IntKind.i64.wrap (48 + i3))))])) ++ (([32] : List UInt8) ++ s5))]).bind fun r71 =>
              asAIBT r71.v fun b223 b224 b225 i108 i109 b226 =>
              need (decide ((([120] : List UInt8) : List UInt8).length + (([62] : List UInt8) ++ (s2 ++ [UInt8.ofNat (Int.toNat (IntKind.u8.wrap (IntKind.i64.wrap (48 + i3))))]) : List UInt8).length ≤ 9223372036854775807)) <|
              (R id_foldTakeHeader [AV.bytes (([120] : List UInt8) ++ (([62] : List UInt8) ++ (s2 ++ [UInt8.ofNat (Int.toNat (IntKind.u8.wrap (IntKind.i64.wrap (48 + i3))))])))]).bind fun r72 =>
              asAIBT r72.v fun b227 b228 b229 i110 i111 b230 =>
              (R id_foldTakeHeader [AV.bytes ((([124, 45, 45] : List UInt8).drop 0).take 3)]).bind fun r73 =>
              asAIBT r73.v fun b231 b232 b233 i112 i113 b234 =>
              (R id_foldTakeHeader [AV.bytes ((([62, 49, 50] : List UInt8).drop 0).take 3)]).bind fun r74 =>
              asAIBT r74.v fun b235 b236 b237 i114 i115 b238 =>
              bif b226 then
                (bif (i109 : Int) == (((([62] : List UInt8) ++ (s2 ++ [UInt8.ofNat (Int.toNat (IntKind.u8.wrap (IntKind.i64.wrap (48 + i3))))]) : List UInt8).length : Nat) : Int) then
                  (bif b223 == (((Int.tmod i1 2) : Int) != 0) then
                    (bif b224 == (s2 == ([45] : List UInt8)) then
                      (bif b225 == (s2 == ([43] : List UInt8)) then
                        (bif (i108 : Int) == i3 then
                          (bif !b230 then
                            (bif b234 then
                              (bif (i113 : Int) == 2 then
                                (bif b238 then
                                  (bif (i115 : Int) == 2 then
                                    ((R id_law07Wakes []).bind fun r75 =>
                                    asB r75.v fun b239 =>
                                    some ⟨AV.bool b239, false, []⟩)
                                  else
                                    some ⟨AV.bool false, false, []⟩)
                                else
                                  some ⟨AV.bool false, false, []⟩)
                              else
                                some ⟨AV.bool false, false, []⟩)
                            else
                              some ⟨AV.bool false, false, []⟩)
                          else
                            some ⟨AV.bool false, false, []⟩)
                        else
                          some ⟨AV.bool false, false, []⟩)
                      else
                        some ⟨AV.bool false, false, []⟩)
                    else
                      some ⟨AV.bool false, false, []⟩)
                  else
                    some ⟨AV.bool false, false, []⟩)
                else
                  some ⟨AV.bool false, false, []⟩)
              else
                some ⟨AV.bool false, false, []⟩)
            else
              need (decide (0 ≤ (0 : Int))) <|
              (s5[Int.toNat 0]?).bind fun c11 =>
              bif decide (((c11.toNat : Int) : Int) ≥ 49) then
                (need (decide (0 ≤ (0 : Int))) <|
                (s5[Int.toNat 0]?).bind fun c12 =>
                bif decide (((c12.toNat : Int) : Int) ≤ 57) then
                  (need (decide ((([32] : List UInt8) : List UInt8).length + s5.length ≤ 9223372036854775807)) <|
                  need (decide ((([62] : List UInt8) ++ (s2 ++ [UInt8.ofNat (Int.toNat (IntKind.u8.wrap (IntKind.i64.wrap (48 + i3))))]) : List UInt8).length + (([32] : List UInt8) ++ s5 : List UInt8).length ≤ 9223372036854775807)) <|
                  (R id_foldTakeHeader [AV.bytes ((([62] : List UInt8) ++ (s2 ++ [UInt8.ofNat (Int.toNat (IntKind.u8.wrap (IntKind.i64.wrap (48 + i3))))])) ++ (([32] : List UInt8) ++ s5))]).bind fun r76 =>
                  asAIBT r76.v fun b240 b241 b242 i116 i117 b243 =>
                  need (decide ((([120] : List UInt8) : List UInt8).length + (([62] : List UInt8) ++ (s2 ++ [UInt8.ofNat (Int.toNat (IntKind.u8.wrap (IntKind.i64.wrap (48 + i3))))]) : List UInt8).length ≤ 9223372036854775807)) <|
                  (R id_foldTakeHeader [AV.bytes (([120] : List UInt8) ++ (([62] : List UInt8) ++ (s2 ++ [UInt8.ofNat (Int.toNat (IntKind.u8.wrap (IntKind.i64.wrap (48 + i3))))])))]).bind fun r77 =>
                  asAIBT r77.v fun b244 b245 b246 i118 i119 b247 =>
                  (R id_foldTakeHeader [AV.bytes ((([124, 45, 45] : List UInt8).drop 0).take 3)]).bind fun r78 =>
                  asAIBT r78.v fun b248 b249 b250 i120 i121 b251 =>
                  (R id_foldTakeHeader [AV.bytes ((([62, 49, 50] : List UInt8).drop 0).take 3)]).bind fun r79 =>
                  asAIBT r79.v fun b252 b253 b254 i122 i123 b255 =>
                  bif b243 then
                    (bif (i117 : Int) == (((([62] : List UInt8) ++ (s2 ++ [UInt8.ofNat (Int.toNat (IntKind.u8.wrap (IntKind.i64.wrap (48 + i3))))]) : List UInt8).length : Nat) : Int) then
                      (bif b240 == (((Int.tmod i1 2) : Int) != 0) then
                        (bif b241 == (s2 == ([45] : List UInt8)) then
                          (bif b242 == (s2 == ([43] : List UInt8)) then
                            (bif (i116 : Int) == i3 then
                              (bif !b247 then
                                (bif b251 then
                                  (bif (i121 : Int) == 2 then
                                    (bif b255 then
                                      (bif (i123 : Int) == 2 then
                                        ((R id_law07Wakes []).bind fun r80 =>
                                        asB r80.v fun b256 =>
                                        some ⟨AV.bool b256, false, []⟩)
                                      else
                                        some ⟨AV.bool false, false, []⟩)
                                    else
                                      some ⟨AV.bool false, false, []⟩)
                                  else
                                    some ⟨AV.bool false, false, []⟩)
                                else
                                  some ⟨AV.bool false, false, []⟩)
                              else
                                some ⟨AV.bool false, false, []⟩)
                            else
                              some ⟨AV.bool false, false, []⟩)
                          else
                            some ⟨AV.bool false, false, []⟩)
                        else
                          some ⟨AV.bool false, false, []⟩)
                      else
                        some ⟨AV.bool false, false, []⟩)
                    else
                      some ⟨AV.bool false, false, []⟩)
                  else
                    some ⟨AV.bool false, false, []⟩)
                else
                  need (decide ((([62] : List UInt8) ++ (s2 ++ [UInt8.ofNat (Int.toNat (IntKind.u8.wrap (IntKind.i64.wrap (48 + i3))))]) : List UInt8).length + s5.length ≤ 9223372036854775807)) <|
                  (R id_foldTakeHeader [AV.bytes ((([62] : List UInt8) ++ (s2 ++ [UInt8.ofNat (Int.toNat (IntKind.u8.wrap (IntKind.i64.wrap (48 + i3))))])) ++ s5)]).bind fun r81 =>
                  asAIBT r81.v fun b257 b258 b259 i124 i125 b260 =>
                  need (decide ((([120] : List UInt8) : List UInt8).length + (([62] : List UInt8) ++ (s2 ++ [UInt8.ofNat (Int.toNat (IntKind.u8.wrap (IntKind.i64.wrap (48 + i3))))]) : List UInt8).length ≤ 9223372036854775807)) <|
                  (R id_foldTakeHeader [AV.bytes (([120] : List UInt8) ++ (([62] : List UInt8) ++ (s2 ++ [UInt8.ofNat (Int.toNat (IntKind.u8.wrap (IntKind.i64.wrap (48 + i3))))])))]).bind fun r82 =>
                  asAIBT r82.v fun b261 b262 b263 i126 i127 b264 =>
                  (R id_foldTakeHeader [AV.bytes ((([124, 45, 45] : List UInt8).drop 0).take 3)]).bind fun r83 =>
                  asAIBT r83.v fun b265 b266 b267 i128 i129 b268 =>
                  (R id_foldTakeHeader [AV.bytes ((([62, 49, 50] : List UInt8).drop 0).take 3)]).bind fun r84 =>
                  asAIBT r84.v fun b269 b270 b271 i130 i131 b272 =>
                  bif b260 then
                    (bif (i125 : Int) == (((([62] : List UInt8) ++ (s2 ++ [UInt8.ofNat (Int.toNat (IntKind.u8.wrap (IntKind.i64.wrap (48 + i3))))]) : List UInt8).length : Nat) : Int) then
                      (bif b257 == (((Int.tmod i1 2) : Int) != 0) then
                        (bif b258 == (s2 == ([45] : List UInt8)) then
                          (bif b259 == (s2 == ([43] : List UInt8)) then
                            (bif (i124 : Int) == i3 then
                              (bif !b264 then
                                (bif b268 then
                                  (bif (i129 : Int) == 2 then
                                    (bif b272 then
                                      (bif (i131 : Int) == 2 then
                                        ((R id_law07Wakes []).bind fun r85 =>
                                        asB r85.v fun b273 =>
                                        some ⟨AV.bool b273, false, []⟩)
                                      else
                                        some ⟨AV.bool false, false, []⟩)
                                    else
                                      some ⟨AV.bool false, false, []⟩)
                                  else
                                    some ⟨AV.bool false, false, []⟩)
                                else
                                  some ⟨AV.bool false, false, []⟩)
                              else
                                some ⟨AV.bool false, false, []⟩)
                            else
                              some ⟨AV.bool false, false, []⟩)
                          else
                            some ⟨AV.bool false, false, []⟩)
                        else
                          some ⟨AV.bool false, false, []⟩)
                      else
                        some ⟨AV.bool false, false, []⟩)
                    else
                      some ⟨AV.bool false, false, []⟩)
                  else
                    some ⟨AV.bool false, false, []⟩)
              else
                need (decide ((([62] : List UInt8) ++ (s2 ++ [UInt8.ofNat (Int.toNat (IntKind.u8.wrap (IntKind.i64.wrap (48 + i3))))]) : List UInt8).length + s5.length ≤ 9223372036854775807)) <|
                (R id_foldTakeHeader [AV.bytes ((([62] : List UInt8) ++ (s2 ++ [UInt8.ofNat (Int.toNat (IntKind.u8.wrap (IntKind.i64.wrap (48 + i3))))])) ++ s5)]).bind fun r86 =>
                asAIBT r86.v fun b274 b275 b276 i132 i133 b277 =>
                need (decide ((([120] : List UInt8) : List UInt8).length + (([62] : List UInt8) ++ (s2 ++ [UInt8.ofNat (Int.toNat (IntKind.u8.wrap (IntKind.i64.wrap (48 + i3))))]) : List UInt8).length ≤ 9223372036854775807)) <|
                (R id_foldTakeHeader [AV.bytes (([120] : List UInt8) ++ (([62] : List UInt8) ++ (s2 ++ [UInt8.ofNat (Int.toNat (IntKind.u8.wrap (IntKind.i64.wrap (48 + i3))))])))]).bind fun r87 =>
                asAIBT r87.v fun b278 b279 b280 i134 i135 b281 =>
                (R id_foldTakeHeader [AV.bytes ((([124, 45, 45] : List UInt8).drop 0).take 3)]).bind fun r88 =>
                asAIBT r88.v fun b282 b283 b284 i136 i137 b285 =>
                (R id_foldTakeHeader [AV.bytes ((([62, 49, 50] : List UInt8).drop 0).take 3)]).bind fun r89 =>
                asAIBT r89.v fun b286 b287 b288 i138 i139 b289 =>
                bif b277 then
                  (bif (i133 : Int) == (((([62] : List UInt8) ++ (s2 ++ [UInt8.ofNat (Int.toNat (IntKind.u8.wrap (IntKind.i64.wrap (48 + i3))))]) : List UInt8).length : Nat) : Int) then
                    (bif b274 == (((Int.tmod i1 2) : Int) != 0) then
                      (bif b275 == (s2 == ([45] : List UInt8)) then
                        (bif b276 == (s2 == ([43] : List UInt8)) then
                          (bif (i132 : Int) == i3 then
                            (bif !b281 then
                              (bif b285 then
                                (bif (i137 : Int) == 2 then
                                  (bif b289 then
                                    (bif (i139 : Int) == 2 then
                                      ((R id_law07Wakes []).bind fun r90 =>
                                      asB r90.v fun b290 =>
                                      some ⟨AV.bool b290, false, []⟩)
                                    else
                                      some ⟨AV.bool false, false, []⟩)
                                  else
                                    some ⟨AV.bool false, false, []⟩)
                                else
                                  some ⟨AV.bool false, false, []⟩)
                              else
                                some ⟨AV.bool false, false, []⟩)
                            else
                              some ⟨AV.bool false, false, []⟩)
                          else
                            some ⟨AV.bool false, false, []⟩)
                        else
                          some ⟨AV.bool false, false, []⟩)
                      else
                        some ⟨AV.bool false, false, []⟩)
                    else
                      some ⟨AV.bool false, false, []⟩)
                  else
                    some ⟨AV.bool false, false, []⟩)
                else
                  some ⟨AV.bool false, false, []⟩)
        else
          need (decide ((([62] : List UInt8) ++ (s2 ++ [UInt8.ofNat (Int.toNat (IntKind.u8.wrap (IntKind.i64.wrap (48 + i3))))]) : List UInt8).length + s5.length ≤ 9223372036854775807)) <|
          (R id_foldTakeHeader [AV.bytes ((([62] : List UInt8) ++ (s2 ++ [UInt8.ofNat (Int.toNat (IntKind.u8.wrap (IntKind.i64.wrap (48 + i3))))])) ++ s5)]).bind fun r91 =>
          asAIBT r91.v fun b291 b292 b293 i140 i141 b294 =>
          need (decide ((([120] : List UInt8) : List UInt8).length + (([62] : List UInt8) ++ (s2 ++ [UInt8.ofNat (Int.toNat (IntKind.u8.wrap (IntKind.i64.wrap (48 + i3))))]) : List UInt8).length ≤ 9223372036854775807)) <|
          (R id_foldTakeHeader [AV.bytes (([120] : List UInt8) ++ (([62] : List UInt8) ++ (s2 ++ [UInt8.ofNat (Int.toNat (IntKind.u8.wrap (IntKind.i64.wrap (48 + i3))))])))]).bind fun r92 =>
          asAIBT r92.v fun b295 b296 b297 i142 i143 b298 =>
          (R id_foldTakeHeader [AV.bytes ((([124, 45, 45] : List UInt8).drop 0).take 3)]).bind fun r93 =>
          asAIBT r93.v fun b299 b300 b301 i144 i145 b302 =>
          (R id_foldTakeHeader [AV.bytes ((([62, 49, 50] : List UInt8).drop 0).take 3)]).bind fun r94 =>
          asAIBT r94.v fun b303 b304 b305 i146 i147 b306 =>
          bif b294 then
            (bif (i141 : Int) == (((([62] : List UInt8) ++ (s2 ++ [UInt8.ofNat (Int.toNat (IntKind.u8.wrap (IntKind.i64.wrap (48 + i3))))]) : List UInt8).length : Nat) : Int) then
              (bif b291 == (((Int.tmod i1 2) : Int) != 0) then
                (bif b292 == (s2 == ([45] : List UInt8)) then
                  (bif b293 == (s2 == ([43] : List UInt8)) then
                    (bif (i140 : Int) == i3 then
                      (bif !b298 then
                        (bif b302 then
                          (bif (i145 : Int) == 2 then
                            (bif b306 then
                              (bif (i147 : Int) == 2 then
                                ((R id_law07Wakes []).bind fun r95 =>
                                asB r95.v fun b307 =>
                                some ⟨AV.bool b307, false, []⟩)
                              else
                                some ⟨AV.bool false, false, []⟩)
                            else
                              some ⟨AV.bool false, false, []⟩)
                          else
                            some ⟨AV.bool false, false, []⟩)
                        else
                          some ⟨AV.bool false, false, []⟩)
                      else
                        some ⟨AV.bool false, false, []⟩)
                    else
                      some ⟨AV.bool false, false, []⟩)
                  else
                    some ⟨AV.bool false, false, []⟩)
                else
                  some ⟨AV.bool false, false, []⟩)
              else
                some ⟨AV.bool false, false, []⟩)
            else
              some ⟨AV.bool false, false, []⟩)
          else
            some ⟨AV.bool false, false, []⟩)
      else
        need (decide (s2.length + ([UInt8.ofNat (Int.toNat (IntKind.u8.wrap (IntKind.i64.wrap (48 + i3))))] : List UInt8).length ≤ 9223372036854775807)) <|
        need (decide ((([124] : List UInt8) : List UInt8).length + (s2 ++ [UInt8.ofNat (Int.toNat (IntKind.u8.wrap (IntKind.i64.wrap (48 + i3))))]).length ≤ 9223372036854775807)) <|
        (R id_keepText [AV.str s1, AV.int .i64 5]).bind fun r96 =>
        asS r96.v fun s6 =>
        bif decide ((((s6.length : Nat) : Int) : Int) > 0) then
          (need (decide (0 ≤ (0 : Int))) <|
          (s6[Int.toNat 0]?).bind fun c13 =>
          bif ((c13.toNat : Int) : Int) == 45 then
            (need (decide ((([32] : List UInt8) : List UInt8).length + s6.length ≤ 9223372036854775807)) <|
            need (decide ((([124] : List UInt8) ++ (s2 ++ [UInt8.ofNat (Int.toNat (IntKind.u8.wrap (IntKind.i64.wrap (48 + i3))))]) : List UInt8).length + (([32] : List UInt8) ++ s6 : List UInt8).length ≤ 9223372036854775807)) <|
            (R id_foldTakeHeader [AV.bytes ((([124] : List UInt8) ++ (s2 ++ [UInt8.ofNat (Int.toNat (IntKind.u8.wrap (IntKind.i64.wrap (48 + i3))))])) ++ (([32] : List UInt8) ++ s6))]).bind fun r97 =>
            asAIBT r97.v fun b308 b309 b310 i148 i149 b311 =>
            need (decide ((([120] : List UInt8) : List UInt8).length + (([124] : List UInt8) ++ (s2 ++ [UInt8.ofNat (Int.toNat (IntKind.u8.wrap (IntKind.i64.wrap (48 + i3))))]) : List UInt8).length ≤ 9223372036854775807)) <|
            (R id_foldTakeHeader [AV.bytes (([120] : List UInt8) ++ (([124] : List UInt8) ++ (s2 ++ [UInt8.ofNat (Int.toNat (IntKind.u8.wrap (IntKind.i64.wrap (48 + i3))))])))]).bind fun r98 =>
            asAIBT r98.v fun b312 b313 b314 i150 i151 b315 =>
            (R id_foldTakeHeader [AV.bytes ((([124, 45, 45] : List UInt8).drop 0).take 3)]).bind fun r99 =>
            asAIBT r99.v fun b316 b317 b318 i152 i153 b319 =>
            (R id_foldTakeHeader [AV.bytes ((([62, 49, 50] : List UInt8).drop 0).take 3)]).bind fun r100 =>
            asAIBT r100.v fun b320 b321 b322 i154 i155 b323 =>
            bif b311 then
              (bif (i149 : Int) == (((([124] : List UInt8) ++ (s2 ++ [UInt8.ofNat (Int.toNat (IntKind.u8.wrap (IntKind.i64.wrap (48 + i3))))]) : List UInt8).length : Nat) : Int) then
                (bif b308 == (((Int.tmod i1 2) : Int) != 0) then
                  (bif b309 == (s2 == ([45] : List UInt8)) then
                    (bif b310 == (s2 == ([43] : List UInt8)) then
                      (bif (i148 : Int) == i3 then
                        (bif !b315 then
                          (bif b319 then
                            (bif (i153 : Int) == 2 then
                              (bif b323 then
                                (bif (i155 : Int) == 2 then
                                  ((R id_law07Wakes []).bind fun r101 =>
                                  asB r101.v fun b324 =>
                                  some ⟨AV.bool b324, false, []⟩)
                                else
                                  some ⟨AV.bool false, false, []⟩)
                              else
                                some ⟨AV.bool false, false, []⟩)
                            else
                              some ⟨AV.bool false, false, []⟩)
                          else
                            some ⟨AV.bool false, false, []⟩)
                        else
                          some ⟨AV.bool false, false, []⟩)
                      else
                        some ⟨AV.bool false, false, []⟩)
                    else
                      some ⟨AV.bool false, false, []⟩)
                  else
                    some ⟨AV.bool false, false, []⟩)
                else
                  some ⟨AV.bool false, false, []⟩)
              else
                some ⟨AV.bool false, false, []⟩)
            else
              some ⟨AV.bool false, false, []⟩)
          else
            need (decide (0 ≤ (0 : Int))) <|
            (s6[Int.toNat 0]?).bind fun c14 =>
            bif ((c14.toNat : Int) : Int) == 43 then
              (need (decide ((([32] : List UInt8) : List UInt8).length + s6.length ≤ 9223372036854775807)) <|
              need (decide ((([124] : List UInt8) ++ (s2 ++ [UInt8.ofNat (Int.toNat (IntKind.u8.wrap (IntKind.i64.wrap (48 + i3))))]) : List UInt8).length + (([32] : List UInt8) ++ s6 : List UInt8).length ≤ 9223372036854775807)) <|
              (R id_foldTakeHeader [AV.bytes ((([124] : List UInt8) ++ (s2 ++ [UInt8.ofNat (Int.toNat (IntKind.u8.wrap (IntKind.i64.wrap (48 + i3))))])) ++ (([32] : List UInt8) ++ s6))]).bind fun r102 =>
              asAIBT r102.v fun b325 b326 b327 i156 i157 b328 =>
              need (decide ((([120] : List UInt8) : List UInt8).length + (([124] : List UInt8) ++ (s2 ++ [UInt8.ofNat (Int.toNat (IntKind.u8.wrap (IntKind.i64.wrap (48 + i3))))]) : List UInt8).length ≤ 9223372036854775807)) <|
              (R id_foldTakeHeader [AV.bytes (([120] : List UInt8) ++ (([124] : List UInt8) ++ (s2 ++ [UInt8.ofNat (Int.toNat (IntKind.u8.wrap (IntKind.i64.wrap (48 + i3))))])))]).bind fun r103 =>
              asAIBT r103.v fun b329 b330 b331 i158 i159 b332 =>
              (R id_foldTakeHeader [AV.bytes ((([124, 45, 45] : List UInt8).drop 0).take 3)]).bind fun r104 =>
              asAIBT r104.v fun b333 b334 b335 i160 i161 b336 =>
              (R id_foldTakeHeader [AV.bytes ((([62, 49, 50] : List UInt8).drop 0).take 3)]).bind fun r105 =>
              asAIBT r105.v fun b337 b338 b339 i162 i163 b340 =>
              bif b328 then
                (bif (i157 : Int) == (((([124] : List UInt8) ++ (s2 ++ [UInt8.ofNat (Int.toNat (IntKind.u8.wrap (IntKind.i64.wrap (48 + i3))))]) : List UInt8).length : Nat) : Int) then
                  (bif b325 == (((Int.tmod i1 2) : Int) != 0) then
                    (bif b326 == (s2 == ([45] : List UInt8)) then
                      (bif b327 == (s2 == ([43] : List UInt8)) then
                        (bif (i156 : Int) == i3 then
                          (bif !b332 then
                            (bif b336 then
                              (bif (i161 : Int) == 2 then
                                (bif b340 then
                                  (bif (i163 : Int) == 2 then
                                    ((R id_law07Wakes []).bind fun r106 =>
                                    asB r106.v fun b341 =>
                                    some ⟨AV.bool b341, false, []⟩)
                                  else
                                    some ⟨AV.bool false, false, []⟩)
                                else
                                  some ⟨AV.bool false, false, []⟩)
                              else
                                some ⟨AV.bool false, false, []⟩)
                            else
                              some ⟨AV.bool false, false, []⟩)
                          else
                            some ⟨AV.bool false, false, []⟩)
                        else
                          some ⟨AV.bool false, false, []⟩)
                      else
                        some ⟨AV.bool false, false, []⟩)
                    else
                      some ⟨AV.bool false, false, []⟩)
                  else
                    some ⟨AV.bool false, false, []⟩)
                else
                  some ⟨AV.bool false, false, []⟩)
              else
                some ⟨AV.bool false, false, []⟩)
            else
              need (decide (0 ≤ (0 : Int))) <|
              (s6[Int.toNat 0]?).bind fun c15 =>
              bif decide (((c15.toNat : Int) : Int) ≥ 49) then
                (need (decide (0 ≤ (0 : Int))) <|
                (s6[Int.toNat 0]?).bind fun c16 =>
                bif decide (((c16.toNat : Int) : Int) ≤ 57) then
                  (need (decide ((([32] : List UInt8) : List UInt8).length + s6.length ≤ 9223372036854775807)) <|
                  need (decide ((([124] : List UInt8) ++ (s2 ++ [UInt8.ofNat (Int.toNat (IntKind.u8.wrap (IntKind.i64.wrap (48 + i3))))]) : List UInt8).length + (([32] : List UInt8) ++ s6 : List UInt8).length ≤ 9223372036854775807)) <|
                  (R id_foldTakeHeader [AV.bytes ((([124] : List UInt8) ++ (s2 ++ [UInt8.ofNat (Int.toNat (IntKind.u8.wrap (IntKind.i64.wrap (48 + i3))))])) ++ (([32] : List UInt8) ++ s6))]).bind fun r107 =>
                  asAIBT r107.v fun b342 b343 b344 i164 i165 b345 =>
                  need (decide ((([120] : List UInt8) : List UInt8).length + (([124] : List UInt8) ++ (s2 ++ [UInt8.ofNat (Int.toNat (IntKind.u8.wrap (IntKind.i64.wrap (48 + i3))))]) : List UInt8).length ≤ 9223372036854775807)) <|
                  (R id_foldTakeHeader [AV.bytes (([120] : List UInt8) ++ (([124] : List UInt8) ++ (s2 ++ [UInt8.ofNat (Int.toNat (IntKind.u8.wrap (IntKind.i64.wrap (48 + i3))))])))]).bind fun r108 =>
                  asAIBT r108.v fun b346 b347 b348 i166 i167 b349 =>
                  (R id_foldTakeHeader [AV.bytes ((([124, 45, 45] : List UInt8).drop 0).take 3)]).bind fun r109 =>
                  asAIBT r109.v fun b350 b351 b352 i168 i169 b353 =>
                  (R id_foldTakeHeader [AV.bytes ((([62, 49, 50] : List UInt8).drop 0).take 3)]).bind fun r110 =>
                  asAIBT r110.v fun b354 b355 b356 i170 i171 b357 =>
                  bif b345 then
                    (bif (i165 : Int) == (((([124] : List UInt8) ++ (s2 ++ [UInt8.ofNat (Int.toNat (IntKind.u8.wrap (IntKind.i64.wrap (48 + i3))))]) : List UInt8).length : Nat) : Int) then
                      (bif b342 == (((Int.tmod i1 2) : Int) != 0) then
                        (bif b343 == (s2 == ([45] : List UInt8)) then
                          (bif b344 == (s2 == ([43] : List UInt8)) then
                            (bif (i164 : Int) == i3 then
                              (bif !b349 then
                                (bif b353 then
                                  (bif (i169 : Int) == 2 then
                                    (bif b357 then
                                      (bif (i171 : Int) == 2 then
                                        ((R id_law07Wakes []).bind fun r111 =>
                                        asB r111.v fun b358 =>
                                        some ⟨AV.bool b358, false, []⟩)
                                      else
                                        some ⟨AV.bool false, false, []⟩)
                                    else
                                      some ⟨AV.bool false, false, []⟩)
                                  else
                                    some ⟨AV.bool false, false, []⟩)
                                else
                                  some ⟨AV.bool false, false, []⟩)
                              else
                                some ⟨AV.bool false, false, []⟩)
                            else
                              some ⟨AV.bool false, false, []⟩)
                          else
                            some ⟨AV.bool false, false, []⟩)
                        else
                          some ⟨AV.bool false, false, []⟩)
                      else
                        some ⟨AV.bool false, false, []⟩)
                    else
                      some ⟨AV.bool false, false, []⟩)
                  else
                    some ⟨AV.bool false, false, []⟩)
                else
                  need (decide ((([124] : List UInt8) ++ (s2 ++ [UInt8.ofNat (Int.toNat (IntKind.u8.wrap (IntKind.i64.wrap (48 + i3))))]) : List UInt8).length + s6.length ≤ 9223372036854775807)) <|
                  (R id_foldTakeHeader [AV.bytes ((([124] : List UInt8) ++ (s2 ++ [UInt8.ofNat (Int.toNat (IntKind.u8.wrap (IntKind.i64.wrap (48 + i3))))])) ++ s6)]).bind fun r112 =>
                  asAIBT r112.v fun b359 b360 b361 i172 i173 b362 =>
                  need (decide ((([120] : List UInt8) : List UInt8).length + (([124] : List UInt8) ++ (s2 ++ [UInt8.ofNat (Int.toNat (IntKind.u8.wrap (IntKind.i64.wrap (48 + i3))))]) : List UInt8).length ≤ 9223372036854775807)) <|
                  (R id_foldTakeHeader [AV.bytes (([120] : List UInt8) ++ (([124] : List UInt8) ++ (s2 ++ [UInt8.ofNat (Int.toNat (IntKind.u8.wrap (IntKind.i64.wrap (48 + i3))))])))]).bind fun r113 =>
                  asAIBT r113.v fun b363 b364 b365 i174 i175 b366 =>
                  (R id_foldTakeHeader [AV.bytes ((([124, 45, 45] : List UInt8).drop 0).take 3)]).bind fun r114 =>
                  asAIBT r114.v fun b367 b368 b369 i176 i177 b370 =>
                  (R id_foldTakeHeader [AV.bytes ((([62, 49, 50] : List UInt8).drop 0).take 3)]).bind fun r115 =>
                  asAIBT r115.v fun b371 b372 b373 i178 i179 b374 =>
                  bif b362 then
                    (bif (i173 : Int) == (((([124] : List UInt8) ++ (s2 ++ [UInt8.ofNat (Int.toNat (IntKind.u8.wrap (IntKind.i64.wrap (48 + i3))))]) : List UInt8).length : Nat) : Int) then
                      (bif b359 == (((Int.tmod i1 2) : Int) != 0) then
                        (bif b360 == (s2 == ([45] : List UInt8)) then
                          (bif b361 == (s2 == ([43] : List UInt8)) then
                            (bif (i172 : Int) == i3 then
                              (bif !b366 then
                                (bif b370 then
                                  (bif (i177 : Int) == 2 then
                                    (bif b374 then
                                      (bif (i179 : Int) == 2 then
                                        ((R id_law07Wakes []).bind fun r116 =>
                                        asB r116.v fun b375 =>
                                        some ⟨AV.bool b375, false, []⟩)
                                      else
                                        some ⟨AV.bool false, false, []⟩)
                                    else
                                      some ⟨AV.bool false, false, []⟩)
                                  else
                                    some ⟨AV.bool false, false, []⟩)
                                else
                                  some ⟨AV.bool false, false, []⟩)
                              else
                                some ⟨AV.bool false, false, []⟩)
                            else
                              some ⟨AV.bool false, false, []⟩)
                          else
                            some ⟨AV.bool false, false, []⟩)
                        else
                          some ⟨AV.bool false, false, []⟩)
                      else
                        some ⟨AV.bool false, false, []⟩)
                    else
                      some ⟨AV.bool false, false, []⟩)
                  else
                    some ⟨AV.bool false, false, []⟩)
              else
                need (decide ((([124] : List UInt8) ++ (s2 ++ [UInt8.ofNat (Int.toNat (IntKind.u8.wrap (IntKind.i64.wrap (48 + i3))))]) : List UInt8).length + s6.length ≤ 9223372036854775807)) <|
                (R id_foldTakeHeader [AV.bytes ((([124] : List UInt8) ++ (s2 ++ [UInt8.ofNat (Int.toNat (IntKind.u8.wrap (IntKind.i64.wrap (48 + i3))))])) ++ s6)]).bind fun r117 =>
                asAIBT r117.v fun b376 b377 b378 i180 i181 b379 =>
                need (decide ((([120] : List UInt8) : List UInt8).length + (([124] : List UInt8) ++ (s2 ++ [UInt8.ofNat (Int.toNat (IntKind.u8.wrap (IntKind.i64.wrap (48 + i3))))]) : List UInt8).length ≤ 9223372036854775807)) <|
                (R id_foldTakeHeader [AV.bytes (([120] : List UInt8) ++ (([124] : List UInt8) ++ (s2 ++ [UInt8.ofNat (Int.toNat (IntKind.u8.wrap (IntKind.i64.wrap (48 + i3))))])))]).bind fun r118 =>
                asAIBT r118.v fun b380 b381 b382 i182 i183 b383 =>
                (R id_foldTakeHeader [AV.bytes ((([124, 45, 45] : List UInt8).drop 0).take 3)]).bind fun r119 =>
                asAIBT r119.v fun b384 b385 b386 i184 i185 b387 =>
                (R id_foldTakeHeader [AV.bytes ((([62, 49, 50] : List UInt8).drop 0).take 3)]).bind fun r120 =>
                asAIBT r120.v fun b388 b389 b390 i186 i187 b391 =>
                bif b379 then
                  (bif (i181 : Int) == (((([124] : List UInt8) ++ (s2 ++ [UInt8.ofNat (Int.toNat (IntKind.u8.wrap (IntKind.i64.wrap (48 + i3))))]) : List UInt8).length : Nat) : Int) then
                    (bif b376 == (((Int.tmod i1 2) : Int) != 0) then
                      (bif b377 == (s2 == ([45] : List UInt8)) then
                        (bif b378 == (s2 == ([43] : List UInt8)) then
                          (bif (i180 : Int) == i3 then
                            (bif !b383 then
                              (bif b387 then
                                (bif (i185 : Int) == 2 then
                                  (bif b391 then
                                    (bif (i187 : Int) == 2 then
                                      ((R id_law07Wakes []).bind fun r121 =>
                                      asB r121.v fun b392 =>
                                      some ⟨AV.bool b392, false, []⟩)
                                    else
                                      some ⟨AV.bool false, false, []⟩)
                                  else
                                    some ⟨AV.bool false, false, []⟩)
                                else
                                  some ⟨AV.bool false, false, []⟩)
                              else
                                some ⟨AV.bool false, false, []⟩)
                            else
                              some ⟨AV.bool false, false, []⟩)
                          else
                            some ⟨AV.bool false, false, []⟩)
                        else
                          some ⟨AV.bool false, false, []⟩)
                      else
                        some ⟨AV.bool false, false, []⟩)
                    else
                      some ⟨AV.bool false, false, []⟩)
                  else
                    some ⟨AV.bool false, false, []⟩)
                else
                  some ⟨AV.bool false, false, []⟩)
        else
          need (decide ((([124] : List UInt8) ++ (s2 ++ [UInt8.ofNat (Int.toNat (IntKind.u8.wrap (IntKind.i64.wrap (48 + i3))))]) : List UInt8).length + s6.length ≤ 9223372036854775807)) <|
          (R id_foldTakeHeader [AV.bytes ((([124] : List UInt8) ++ (s2 ++ [UInt8.ofNat (Int.toNat (IntKind.u8.wrap (IntKind.i64.wrap (48 + i3))))])) ++ s6)]).bind fun r122 =>
          asAIBT r122.v fun b393 b394 b395 i188 i189 b396 =>
          need (decide ((([120] : List UInt8) : List UInt8).length + (([124] : List UInt8) ++ (s2 ++ [UInt8.ofNat (Int.toNat (IntKind.u8.wrap (IntKind.i64.wrap (48 + i3))))]) : List UInt8).length ≤ 9223372036854775807)) <|
          (R id_foldTakeHeader [AV.bytes (([120] : List UInt8) ++ (([124] : List UInt8) ++ (s2 ++ [UInt8.ofNat (Int.toNat (IntKind.u8.wrap (IntKind.i64.wrap (48 + i3))))])))]).bind fun r123 =>
          asAIBT r123.v fun b397 b398 b399 i190 i191 b400 =>
          (R id_foldTakeHeader [AV.bytes ((([124, 45, 45] : List UInt8).drop 0).take 3)]).bind fun r124 =>
          asAIBT r124.v fun b401 b402 b403 i192 i193 b404 =>
          (R id_foldTakeHeader [AV.bytes ((([62, 49, 50] : List UInt8).drop 0).take 3)]).bind fun r125 =>
          asAIBT r125.v fun b405 b406 b407 i194 i195 b408 =>
          bif b396 then
            (bif (i189 : Int) == (((([124] : List UInt8) ++ (s2 ++ [UInt8.ofNat (Int.toNat (IntKind.u8.wrap (IntKind.i64.wrap (48 + i3))))]) : List UInt8).length : Nat) : Int) then
              (bif b393 == (((Int.tmod i1 2) : Int) != 0) then
                (bif b394 == (s2 == ([45] : List UInt8)) then
                  (bif b395 == (s2 == ([43] : List UInt8)) then
                    (bif (i188 : Int) == i3 then
                      (bif !b400 then
                        (bif b404 then
                          (bif (i193 : Int) == 2 then
                            (bif b408 then
                              (bif (i195 : Int) == 2 then
                                ((R id_law07Wakes []).bind fun r126 =>
                                asB r126.v fun b409 =>
                                some ⟨AV.bool b409, false, []⟩)
                              else
                                some ⟨AV.bool false, false, []⟩)
                            else
                              some ⟨AV.bool false, false, []⟩)
                          else
                            some ⟨AV.bool false, false, []⟩)
                        else
                          some ⟨AV.bool false, false, []⟩)
                      else
                        some ⟨AV.bool false, false, []⟩)
                    else
                      some ⟨AV.bool false, false, []⟩)
                  else
                    some ⟨AV.bool false, false, []⟩)
                else
                  some ⟨AV.bool false, false, []⟩)
              else
                some ⟨AV.bool false, false, []⟩)
            else
              some ⟨AV.bool false, false, []⟩)
          else
            some ⟨AV.bool false, false, []⟩)
  else
    bif b1 then
      (bif ((Int.tmod i1 2) : Int) != 0 then
        (need (decide ((([] : List UInt8) : List UInt8).length + s2.length ≤ 9223372036854775807)) <|
        need (decide ((([62] : List UInt8) : List UInt8).length + (([] : List UInt8) ++ s2 : List UInt8).length ≤ 9223372036854775807)) <|
        (R id_keepText [AV.str s1, AV.int .i64 5]).bind fun r127 =>
        asS r127.v fun s7 =>
        bif decide ((((s7.length : Nat) : Int) : Int) > 0) then
          (need (decide (0 ≤ (0 : Int))) <|
          (s7[Int.toNat 0]?).bind fun c17 =>
          bif ((c17.toNat : Int) : Int) == 45 then
            (need (decide ((([32] : List UInt8) : List UInt8).length + s7.length ≤ 9223372036854775807)) <|
            need (decide ((([62] : List UInt8) ++ (([] : List UInt8) ++ s2) : List UInt8).length + (([32] : List UInt8) ++ s7 : List UInt8).length ≤ 9223372036854775807)) <|
            (R id_foldTakeHeader [AV.bytes ((([62] : List UInt8) ++ (([] : List UInt8) ++ s2)) ++ (([32] : List UInt8) ++ s7))]).bind fun r128 =>
            asAIBT r128.v fun b410 b411 b412 i196 i197 b413 =>
            need (decide ((([120] : List UInt8) : List UInt8).length + (([62] : List UInt8) ++ (([] : List UInt8) ++ s2) : List UInt8).length ≤ 9223372036854775807)) <|
            (R id_foldTakeHeader [AV.bytes (([120] : List UInt8) ++ (([62] : List UInt8) ++ (([] : List UInt8) ++ s2)))]).bind fun r129 =>
            asAIBT r129.v fun b414 b415 b416 i198 i199 b417 =>
            (R id_foldTakeHeader [AV.bytes ((([124, 45, 45] : List UInt8).drop 0).take 3)]).bind fun r130 =>
            asAIBT r130.v fun b418 b419 b420 i200 i201 b421 =>
            (R id_foldTakeHeader [AV.bytes ((([62, 49, 50] : List UInt8).drop 0).take 3)]).bind fun r131 =>
            asAIBT r131.v fun b422 b423 b424 i202 i203 b425 =>
            bif b413 then
              (bif (i197 : Int) == (((([62] : List UInt8) ++ (([] : List UInt8) ++ s2) : List UInt8).length : Nat) : Int) then
                (bif b410 == (((Int.tmod i1 2) : Int) != 0) then
                  (bif b411 == (s2 == ([45] : List UInt8)) then
                    (bif b412 == (s2 == ([43] : List UInt8)) then
                      (bif (i196 : Int) == i3 then
                        (bif !b417 then
                          (bif b421 then
                            (bif (i201 : Int) == 2 then
                              (bif b425 then
                                (bif (i203 : Int) == 2 then
                                  ((R id_law07Wakes []).bind fun r132 =>
                                  asB r132.v fun b426 =>
                                  some ⟨AV.bool b426, false, []⟩)
                                else
                                  some ⟨AV.bool false, false, []⟩)
                              else
                                some ⟨AV.bool false, false, []⟩)
                            else
                              some ⟨AV.bool false, false, []⟩)
                          else
                            some ⟨AV.bool false, false, []⟩)
                        else
                          some ⟨AV.bool false, false, []⟩)
                      else
                        some ⟨AV.bool false, false, []⟩)
                    else
                      some ⟨AV.bool false, false, []⟩)
                  else
                    some ⟨AV.bool false, false, []⟩)
                else
                  some ⟨AV.bool false, false, []⟩)
              else
                some ⟨AV.bool false, false, []⟩)
            else
              some ⟨AV.bool false, false, []⟩)
          else
            need (decide (0 ≤ (0 : Int))) <|
            (s7[Int.toNat 0]?).bind fun c18 =>
            bif ((c18.toNat : Int) : Int) == 43 then
              (need (decide ((([32] : List UInt8) : List UInt8).length + s7.length ≤ 9223372036854775807)) <|
              need (decide ((([62] : List UInt8) ++ (([] : List UInt8) ++ s2) : List UInt8).length + (([32] : List UInt8) ++ s7 : List UInt8).length ≤ 9223372036854775807)) <|
              (R id_foldTakeHeader [AV.bytes ((([62] : List UInt8) ++ (([] : List UInt8) ++ s2)) ++ (([32] : List UInt8) ++ s7))]).bind fun r133 =>
              asAIBT r133.v fun b427 b428 b429 i204 i205 b430 =>
              need (decide ((([120] : List UInt8) : List UInt8).length + (([62] : List UInt8) ++ (([] : List UInt8) ++ s2) : List UInt8).length ≤ 9223372036854775807)) <|
              (R id_foldTakeHeader [AV.bytes (([120] : List UInt8) ++ (([62] : List UInt8) ++ (([] : List UInt8) ++ s2)))]).bind fun r134 =>
              asAIBT r134.v fun b431 b432 b433 i206 i207 b434 =>
              (R id_foldTakeHeader [AV.bytes ((([124, 45, 45] : List UInt8).drop 0).take 3)]).bind fun r135 =>
              asAIBT r135.v fun b435 b436 b437 i208 i209 b438 =>
              (R id_foldTakeHeader [AV.bytes ((([62, 49, 50] : List UInt8).drop 0).take 3)]).bind fun r136 =>
              asAIBT r136.v fun b439 b440 b441 i210 i211 b442 =>
              bif b430 then
                (bif (i205 : Int) == (((([62] : List UInt8) ++ (([] : List UInt8) ++ s2) : List UInt8).length : Nat) : Int) then
                  (bif b427 == (((Int.tmod i1 2) : Int) != 0) then
                    (bif b428 == (s2 == ([45] : List UInt8)) then
                      (bif b429 == (s2 == ([43] : List UInt8)) then
                        (bif (i204 : Int) == i3 then
                          (bif !b434 then
                            (bif b438 then
                              (bif (i209 : Int) == 2 then
                                (bif b442 then
                                  (bif (i211 : Int) == 2 then
                                    ((R id_law07Wakes []).bind fun r137 =>
                                    asB r137.v fun b443 =>
                                    some ⟨AV.bool b443, false, []⟩)
                                  else
                                    some ⟨AV.bool false, false, []⟩)
                                else
                                  some ⟨AV.bool false, false, []⟩)
                              else
                                some ⟨AV.bool false, false, []⟩)
                            else
                              some ⟨AV.bool false, false, []⟩)
                          else
                            some ⟨AV.bool false, false, []⟩)
                        else
                          some ⟨AV.bool false, false, []⟩)
                      else
                        some ⟨AV.bool false, false, []⟩)
                    else
                      some ⟨AV.bool false, false, []⟩)
                  else
                    some ⟨AV.bool false, false, []⟩)
                else
                  some ⟨AV.bool false, false, []⟩)
              else
                some ⟨AV.bool false, false, []⟩)
            else
              need (decide (0 ≤ (0 : Int))) <|
              (s7[Int.toNat 0]?).bind fun c19 =>
              bif decide (((c19.toNat : Int) : Int) ≥ 49) then
                (need (decide (0 ≤ (0 : Int))) <|
                (s7[Int.toNat 0]?).bind fun c20 =>
                bif decide (((c20.toNat : Int) : Int) ≤ 57) then
                  (need (decide ((([32] : List UInt8) : List UInt8).length + s7.length ≤ 9223372036854775807)) <|
                  need (decide ((([62] : List UInt8) ++ (([] : List UInt8) ++ s2) : List UInt8).length + (([32] : List UInt8) ++ s7 : List UInt8).length ≤ 9223372036854775807)) <|
                  (R id_foldTakeHeader [AV.bytes ((([62] : List UInt8) ++ (([] : List UInt8) ++ s2)) ++ (([32] : List UInt8) ++ s7))]).bind fun r138 =>
                  asAIBT r138.v fun b444 b445 b446 i212 i213 b447 =>
                  need (decide ((([120] : List UInt8) : List UInt8).length + (([62] : List UInt8) ++ (([] : List UInt8) ++ s2) : List UInt8).length ≤ 9223372036854775807)) <|
                  (R id_foldTakeHeader [AV.bytes (([120] : List UInt8) ++ (([62] : List UInt8) ++ (([] : List UInt8) ++ s2)))]).bind fun r139 =>
                  asAIBT r139.v fun b448 b449 b450 i214 i215 b451 =>
                  (R id_foldTakeHeader [AV.bytes ((([124, 45, 45] : List UInt8).drop 0).take 3)]).bind fun r140 =>
                  asAIBT r140.v fun b452 b453 b454 i216 i217 b455 =>
                  (R id_foldTakeHeader [AV.bytes ((([62, 49, 50] : List UInt8).drop 0).take 3)]).bind fun r141 =>
                  asAIBT r141.v fun b456 b457 b458 i218 i219 b459 =>
                  bif b447 then
                    (bif (i213 : Int) == (((([62] : List UInt8) ++ (([] : List UInt8) ++ s2) : List UInt8).length : Nat) : Int) then
                      (bif b444 == (((Int.tmod i1 2) : Int) != 0) then
                        (bif b445 == (s2 == ([45] : List UInt8)) then
                          (bif b446 == (s2 == ([43] : List UInt8)) then
                            (bif (i212 : Int) == i3 then
                              (bif !b451 then
                                (bif b455 then
                                  (bif (i217 : Int) == 2 then
                                    (bif b459 then
                                      (bif (i219 : Int) == 2 then
                                        ((R id_law07Wakes []).bind fun r142 =>
                                        asB r142.v fun b460 =>
                                        some ⟨AV.bool b460, false, []⟩)
                                      else
                                        some ⟨AV.bool false, false, []⟩)
                                    else
                                      some ⟨AV.bool false, false, []⟩)
                                  else
                                    some ⟨AV.bool false, false, []⟩)
                                else
                                  some ⟨AV.bool false, false, []⟩)
                              else
                                some ⟨AV.bool false, false, []⟩)
                            else
                              some ⟨AV.bool false, false, []⟩)
                          else
                            some ⟨AV.bool false, false, []⟩)
                        else
                          some ⟨AV.bool false, false, []⟩)
                      else
                        some ⟨AV.bool false, false, []⟩)
                    else
                      some ⟨AV.bool false, false, []⟩)
                  else
                    some ⟨AV.bool false, false, []⟩)
                else
                  need (decide ((([62] : List UInt8) ++ (([] : List UInt8) ++ s2) : List UInt8).length + s7.length ≤ 9223372036854775807)) <|
                  (R id_foldTakeHeader [AV.bytes ((([62] : List UInt8) ++ (([] : List UInt8) ++ s2)) ++ s7)]).bind fun r143 =>
                  asAIBT r143.v fun b461 b462 b463 i220 i221 b464 =>
                  need (decide ((([120] : List UInt8) : List UInt8).length + (([62] : List UInt8) ++ (([] : List UInt8) ++ s2) : List UInt8).length ≤ 9223372036854775807)) <|
                  (R id_foldTakeHeader [AV.bytes (([120] : List UInt8) ++ (([62] : List UInt8) ++ (([] : List UInt8) ++ s2)))]).bind fun r144 =>
                  asAIBT r144.v fun b465 b466 b467 i222 i223 b468 =>
                  (R id_foldTakeHeader [AV.bytes ((([124, 45, 45] : List UInt8).drop 0).take 3)]).bind fun r145 =>
                  asAIBT r145.v fun b469 b470 b471 i224 i225 b472 =>
                  (R id_foldTakeHeader [AV.bytes ((([62, 49, 50] : List UInt8).drop 0).take 3)]).bind fun r146 =>
                  asAIBT r146.v fun b473 b474 b475 i226 i227 b476 =>
                  bif b464 then
                    (bif (i221 : Int) == (((([62] : List UInt8) ++ (([] : List UInt8) ++ s2) : List UInt8).length : Nat) : Int) then
                      (bif b461 == (((Int.tmod i1 2) : Int) != 0) then
                        (bif b462 == (s2 == ([45] : List UInt8)) then
                          (bif b463 == (s2 == ([43] : List UInt8)) then
                            (bif (i220 : Int) == i3 then
                              (bif !b468 then
                                (bif b472 then
                                  (bif (i225 : Int) == 2 then
                                    (bif b476 then
                                      (bif (i227 : Int) == 2 then
                                        ((R id_law07Wakes []).bind fun r147 =>
                                        asB r147.v fun b477 =>
                                        some ⟨AV.bool b477, false, []⟩)
                                      else
                                        some ⟨AV.bool false, false, []⟩)
                                    else
                                      some ⟨AV.bool false, false, []⟩)
                                  else
                                    some ⟨AV.bool false, false, []⟩)
                                else
                                  some ⟨AV.bool false, false, []⟩)
                              else
                                some ⟨AV.bool false, false, []⟩)
                            else
                              some ⟨AV.bool false, false, []⟩)
                          else
                            some ⟨AV.bool false, false, []⟩)
                        else
                          some ⟨AV.bool false, false, []⟩)
                      else
                        some ⟨AV.bool false, false, []⟩)
                    else
                      some ⟨AV.bool false, false, []⟩)
                  else
                    some ⟨AV.bool false, false, []⟩)
              else
                need (decide ((([62] : List UInt8) ++ (([] : List UInt8) ++ s2) : List UInt8).length + s7.length ≤ 9223372036854775807)) <|
                (R id_foldTakeHeader [AV.bytes ((([62] : List UInt8) ++ (([] : List UInt8) ++ s2)) ++ s7)]).bind fun r148 =>
                asAIBT r148.v fun b478 b479 b480 i228 i229 b481 =>
                need (decide ((([120] : List UInt8) : List UInt8).length + (([62] : List UInt8) ++ (([] : List UInt8) ++ s2) : List UInt8).length ≤ 9223372036854775807)) <|
                (R id_foldTakeHeader [AV.bytes (([120] : List UInt8) ++ (([62] : List UInt8) ++ (([] : List UInt8) ++ s2)))]).bind fun r149 =>
                asAIBT r149.v fun b482 b483 b484 i230 i231 b485 =>
                (R id_foldTakeHeader [AV.bytes ((([124, 45, 45] : List UInt8).drop 0).take 3)]).bind fun r150 =>
                asAIBT r150.v fun b486 b487 b488 i232 i233 b489 =>
                (R id_foldTakeHeader [AV.bytes ((([62, 49, 50] : List UInt8).drop 0).take 3)]).bind fun r151 =>
                asAIBT r151.v fun b490 b491 b492 i234 i235 b493 =>
                bif b481 then
                  (bif (i229 : Int) == (((([62] : List UInt8) ++ (([] : List UInt8) ++ s2) : List UInt8).length : Nat) : Int) then
                    (bif b478 == (((Int.tmod i1 2) : Int) != 0) then
                      (bif b479 == (s2 == ([45] : List UInt8)) then
                        (bif b480 == (s2 == ([43] : List UInt8)) then
                          (bif (i228 : Int) == i3 then
                            (bif !b485 then
                              (bif b489 then
                                (bif (i233 : Int) == 2 then
                                  (bif b493 then
                                    (bif (i235 : Int) == 2 then
                                      ((R id_law07Wakes []).bind fun r152 =>
                                      asB r152.v fun b494 =>
                                      some ⟨AV.bool b494, false, []⟩)
                                    else
                                      some ⟨AV.bool false, false, []⟩)
                                  else
                                    some ⟨AV.bool false, false, []⟩)
                                else
                                  some ⟨AV.bool false, false, []⟩)
                              else
                                some ⟨AV.bool false, false, []⟩)
                            else
                              some ⟨AV.bool false, false, []⟩)
                          else
                            some ⟨AV.bool false, false, []⟩)
                        else
                          some ⟨AV.bool false, false, []⟩)
                      else
                        some ⟨AV.bool false, false, []⟩)
                    else
                      some ⟨AV.bool false, false, []⟩)
                  else
                    some ⟨AV.bool false, false, []⟩)
                else
                  some ⟨AV.bool false, false, []⟩)
        else
          need (decide ((([62] : List UInt8) ++ (([] : List UInt8) ++ s2) : List UInt8).length + s7.length ≤ 9223372036854775807)) <|
          (R id_foldTakeHeader [AV.bytes ((([62] : List UInt8) ++ (([] : List UInt8) ++ s2)) ++ s7)]).bind fun r153 =>
          asAIBT r153.v fun b495 b496 b497 i236 i237 b498 =>
          need (decide ((([120] : List UInt8) : List UInt8).length + (([62] : List UInt8) ++ (([] : List UInt8) ++ s2) : List UInt8).length ≤ 9223372036854775807)) <|
          (R id_foldTakeHeader [AV.bytes (([120] : List UInt8) ++ (([62] : List UInt8) ++ (([] : List UInt8) ++ s2)))]).bind fun r154 =>
          asAIBT r154.v fun b499 b500 b501 i238 i239 b502 =>
          (R id_foldTakeHeader [AV.bytes ((([124, 45, 45] : List UInt8).drop 0).take 3)]).bind fun r155 =>
          asAIBT r155.v fun b503 b504 b505 i240 i241 b506 =>
          (R id_foldTakeHeader [AV.bytes ((([62, 49, 50] : List UInt8).drop 0).take 3)]).bind fun r156 =>
          asAIBT r156.v fun b507 b508 b509 i242 i243 b510 =>
          bif b498 then
            (bif (i237 : Int) == (((([62] : List UInt8) ++ (([] : List UInt8) ++ s2) : List UInt8).length : Nat) : Int) then
              (bif b495 == (((Int.tmod i1 2) : Int) != 0) then
                (bif b496 == (s2 == ([45] : List UInt8)) then
                  (bif b497 == (s2 == ([43] : List UInt8)) then
                    (bif (i236 : Int) == i3 then
                      (bif !b502 then
                        (bif b506 then
                          (bif (i241 : Int) == 2 then
                            (bif b510 then
                              (bif (i243 : Int) == 2 then
                                ((R id_law07Wakes []).bind fun r157 =>
                                asB r157.v fun b511 =>
                                some ⟨AV.bool b511, false, []⟩)
                              else
                                some ⟨AV.bool false, false, []⟩)
                            else
                              some ⟨AV.bool false, false, []⟩)
                          else
                            some ⟨AV.bool false, false, []⟩)
                        else
                          some ⟨AV.bool false, false, []⟩)
                      else
                        some ⟨AV.bool false, false, []⟩)
                    else
                      some ⟨AV.bool false, false, []⟩)
                  else
                    some ⟨AV.bool false, false, []⟩)
                else
                  some ⟨AV.bool false, false, []⟩)
              else
                some ⟨AV.bool false, false, []⟩)
            else
              some ⟨AV.bool false, false, []⟩)
          else
            some ⟨AV.bool false, false, []⟩)
      else
        need (decide ((([] : List UInt8) : List UInt8).length + s2.length ≤ 9223372036854775807)) <|
        need (decide ((([124] : List UInt8) : List UInt8).length + (([] : List UInt8) ++ s2 : List UInt8).length ≤ 9223372036854775807)) <|
        (R id_keepText [AV.str s1, AV.int .i64 5]).bind fun r158 =>
        asS r158.v fun s8 =>
        bif decide ((((s8.length : Nat) : Int) : Int) > 0) then
          (need (decide (0 ≤ (0 : Int))) <|
          (s8[Int.toNat 0]?).bind fun c21 =>
          bif ((c21.toNat : Int) : Int) == 45 then
            (need (decide ((([32] : List UInt8) : List UInt8).length + s8.length ≤ 9223372036854775807)) <|
            need (decide ((([124] : List UInt8) ++ (([] : List UInt8) ++ s2) : List UInt8).length + (([32] : List UInt8) ++ s8 : List UInt8).length ≤ 9223372036854775807)) <|
            (R id_foldTakeHeader [AV.bytes ((([124] : List UInt8) ++ (([] : List UInt8) ++ s2)) ++ (([32] : List UInt8) ++ s8))]).bind fun r159 =>
            asAIBT r159.v fun b512 b513 b514 i244 i245 b515 =>
            need (decide ((([120] : List UInt8) : List UInt8).length + (([124] : List UInt8) ++ (([] : List UInt8) ++ s2) : List UInt8).length ≤ 9223372036854775807)) <|
            (R id_foldTakeHeader [AV.bytes (([120] : List UInt8) ++ (([124] : List UInt8) ++ (([] : List UInt8) ++ s2)))]).bind fun r160 =>
            asAIBT r160.v fun b516 b517 b518 i246 i247 b519 =>
            (R id_foldTakeHeader [AV.bytes ((([124, 45, 45] : List UInt8).drop 0).take 3)]).bind fun r161 =>
            asAIBT r161.v fun b520 b521 b522 i248 i249 b523 =>
            (R id_foldTakeHeader [AV.bytes ((([62, 49, 50] : List UInt8).drop 0).take 3)]).bind fun r162 =>
            asAIBT r162.v fun b524 b525 b526 i250 i251 b527 =>
            bif b515 then
              (bif (i245 : Int) == (((([124] : List UInt8) ++ (([] : List UInt8) ++ s2) : List UInt8).length : Nat) : Int) then
                (bif b512 == (((Int.tmod i1 2) : Int) != 0) then
                  (bif b513 == (s2 == ([45] : List UInt8)) then
                    (bif b514 == (s2 == ([43] : List UInt8)) then
                      (bif (i244 : Int) == i3 then
                        (bif !b519 then
                          (bif b523 then
                            (bif (i249 : Int) == 2 then
                              (bif b527 then
                                (bif (i251 : Int) == 2 then
                                  ((R id_law07Wakes []).bind fun r163 =>
                                  asB r163.v fun b528 =>
                                  some ⟨AV.bool b528, false, []⟩)
                                else
                                  some ⟨AV.bool false, false, []⟩)
                              else
                                some ⟨AV.bool false, false, []⟩)
                            else
                              some ⟨AV.bool false, false, []⟩)
                          else
                            some ⟨AV.bool false, false, []⟩)
                        else
                          some ⟨AV.bool false, false, []⟩)
                      else
                        some ⟨AV.bool false, false, []⟩)
                    else
                      some ⟨AV.bool false, false, []⟩)
                  else
                    some ⟨AV.bool false, false, []⟩)
                else
                  some ⟨AV.bool false, false, []⟩)
              else
                some ⟨AV.bool false, false, []⟩)
            else
              some ⟨AV.bool false, false, []⟩)
          else
            need (decide (0 ≤ (0 : Int))) <|
            (s8[Int.toNat 0]?).bind fun c22 =>
            bif ((c22.toNat : Int) : Int) == 43 then
              (need (decide ((([32] : List UInt8) : List UInt8).length + s8.length ≤ 9223372036854775807)) <|
              need (decide ((([124] : List UInt8) ++ (([] : List UInt8) ++ s2) : List UInt8).length + (([32] : List UInt8) ++ s8 : List UInt8).length ≤ 9223372036854775807)) <|
              (R id_foldTakeHeader [AV.bytes ((([124] : List UInt8) ++ (([] : List UInt8) ++ s2)) ++ (([32] : List UInt8) ++ s8))]).bind fun r164 =>
              asAIBT r164.v fun b529 b530 b531 i252 i253 b532 =>
              need (decide ((([120] : List UInt8) : List UInt8).length + (([124] : List UInt8) ++ (([] : List UInt8) ++ s2) : List UInt8).length ≤ 9223372036854775807)) <|
              (R id_foldTakeHeader [AV.bytes (([120] : List UInt8) ++ (([124] : List UInt8) ++ (([] : List UInt8) ++ s2)))]).bind fun r165 =>
              asAIBT r165.v fun b533 b534 b535 i254 i255 b536 =>
              (R id_foldTakeHeader [AV.bytes ((([124, 45, 45] : List UInt8).drop 0).take 3)]).bind fun r166 =>
              asAIBT r166.v fun b537 b538 b539 i256 i257 b540 =>
              (R id_foldTakeHeader [AV.bytes ((([62, 49, 50] : List UInt8).drop 0).take 3)]).bind fun r167 =>
              asAIBT r167.v fun b541 b542 b543 i258 i259 b544 =>
              bif b532 then
                (bif (i253 : Int) == (((([124] : List UInt8) ++ (([] : List UInt8) ++ s2) : List UInt8).length : Nat) : Int) then
                  (bif b529 == (((Int.tmod i1 2) : Int) != 0) then
                    (bif b530 == (s2 == ([45] : List UInt8)) then
                      (bif b531 == (s2 == ([43] : List UInt8)) then
                        (bif (i252 : Int) == i3 then
                          (bif !b536 then
                            (bif b540 then
                              (bif (i257 : Int) == 2 then
                                (bif b544 then
                                  (bif (i259 : Int) == 2 then
                                    ((R id_law07Wakes []).bind fun r168 =>
                                    asB r168.v fun b545 =>
                                    some ⟨AV.bool b545, false, []⟩)
                                  else
                                    some ⟨AV.bool false, false, []⟩)
                                else
                                  some ⟨AV.bool false, false, []⟩)
                              else
                                some ⟨AV.bool false, false, []⟩)
                            else
                              some ⟨AV.bool false, false, []⟩)
                          else
                            some ⟨AV.bool false, false, []⟩)
                        else
                          some ⟨AV.bool false, false, []⟩)
                      else
                        some ⟨AV.bool false, false, []⟩)
                    else
                      some ⟨AV.bool false, false, []⟩)
                  else
                    some ⟨AV.bool false, false, []⟩)
                else
                  some ⟨AV.bool false, false, []⟩)
              else
                some ⟨AV.bool false, false, []⟩)
            else
              need (decide (0 ≤ (0 : Int))) <|
              (s8[Int.toNat 0]?).bind fun c23 =>
              bif decide (((c23.toNat : Int) : Int) ≥ 49) then
                (need (decide (0 ≤ (0 : Int))) <|
                (s8[Int.toNat 0]?).bind fun c24 =>
                bif decide (((c24.toNat : Int) : Int) ≤ 57) then
                  (need (decide ((([32] : List UInt8) : List UInt8).length + s8.length ≤ 9223372036854775807)) <|
                  need (decide ((([124] : List UInt8) ++ (([] : List UInt8) ++ s2) : List UInt8).length + (([32] : List UInt8) ++ s8 : List UInt8).length ≤ 9223372036854775807)) <|
                  (R id_foldTakeHeader [AV.bytes ((([124] : List UInt8) ++ (([] : List UInt8) ++ s2)) ++ (([32] : List UInt8) ++ s8))]).bind fun r169 =>
                  asAIBT r169.v fun b546 b547 b548 i260 i261 b549 =>
                  need (decide ((([120] : List UInt8) : List UInt8).length + (([124] : List UInt8) ++ (([] : List UInt8) ++ s2) : List UInt8).length ≤ 9223372036854775807)) <|
                  (R id_foldTakeHeader [AV.bytes (([120] : List UInt8) ++ (([124] : List UInt8) ++ (([] : List UInt8) ++ s2)))]).bind fun r170 =>
                  asAIBT r170.v fun b550 b551 b552 i262 i263 b553 =>
                  (R id_foldTakeHeader [AV.bytes ((([124, 45, 45] : List UInt8).drop 0).take 3)]).bind fun r171 =>
                  asAIBT r171.v fun b554 b555 b556 i264 i265 b557 =>
                  (R id_foldTakeHeader [AV.bytes ((([62, 49, 50] : List UInt8).drop 0).take 3)]).bind fun r172 =>
                  asAIBT r172.v fun b558 b559 b560 i266 i267 b561 =>
                  bif b549 then
                    (bif (i261 : Int) == (((([124] : List UInt8) ++ (([] : List UInt8) ++ s2) : List UInt8).length : Nat) : Int) then
                      (bif b546 == (((Int.tmod i1 2) : Int) != 0) then
                        (bif b547 == (s2 == ([45] : List UInt8)) then
                          (bif b548 == (s2 == ([43] : List UInt8)) then
                            (bif (i260 : Int) == i3 then
                              (bif !b553 then
                                (bif b557 then
                                  (bif (i265 : Int) == 2 then
                                    (bif b561 then
                                      (bif (i267 : Int) == 2 then
                                        ((R id_law07Wakes []).bind fun r173 =>
                                        asB r173.v fun b562 =>
                                        some ⟨AV.bool b562, false, []⟩)
                                      else
                                        some ⟨AV.bool false, false, []⟩)
                                    else
                                      some ⟨AV.bool false, false, []⟩)
                                  else
                                    some ⟨AV.bool false, false, []⟩)
                                else
                                  some ⟨AV.bool false, false, []⟩)
                              else
                                some ⟨AV.bool false, false, []⟩)
                            else
                              some ⟨AV.bool false, false, []⟩)
                          else
                            some ⟨AV.bool false, false, []⟩)
                        else
                          some ⟨AV.bool false, false, []⟩)
                      else
                        some ⟨AV.bool false, false, []⟩)
                    else
                      some ⟨AV.bool false, false, []⟩)
                  else
                    some ⟨AV.bool false, false, []⟩)
                else
                  need (decide ((([124] : List UInt8) ++ (([] : List UInt8) ++ s2) : List UInt8).length + s8.length ≤ 9223372036854775807)) <|
                  (R id_foldTakeHeader [AV.bytes ((([124] : List UInt8) ++ (([] : List UInt8) ++ s2)) ++ s8)]).bind fun r174 =>
                  asAIBT r174.v fun b563 b564 b565 i268 i269 b566 =>
                  need (decide ((([120] : List UInt8) : List UInt8).length + (([124] : List UInt8) ++ (([] : List UInt8) ++ s2) : List UInt8).length ≤ 9223372036854775807)) <|
                  (R id_foldTakeHeader [AV.bytes (([120] : List UInt8) ++ (([124] : List UInt8) ++ (([] : List UInt8) ++ s2)))]).bind fun r175 =>
                  asAIBT r175.v fun b567 b568 b569 i270 i271 b570 =>
                  (R id_foldTakeHeader [AV.bytes ((([124, 45, 45] : List UInt8).drop 0).take 3)]).bind fun r176 =>
                  asAIBT r176.v fun b571 b572 b573 i272 i273 b574 =>
                  (R id_foldTakeHeader [AV.bytes ((([62, 49, 50] : List UInt8).drop 0).take 3)]).bind fun r177 =>
                  asAIBT r177.v fun b575 b576 b577 i274 i275 b578 =>
                  bif b566 then
                    (bif (i269 : Int) == (((([124] : List UInt8) ++ (([] : List UInt8) ++ s2) : List UInt8).length : Nat) : Int) then
                      (bif b563 == (((Int.tmod i1 2) : Int) != 0) then
                        (bif b564 == (s2 == ([45] : List UInt8)) then
                          (bif b565 == (s2 == ([43] : List UInt8)) then
                            (bif (i268 : Int) == i3 then
                              (bif !b570 then
                                (bif b574 then
                                  (bif (i273 : Int) == 2 then
                                    (bif b578 then
                                      (bif (i275 : Int) == 2 then
                                        ((R id_law07Wakes []).bind fun r178 =>
                                        asB r178.v fun b579 =>
                                        some ⟨AV.bool b579, false, []⟩)
                                      else
                                        some ⟨AV.bool false, false, []⟩)
                                    else
                                      some ⟨AV.bool false, false, []⟩)
                                  else
                                    some ⟨AV.bool false, false, []⟩)
                                else
                                  some ⟨AV.bool false, false, []⟩)
                              else
                                some ⟨AV.bool false, false, []⟩)
                            else
                              some ⟨AV.bool false, false, []⟩)
                          else
                            some ⟨AV.bool false, false, []⟩)
                        else
                          some ⟨AV.bool false, false, []⟩)
                      else
                        some ⟨AV.bool false, false, []⟩)
                    else
                      some ⟨AV.bool false, false, []⟩)
                  else
                    some ⟨AV.bool false, false, []⟩)
              else
                need (decide ((([124] : List UInt8) ++ (([] : List UInt8) ++ s2) : List UInt8).length + s8.length ≤ 9223372036854775807)) <|
                (R id_foldTakeHeader [AV.bytes ((([124] : List UInt8) ++ (([] : List UInt8) ++ s2)) ++ s8)]).bind fun r179 =>
                asAIBT r179.v fun b580 b581 b582 i276 i277 b583 =>
                need (decide ((([120] : List UInt8) : List UInt8).length + (([124] : List UInt8) ++ (([] : List UInt8) ++ s2) : List UInt8).length ≤ 9223372036854775807)) <|
                (R id_foldTakeHeader [AV.bytes (([120] : List UInt8) ++ (([124] : List UInt8) ++ (([] : List UInt8) ++ s2)))]).bind fun r180 =>
                asAIBT r180.v fun b584 b585 b586 i278 i279 b587 =>
                (R id_foldTakeHeader [AV.bytes ((([124, 45, 45] : List UInt8).drop 0).take 3)]).bind fun r181 =>
                asAIBT r181.v fun b588 b589 b590 i280 i281 b591 =>
                (R id_foldTakeHeader [AV.bytes ((([62, 49, 50] : List UInt8).drop 0).take 3)]).bind fun r182 =>
                asAIBT r182.v fun b592 b593 b594 i282 i283 b595 =>
                bif b583 then
                  (bif (i277 : Int) == (((([124] : List UInt8) ++ (([] : List UInt8) ++ s2) : List UInt8).length : Nat) : Int) then
                    (bif b580 == (((Int.tmod i1 2) : Int) != 0) then
                      (bif b581 == (s2 == ([45] : List UInt8)) then
                        (bif b582 == (s2 == ([43] : List UInt8)) then
                          (bif (i276 : Int) == i3 then
                            (bif !b587 then
                              (bif b591 then
                                (bif (i281 : Int) == 2 then
                                  (bif b595 then
                                    (bif (i283 : Int) == 2 then
                                      ((R id_law07Wakes []).bind fun r183 =>
                                      asB r183.v fun b596 =>
                                      some ⟨AV.bool b596, false, []⟩)
                                    else
                                      some ⟨AV.bool false, false, []⟩)
                                  else
                                    some ⟨AV.bool false, false, []⟩)
                                else
                                  some ⟨AV.bool false, false, []⟩)
                              else
                                some ⟨AV.bool false, false, []⟩)
                            else
                              some ⟨AV.bool false, false, []⟩)
                          else
                            some ⟨AV.bool false, false, []⟩)
                        else
                          some ⟨AV.bool false, false, []⟩)
                      else
                        some ⟨AV.bool false, false, []⟩)
                    else
                      some ⟨AV.bool false, false, []⟩)
                  else
                    some ⟨AV.bool false, false, []⟩)
                else
                  some ⟨AV.bool false, false, []⟩)
        else
          need (decide ((([124] : List UInt8) ++ (([] : List UInt8) ++ s2) : List UInt8).length + s8.length ≤ 9223372036854775807)) <|
          (R id_foldTakeHeader [AV.bytes ((([124] : List UInt8) ++ (([] : List UInt8) ++ s2)) ++ s8)]).bind fun r184 =>
          asAIBT r184.v fun b597 b598 b599 i284 i285 b600 =>
          need (decide ((([120] : List UInt8) : List UInt8).length + (([124] : List UInt8) ++ (([] : List UInt8) ++ s2) : List UInt8).length ≤ 9223372036854775807)) <|
          (R id_foldTakeHeader [AV.bytes (([120] : List UInt8) ++ (([124] : List UInt8) ++ (([] : List UInt8) ++ s2)))]).bind fun r185 =>
          asAIBT r185.v fun b601 b602 b603 i286 i287 b604 =>
          (R id_foldTakeHeader [AV.bytes ((([124, 45, 45] : List UInt8).drop 0).take 3)]).bind fun r186 =>
          asAIBT r186.v fun b605 b606 b607 i288 i289 b608 =>
          (R id_foldTakeHeader [AV.bytes ((([62, 49, 50] : List UInt8).drop 0).take 3)]).bind fun r187 =>
          asAIBT r187.v fun b609 b610 b611 i290 i291 b612 =>
          bif b600 then
            (bif (i285 : Int) == (((([124] : List UInt8) ++ (([] : List UInt8) ++ s2) : List UInt8).length : Nat) : Int) then
              (bif b597 == (((Int.tmod i1 2) : Int) != 0) then
                (bif b598 == (s2 == ([45] : List UInt8)) then
                  (bif b599 == (s2 == ([43] : List UInt8)) then
                    (bif (i284 : Int) == i3 then
                      (bif !b604 then
                        (bif b608 then
                          (bif (i289 : Int) == 2 then
                            (bif b612 then
                              (bif (i291 : Int) == 2 then
                                ((R id_law07Wakes []).bind fun r188 =>
                                asB r188.v fun b613 =>
                                some ⟨AV.bool b613, false, []⟩)
                              else
                                some ⟨AV.bool false, false, []⟩)
                            else
                              some ⟨AV.bool false, false, []⟩)
                          else
                            some ⟨AV.bool false, false, []⟩)
                        else
                          some ⟨AV.bool false, false, []⟩)
                      else
                        some ⟨AV.bool false, false, []⟩)
                    else
                      some ⟨AV.bool false, false, []⟩)
                  else
                    some ⟨AV.bool false, false, []⟩)
                else
                  some ⟨AV.bool false, false, []⟩)
              else
                some ⟨AV.bool false, false, []⟩)
            else
              some ⟨AV.bool false, false, []⟩)
          else
            some ⟨AV.bool false, false, []⟩)
    else
      bif ((Int.tmod i1 2) : Int) != 0 then
        (need (decide (s2.length + (([] : List UInt8) : List UInt8).length ≤ 9223372036854775807)) <|
        need (decide ((([62] : List UInt8) : List UInt8).length + (s2 ++ ([] : List UInt8)).length ≤ 9223372036854775807)) <|
        (R id_keepText [AV.str s1, AV.int .i64 5]).bind fun r189 =>
        asS r189.v fun s9 =>
        bif decide ((((s9.length : Nat) : Int) : Int) > 0) then
          (need (decide (0 ≤ (0 : Int))) <|
          (s9[Int.toNat 0]?).bind fun c25 =>
          bif ((c25.toNat : Int) : Int) == 45 then
            (need (decide ((([32] : List UInt8) : List UInt8).length + s9.length ≤ 9223372036854775807)) <|
            need (decide ((([62] : List UInt8) ++ (s2 ++ ([] : List UInt8)) : List UInt8).length + (([32] : List UInt8) ++ s9 : List UInt8).length ≤ 9223372036854775807)) <|
            (R id_foldTakeHeader [AV.bytes ((([62] : List UInt8) ++ (s2 ++ ([] : List UInt8))) ++ (([32] : List UInt8) ++ s9))]).bind fun r190 =>
            asAIBT r190.v fun b614 b615 b616 i292 i293 b617 =>
            need (decide ((([120] : List UInt8) : List UInt8).length + (([62] : List UInt8) ++ (s2 ++ ([] : List UInt8)) : List UInt8).length ≤ 9223372036854775807)) <|
            (R id_foldTakeHeader [AV.bytes (([120] : List UInt8) ++ (([62] : List UInt8) ++ (s2 ++ ([] : List UInt8))))]).bind fun r191 =>
            asAIBT r191.v fun b618 b619 b620 i294 i295 b621 =>
            (R id_foldTakeHeader [AV.bytes ((([124, 45, 45] : List UInt8).drop 0).take 3)]).bind fun r192 =>
            asAIBT r192.v fun b622 b623 b624 i296 i297 b625 =>
            (R id_foldTakeHeader [AV.bytes ((([62, 49, 50] : List UInt8).drop 0).take 3)]).bind fun r193 =>
            asAIBT r193.v fun b626 b627 b628 i298 i299 b629 =>
            bif b617 then
              (bif (i293 : Int) == (((([62] : List UInt8) ++ (s2 ++ ([] : List UInt8)) : List UInt8).length : Nat) : Int) then
                (bif b614 == (((Int.tmod i1 2) : Int) != 0) then
                  (bif b615 == (s2 == ([45] : List UInt8)) then
                    (bif b616 == (s2 == ([43] : List UInt8)) then
                      (bif (i292 : Int) == i3 then
                        (bif !b621 then
                          (bif b625 then
                            (bif (i297 : Int) == 2 then
                              (bif b629 then
                                (bif (i299 : Int) == 2 then
                                  ((R id_law07Wakes []).bind fun r194 =>
                                  asB r194.v fun b630 =>
                                  some ⟨AV.bool b630, false, []⟩)
                                else
                                  some ⟨AV.bool false, false, []⟩)
                              else
                                some ⟨AV.bool false, false, []⟩)
                            else
                              some ⟨AV.bool false, false, []⟩)
                          else
                            some ⟨AV.bool false, false, []⟩)
                        else
                          some ⟨AV.bool false, false, []⟩)
                      else
                        some ⟨AV.bool false, false, []⟩)
                    else
                      some ⟨AV.bool false, false, []⟩)
                  else
                    some ⟨AV.bool false, false, []⟩)
                else
                  some ⟨AV.bool false, false, []⟩)
              else
                some ⟨AV.bool false, false, []⟩)
            else
              some ⟨AV.bool false, false, []⟩)
          else
            need (decide (0 ≤ (0 : Int))) <|
            (s9[Int.toNat 0]?).bind fun c26 =>
            bif ((c26.toNat : Int) : Int) == 43 then
              (need (decide ((([32] : List UInt8) : List UInt8).length + s9.length ≤ 9223372036854775807)) <|
              need (decide ((([62] : List UInt8) ++ (s2 ++ ([] : List UInt8)) : List UInt8).length + (([32] : List UInt8) ++ s9 : List UInt8).length ≤ 9223372036854775807)) <|
              (R id_foldTakeHeader [AV.bytes ((([62] : List UInt8) ++ (s2 ++ ([] : List UInt8))) ++ (([32] : List UInt8) ++ s9))]).bind fun r195 =>
              asAIBT r195.v fun b631 b632 b633 i300 i301 b634 =>
              need (decide ((([120] : List UInt8) : List UInt8).length + (([62] : List UInt8) ++ (s2 ++ ([] : List UInt8)) : List UInt8).length ≤ 9223372036854775807)) <|
              (R id_foldTakeHeader [AV.bytes (([120] : List UInt8) ++ (([62] : List UInt8) ++ (s2 ++ ([] : List UInt8))))]).bind fun r196 =>
              asAIBT r196.v fun b635 b636 b637 i302 i303 b638 =>
              (R id_foldTakeHeader [AV.bytes ((([124, 45, 45] : List UInt8).drop 0).take 3)]).bind fun r197 =>
              asAIBT r197.v fun b639 b640 b641 i304 i305 b642 =>
              (R id_foldTakeHeader [AV.bytes ((([62, 49, 50] : List UInt8).drop 0).take 3)]).bind fun r198 =>
              asAIBT r198.v fun b643 b644 b645 i306 i307 b646 =>
              bif b634 then
                (bif (i301 : Int) == (((([62] : List UInt8) ++ (s2 ++ ([] : List UInt8)) : List UInt8).length : Nat) : Int) then
                  (bif b631 == (((Int.tmod i1 2) : Int) != 0) then
                    (bif b632 == (s2 == ([45] : List UInt8)) then
                      (bif b633 == (s2 == ([43] : List UInt8)) then
                        (bif (i300 : Int) == i3 then
                          (bif !b638 then
                            (bif b642 then
                              (bif (i305 : Int) == 2 then
                                (bif b646 then
                                  (bif (i307 : Int) == 2 then
                                    ((R id_law07Wakes []).bind fun r199 =>
                                    asB r199.v fun b647 =>
                                    some ⟨AV.bool b647, false, []⟩)
                                  else
                                    some ⟨AV.bool false, false, []⟩)
                                else
                                  some ⟨AV.bool false, false, []⟩)
                              else
                                some ⟨AV.bool false, false, []⟩)
                            else
                              some ⟨AV.bool false, false, []⟩)
                          else
                            some ⟨AV.bool false, false, []⟩)
                        else
                          some ⟨AV.bool false, false, []⟩)
                      else
                        some ⟨AV.bool false, false, []⟩)
                    else
                      some ⟨AV.bool false, false, []⟩)
                  else
                    some ⟨AV.bool false, false, []⟩)
                else
                  some ⟨AV.bool false, false, []⟩)
              else
                some ⟨AV.bool false, false, []⟩)
            else
              need (decide (0 ≤ (0 : Int))) <|
              (s9[Int.toNat 0]?).bind fun c27 =>
              bif decide (((c27.toNat : Int) : Int) ≥ 49) then
                (need (decide (0 ≤ (0 : Int))) <|
                (s9[Int.toNat 0]?).bind fun c28 =>
                bif decide (((c28.toNat : Int) : Int) ≤ 57) then
                  (need (decide ((([32] : List UInt8) : List UInt8).length + s9.length ≤ 9223372036854775807)) <|
                  need (decide ((([62] : List UInt8) ++ (s2 ++ ([] : List UInt8)) : List UInt8).length + (([32] : List UInt8) ++ s9 : List UInt8).length ≤ 9223372036854775807)) <|
                  (R id_foldTakeHeader [AV.bytes ((([62] : List UInt8) ++ (s2 ++ ([] : List UInt8))) ++ (([32] : List UInt8) ++ s9))]).bind fun r200 =>
                  asAIBT r200.v fun b648 b649 b650 i308 i309 b651 =>
                  need (decide ((([120] : List UInt8) : List UInt8).length + (([62] : List UInt8) ++ (s2 ++ ([] : List UInt8)) : List UInt8).length ≤ 9223372036854775807)) <|
                  (R id_foldTakeHeader [AV.bytes (([120] : List UInt8) ++ (([62] : List UInt8) ++ (s2 ++ ([] : List UInt8))))]).bind fun r201 =>
                  asAIBT r201.v fun b652 b653 b654 i310 i311 b655 =>
                  (R id_foldTakeHeader [AV.bytes ((([124, 45, 45] : List UInt8).drop 0).take 3)]).bind fun r202 =>
                  asAIBT r202.v fun b656 b657 b658 i312 i313 b659 =>
                  (R id_foldTakeHeader [AV.bytes ((([62, 49, 50] : List UInt8).drop 0).take 3)]).bind fun r203 =>
                  asAIBT r203.v fun b660 b661 b662 i314 i315 b663 =>
                  bif b651 then
                    (bif (i309 : Int) == (((([62] : List UInt8) ++ (s2 ++ ([] : List UInt8)) : List UInt8).length : Nat) : Int) then
                      (bif b648 == (((Int.tmod i1 2) : Int) != 0) then
                        (bif b649 == (s2 == ([45] : List UInt8)) then
                          (bif b650 == (s2 == ([43] : List UInt8)) then
                            (bif (i308 : Int) == i3 then
                              (bif !b655 then
                                (bif b659 then
                                  (bif (i313 : Int) == 2 then
                                    (bif b663 then
                                      (bif (i315 : Int) == 2 then
                                        ((R id_law07Wakes []).bind fun r204 =>
                                        asB r204.v fun b664 =>
                                        some ⟨AV.bool b664, false, []⟩)
                                      else
                                        some ⟨AV.bool false, false, []⟩)
                                    else
                                      some ⟨AV.bool false, false, []⟩)
                                  else
                                    some ⟨AV.bool false, false, []⟩)
                                else
                                  some ⟨AV.bool false, false, []⟩)
                              else
                                some ⟨AV.bool false, false, []⟩)
                            else
                              some ⟨AV.bool false, false, []⟩)
                          else
                            some ⟨AV.bool false, false, []⟩)
                        else
                          some ⟨AV.bool false, false, []⟩)
                      else
                        some ⟨AV.bool false, false, []⟩)
                    else
                      some ⟨AV.bool false, false, []⟩)
                  else
                    some ⟨AV.bool false, false, []⟩)
                else
                  need (decide ((([62] : List UInt8) ++ (s2 ++ ([] : List UInt8)) : List UInt8).length + s9.length ≤ 9223372036854775807)) <|
                  (R id_foldTakeHeader [AV.bytes ((([62] : List UInt8) ++ (s2 ++ ([] : List UInt8))) ++ s9)]).bind fun r205 =>
                  asAIBT r205.v fun b665 b666 b667 i316 i317 b668 =>
                  need (decide ((([120] : List UInt8) : List UInt8).length + (([62] : List UInt8) ++ (s2 ++ ([] : List UInt8)) : List UInt8).length ≤ 9223372036854775807)) <|
                  (R id_foldTakeHeader [AV.bytes (([120] : List UInt8) ++ (([62] : List UInt8) ++ (s2 ++ ([] : List UInt8))))]).bind fun r206 =>
                  asAIBT r206.v fun b669 b670 b671 i318 i319 b672 =>
                  (R id_foldTakeHeader [AV.bytes ((([124, 45, 45] : List UInt8).drop 0).take 3)]).bind fun r207 =>
                  asAIBT r207.v fun b673 b674 b675 i320 i321 b676 =>
                  (R id_foldTakeHeader [AV.bytes ((([62, 49, 50] : List UInt8).drop 0).take 3)]).bind fun r208 =>
                  asAIBT r208.v fun b677 b678 b679 i322 i323 b680 =>
                  bif b668 then
                    (bif (i317 : Int) == (((([62] : List UInt8) ++ (s2 ++ ([] : List UInt8)) : List UInt8).length : Nat) : Int) then
                      (bif b665 == (((Int.tmod i1 2) : Int) != 0) then
                        (bif b666 == (s2 == ([45] : List UInt8)) then
                          (bif b667 == (s2 == ([43] : List UInt8)) then
                            (bif (i316 : Int) == i3 then
                              (bif !b672 then
                                (bif b676 then
                                  (bif (i321 : Int) == 2 then
                                    (bif b680 then
                                      (bif (i323 : Int) == 2 then
                                        ((R id_law07Wakes []).bind fun r209 =>
                                        asB r209.v fun b681 =>
                                        some ⟨AV.bool b681, false, []⟩)
                                      else
                                        some ⟨AV.bool false, false, []⟩)
                                    else
                                      some ⟨AV.bool false, false, []⟩)
                                  else
                                    some ⟨AV.bool false, false, []⟩)
                                else
                                  some ⟨AV.bool false, false, []⟩)
                              else
                                some ⟨AV.bool false, false, []⟩)
                            else
                              some ⟨AV.bool false, false, []⟩)
                          else
                            some ⟨AV.bool false, false, []⟩)
                        else
                          some ⟨AV.bool false, false, []⟩)
                      else
                        some ⟨AV.bool false, false, []⟩)
                    else
                      some ⟨AV.bool false, false, []⟩)
                  else
                    some ⟨AV.bool false, false, []⟩)
              else
                need (decide ((([62] : List UInt8) ++ (s2 ++ ([] : List UInt8)) : List UInt8).length + s9.length ≤ 9223372036854775807)) <|
                (R id_foldTakeHeader [AV.bytes ((([62] : List UInt8) ++ (s2 ++ ([] : List UInt8))) ++ s9)]).bind fun r210 =>
                asAIBT r210.v fun b682 b683 b684 i324 i325 b685 =>
                need (decide ((([120] : List UInt8) : List UInt8).length + (([62] : List UInt8) ++ (s2 ++ ([] : List UInt8)) : List UInt8).length ≤ 9223372036854775807)) <|
                (R id_foldTakeHeader [AV.bytes (([120] : List UInt8) ++ (([62] : List UInt8) ++ (s2 ++ ([] : List UInt8))))]).bind fun r211 =>
                asAIBT r211.v fun b686 b687 b688 i326 i327 b689 =>
                (R id_foldTakeHeader [AV.bytes ((([124, 45, 45] : List UInt8).drop 0).take 3)]).bind fun r212 =>
                asAIBT r212.v fun b690 b691 b692 i328 i329 b693 =>
                (R id_foldTakeHeader [AV.bytes ((([62, 49, 50] : List UInt8).drop 0).take 3)]).bind fun r213 =>
                asAIBT r213.v fun b694 b695 b696 i330 i331 b697 =>
                bif b685 then
                  (bif (i325 : Int) == (((([62] : List UInt8) ++ (s2 ++ ([] : List UInt8)) : List UInt8).length : Nat) : Int) then
                    (bif b682 == (((Int.tmod i1 2) : Int) != 0) then
                      (bif b683 == (s2 == ([45] : List UInt8)) then
                        (bif b684 == (s2 == ([43] : List UInt8)) then
                          (bif (i324 : Int) == i3 then
                            (bif !b689 then
                              (bif b693 then
                                (bif (i329 : Int) == 2 then
                                  (bif b697 then
                                    (bif (i331 : Int) == 2 then
                                      ((R id_law07Wakes []).bind fun r214 =>
                                      asB r214.v fun b698 =>
                                      some ⟨AV.bool b698, false, []⟩)
                                    else
                                      some ⟨AV.bool false, false, []⟩)
                                  else
                                    some ⟨AV.bool false, false, []⟩)
                                else
                                  some ⟨AV.bool false, false, []⟩)
                              else
                                some ⟨AV.bool false, false, []⟩)
                            else
                              some ⟨AV.bool false, false, []⟩)
                          else
                            some ⟨AV.bool false, false, []⟩)
                        else
                          some ⟨AV.bool false, false, []⟩)
                      else
                        some ⟨AV.bool false, false, []⟩)
                    else
                      some ⟨AV.bool false, false, []⟩)
                  else
                    some ⟨AV.bool false, false, []⟩)
                else
                  some ⟨AV.bool false, false, []⟩)
        else
          need (decide ((([62] : List UInt8) ++ (s2 ++ ([] : List UInt8)) : List UInt8).length + s9.length ≤ 9223372036854775807)) <|
          (R id_foldTakeHeader [AV.bytes ((([62] : List UInt8) ++ (s2 ++ ([] : List UInt8))) ++ s9)]).bind fun r215 =>
          asAIBT r215.v fun b699 b700 b701 i332 i333 b702 =>
          need (decide ((([120] : List UInt8) : List UInt8).length + (([62] : List UInt8) ++ (s2 ++ ([] : List UInt8)) : List UInt8).length ≤ 9223372036854775807)) <|
          (R id_foldTakeHeader [AV.bytes (([120] : List UInt8) ++ (([62] : List UInt8) ++ (s2 ++ ([] : List UInt8))))]).bind fun r216 =>
          asAIBT r216.v fun b703 b704 b705 i334 i335 b706 =>
          (R id_foldTakeHeader [AV.bytes ((([124, 45, 45] : List UInt8).drop 0).take 3)]).bind fun r217 =>
          asAIBT r217.v fun b707 b708 b709 i336 i337 b710 =>
          (R id_foldTakeHeader [AV.bytes ((([62, 49, 50] : List UInt8).drop 0).take 3)]).bind fun r218 =>
          asAIBT r218.v fun b711 b712 b713 i338 i339 b714 =>
          bif b702 then
            (bif (i333 : Int) == (((([62] : List UInt8) ++ (s2 ++ ([] : List UInt8)) : List UInt8).length : Nat) : Int) then
              (bif b699 == (((Int.tmod i1 2) : Int) != 0) then
                (bif b700 == (s2 == ([45] : List UInt8)) then
                  (bif b701 == (s2 == ([43] : List UInt8)) then
                    (bif (i332 : Int) == i3 then
                      (bif !b706 then
                        (bif b710 then
                          (bif (i337 : Int) == 2 then
                            (bif b714 then
                              (bif (i339 : Int) == 2 then
                                ((R id_law07Wakes []).bind fun r219 =>
                                asB r219.v fun b715 =>
                                some ⟨AV.bool b715, false, []⟩)
                              else
                                some ⟨AV.bool false, false, []⟩)
                            else
                              some ⟨AV.bool false, false, []⟩)
                          else
                            some ⟨AV.bool false, false, []⟩)
                        else
                          some ⟨AV.bool false, false, []⟩)
                      else
                        some ⟨AV.bool false, false, []⟩)
                    else
                      some ⟨AV.bool false, false, []⟩)
                  else
                    some ⟨AV.bool false, false, []⟩)
                else
                  some ⟨AV.bool false, false, []⟩)
              else
                some ⟨AV.bool false, false, []⟩)
            else
              some ⟨AV.bool false, false, []⟩)
          else
            some ⟨AV.bool false, false, []⟩)
      else
        need (decide (s2.length + (([] : List UInt8) : List UInt8).length ≤ 9223372036854775807)) <|
        need (decide ((([124] : List UInt8) : List UInt8).length + (s2 ++ ([] : List UInt8)).length ≤ 9223372036854775807)) <|
        (R id_keepText [AV.str s1, AV.int .i64 5]).bind fun r220 =>
        asS r220.v fun s10 =>
        bif decide ((((s10.length : Nat) : Int) : Int) > 0) then
          (need (decide (0 ≤ (0 : Int))) <|
          (s10[Int.toNat 0]?).bind fun c29 =>
          bif ((c29.toNat : Int) : Int) == 45 then
            (need (decide ((([32] : List UInt8) : List UInt8).length + s10.length ≤ 9223372036854775807)) <|
            need (decide ((([124] : List UInt8) ++ (s2 ++ ([] : List UInt8)) : List UInt8).length + (([32] : List UInt8) ++ s10 : List UInt8).length ≤ 9223372036854775807)) <|
            (R id_foldTakeHeader [AV.bytes ((([124] : List UInt8) ++ (s2 ++ ([] : List UInt8))) ++ (([32] : List UInt8) ++ s10))]).bind fun r221 =>
            asAIBT r221.v fun b716 b717 b718 i340 i341 b719 =>
            need (decide ((([120] : List UInt8) : List UInt8).length + (([124] : List UInt8) ++ (s2 ++ ([] : List UInt8)) : List UInt8).length ≤ 9223372036854775807)) <|
            (R id_foldTakeHeader [AV.bytes (([120] : List UInt8) ++ (([124] : List UInt8) ++ (s2 ++ ([] : List UInt8))))]).bind fun r222 =>
            asAIBT r222.v fun b720 b721 b722 i342 i343 b723 =>
            (R id_foldTakeHeader [AV.bytes ((([124, 45, 45] : List UInt8).drop 0).take 3)]).bind fun r223 =>
            asAIBT r223.v fun b724 b725 b726 i344 i345 b727 =>
            (R id_foldTakeHeader [AV.bytes ((([62, 49, 50] : List UInt8).drop 0).take 3)]).bind fun r224 =>
            asAIBT r224.v fun b728 b729 b730 i346 i347 b731 =>
            bif b719 then
              (bif (i341 : Int) == (((([124] : List UInt8) ++ (s2 ++ ([] : List UInt8)) : List UInt8).length : Nat) : Int) then
                (bif b716 == (((Int.tmod i1 2) : Int) != 0) then
                  (bif b717 == (s2 == ([45] : List UInt8)) then
                    (bif b718 == (s2 == ([43] : List UInt8)) then
                      (bif (i340 : Int) == i3 then
                        (bif !b723 then
                          (bif b727 then
                            (bif (i345 : Int) == 2 then
                              (bif b731 then
                                (bif (i347 : Int) == 2 then
                                  ((R id_law07Wakes []).bind fun r225 =>
                                  asB r225.v fun b732 =>
                                  some ⟨AV.bool b732, false, []⟩)
                                else
                                  some ⟨AV.bool false, false, []⟩)
                              else
                                some ⟨AV.bool false, false, []⟩)
                            else
                              some ⟨AV.bool false, false, []⟩)
                          else
                            some ⟨AV.bool false, false, []⟩)
                        else
                          some ⟨AV.bool false, false, []⟩)
                      else
                        some ⟨AV.bool false, false, []⟩)
                    else
                      some ⟨AV.bool false, false, []⟩)
                  else
                    some ⟨AV.bool false, false, []⟩)
                else
                  some ⟨AV.bool false, false, []⟩)
              else
                some ⟨AV.bool false, false, []⟩)
            else
              some ⟨AV.bool false, false, []⟩)
          else
            need (decide (0 ≤ (0 : Int))) <|
            (s10[Int.toNat 0]?).bind fun c30 =>
            bif ((c30.toNat : Int) : Int) == 43 then
              (need (decide ((([32] : List UInt8) : List UInt8).length + s10.length ≤ 9223372036854775807)) <|
              need (decide ((([124] : List UInt8) ++ (s2 ++ ([] : List UInt8)) : List UInt8).length + (([32] : List UInt8) ++ s10 : List UInt8).length ≤ 9223372036854775807)) <|
              (R id_foldTakeHeader [AV.bytes ((([124] : List UInt8) ++ (s2 ++ ([] : List UInt8))) ++ (([32] : List UInt8) ++ s10))]).bind fun r226 =>
              asAIBT r226.v fun b733 b734 b735 i348 i349 b736 =>
              need (decide ((([120] : List UInt8) : List UInt8).length + (([124] : List UInt8) ++ (s2 ++ ([] : List UInt8)) : List UInt8).length ≤ 9223372036854775807)) <|
              (R id_foldTakeHeader [AV.bytes (([120] : List UInt8) ++ (([124] : List UInt8) ++ (s2 ++ ([] : List UInt8))))]).bind fun r227 =>
              asAIBT r227.v fun b737 b738 b739 i350 i351 b740 =>
              (R id_foldTakeHeader [AV.bytes ((([124, 45, 45] : List UInt8).drop 0).take 3)]).bind fun r228 =>
              asAIBT r228.v fun b741 b742 b743 i352 i353 b744 =>
              (R id_foldTakeHeader [AV.bytes ((([62, 49, 50] : List UInt8).drop 0).take 3)]).bind fun r229 =>
              asAIBT r229.v fun b745 b746 b747 i354 i355 b748 =>
              bif b736 then
                (bif (i349 : Int) == (((([124] : List UInt8) ++ (s2 ++ ([] : List UInt8)) : List UInt8).length : Nat) : Int) then
                  (bif b733 == (((Int.tmod i1 2) : Int) != 0) then
                    (bif b734 == (s2 == ([45] : List UInt8)) then
                      (bif b735 == (s2 == ([43] : List UInt8)) then
                        (bif (i348 : Int) == i3 then
                          (bif !b740 then
                            (bif b744 then
                              (bif (i353 : Int) == 2 then
                                (bif b748 then
                                  (bif (i355 : Int) == 2 then
                                    ((R id_law07Wakes []).bind fun r230 =>
                                    asB r230.v fun b749 =>
                                    some ⟨AV.bool b749, false, []⟩)
                                  else
                                    some ⟨AV.bool false, false, []⟩)
                                else
                                  some ⟨AV.bool false, false, []⟩)
                              else
                                some ⟨AV.bool false, false, []⟩)
                            else
                              some ⟨AV.bool false, false, []⟩)
                          else
                            some ⟨AV.bool false, false, []⟩)
                        else
                          some ⟨AV.bool false, false, []⟩)
                      else
                        some ⟨AV.bool false, false, []⟩)
                    else
                      some ⟨AV.bool false, false, []⟩)
                  else
                    some ⟨AV.bool false, false, []⟩)
                else
                  some ⟨AV.bool false, false, []⟩)
              else
                some ⟨AV.bool false, false, []⟩)
            else
              need (decide (0 ≤ (0 : Int))) <|
              (s10[Int.toNat 0]?).bind fun c31 =>
              bif decide (((c31.toNat : Int) : Int) ≥ 49) then
                (need (decide (0 ≤ (0 : Int))) <|
                (s10[Int.toNat 0]?).bind fun c32 =>
                bif decide (((c32.toNat : Int) : Int) ≤ 57) then
                  (need (decide ((([32] : List UInt8) : List UInt8).length + s10.length ≤ 9223372036854775807)) <|
                  need (decide ((([124] : List UInt8) ++ (s2 ++ ([] : List UInt8)) : List UInt8).length + (([32] : List UInt8) ++ s10 : List UInt8).length ≤ 9223372036854775807)) <|
                  (R id_foldTakeHeader [AV.bytes ((([124] : List UInt8) ++ (s2 ++ ([] : List UInt8))) ++ (([32] : List UInt8) ++ s10))]).bind fun r231 =>
                  asAIBT r231.v fun b750 b751 b752 i356 i357 b753 =>
                  need (decide ((([120] : List UInt8) : List UInt8).length + (([124] : List UInt8) ++ (s2 ++ ([] : List UInt8)) : List UInt8).length ≤ 9223372036854775807)) <|
                  (R id_foldTakeHeader [AV.bytes (([120] : List UInt8) ++ (([124] : List UInt8) ++ (s2 ++ ([] : List UInt8))))]).bind fun r232 =>
                  asAIBT r232.v fun b754 b755 b756 i358 i359 b757 =>
                  (R id_foldTakeHeader [AV.bytes ((([124, 45, 45] : List UInt8).drop 0).take 3)]).bind fun r233 =>
                  asAIBT r233.v fun b758 b759 b760 i360 i361 b761 =>
                  (R id_foldTakeHeader [AV.bytes ((([62, 49, 50] : List UInt8).drop 0).take 3)]).bind fun r234 =>
                  asAIBT r234.v fun b762 b763 b764 i362 i363 b765 =>
                  bif b753 then
                    (bif (i357 : Int) == (((([124] : List UInt8) ++ (s2 ++ ([] : List UInt8)) : List UInt8).length : Nat) : Int) then
                      (bif b750 == (((Int.tmod i1 2) : Int) != 0) then
                        (bif b751 == (s2 == ([45] : List UInt8)) then
                          (bif b752 == (s2 == ([43] : List UInt8)) then
                            (bif (i356 : Int) == i3 then
                              (bif !b757 then
                                (bif b761 then
                                  (bif (i361 : Int) == 2 then
                                    (bif b765 then
                                      (bif (i363 : Int) == 2 then
                                        ((R id_law07Wakes []).bind fun r235 =>
                                        asB r235.v fun b766 =>
                                        some ⟨AV.bool b766, false, []⟩)
                                      else
                                        some ⟨AV.bool false, false, []⟩)
                                    else
                                      some ⟨AV.bool false, false, []⟩)
                                  else
                                    some ⟨AV.bool false, false, []⟩)
                                else
                                  some ⟨AV.bool false, false, []⟩)
                              else
                                some ⟨AV.bool false, false, []⟩)
                            else
                              some ⟨AV.bool false, false, []⟩)
                          else
                            some ⟨AV.bool false, false, []⟩)
                        else
                          some ⟨AV.bool false, false, []⟩)
                      else
                        some ⟨AV.bool false, false, []⟩)
                    else
                      some ⟨AV.bool false, false, []⟩)
                  else
                    some ⟨AV.bool false, false, []⟩)
                else
                  need (decide ((([124] : List UInt8) ++ (s2 ++ ([] : List UInt8)) : List UInt8).length + s10.length ≤ 9223372036854775807)) <|
                  (R id_foldTakeHeader [AV.bytes ((([124] : List UInt8) ++ (s2 ++ ([] : List UInt8))) ++ s10)]).bind fun r236 =>
                  asAIBT r236.v fun b767 b768 b769 i364 i365 b770 =>
                  need (decide ((([120] : List UInt8) : List UInt8).length + (([124] : List UInt8) ++ (s2 ++ ([] : List UInt8)) : List UInt8).length ≤ 9223372036854775807)) <|
                  (R id_foldTakeHeader [AV.bytes (([120] : List UInt8) ++ (([124] : List UInt8) ++ (s2 ++ ([] : List UInt8))))]).bind fun r237 =>
                  asAIBT r237.v fun b771 b772 b773 i366 i367 b774 =>
                  (R id_foldTakeHeader [AV.bytes ((([124, 45, 45] : List UInt8).drop 0).take 3)]).bind fun r238 =>
                  asAIBT r238.v fun b775 b776 b777 i368 i369 b778 =>
                  (R id_foldTakeHeader [AV.bytes ((([62, 49, 50] : List UInt8).drop 0).take 3)]).bind fun r239 =>
                  asAIBT r239.v fun b779 b780 b781 i370 i371 b782 =>
                  bif b770 then
                    (bif (i365 : Int) == (((([124] : List UInt8) ++ (s2 ++ ([] : List UInt8)) : List UInt8).length : Nat) : Int) then
                      (bif b767 == (((Int.tmod i1 2) : Int) != 0) then
                        (bif b768 == (s2 == ([45] : List UInt8)) then
                          (bif b769 == (s2 == ([43] : List UInt8)) then
                            (bif (i364 : Int) == i3 then
                              (bif !b774 then
                                (bif b778 then
                                  (bif (i369 : Int) == 2 then
                                    (bif b782 then
                                      (bif (i371 : Int) == 2 then
                                        ((R id_law07Wakes []).bind fun r240 =>
                                        asB r240.v fun b783 =>
                                        some ⟨AV.bool b783, false, []⟩)
                                      else
                                        some ⟨AV.bool false, false, []⟩)
                                    else
                                      some ⟨AV.bool false, false, []⟩)
                                  else
                                    some ⟨AV.bool false, false, []⟩)
                                else
                                  some ⟨AV.bool false, false, []⟩)
                              else
                                some ⟨AV.bool false, false, []⟩)
                            else
                              some ⟨AV.bool false, false, []⟩)
                          else
                            some ⟨AV.bool false, false, []⟩)
                        else
                          some ⟨AV.bool false, false, []⟩)
                      else
                        some ⟨AV.bool false, false, []⟩)
                    else
                      some ⟨AV.bool false, false, []⟩)
                  else
                    some ⟨AV.bool false, false, []⟩)
              else
                need (decide ((([124] : List UInt8) ++ (s2 ++ ([] : List UInt8)) : List UInt8).length + s10.length ≤ 9223372036854775807)) <|
                (R id_foldTakeHeader [AV.bytes ((([124] : List UInt8) ++ (s2 ++ ([] : List UInt8))) ++ s10)]).bind fun r241 =>
                asAIBT r241.v fun b784 b785 b786 i372 i373 b787 =>
                need (decide ((([120] : List UInt8) : List UInt8).length + (([124] : List UInt8) ++ (s2 ++ ([] : List UInt8)) : List UInt8).length ≤ 9223372036854775807)) <|
                (R id_foldTakeHeader [AV.bytes (([120] : List UInt8) ++ (([124] : List UInt8) ++ (s2 ++ ([] : List UInt8))))]).bind fun r242 =>
                asAIBT r242.v fun b788 b789 b790 i374 i375 b791 =>
                (R id_foldTakeHeader [AV.bytes ((([124, 45, 45] : List UInt8).drop 0).take 3)]).bind fun r243 =>
                asAIBT r243.v fun b792 b793 b794 i376 i377 b795 =>
                (R id_foldTakeHeader [AV.bytes ((([62, 49, 50] : List UInt8).drop 0).take 3)]).bind fun r244 =>
                asAIBT r244.v fun b796 b797 b798 i378 i379 b799 =>
                bif b787 then
                  (bif (i373 : Int) == (((([124] : List UInt8) ++ (s2 ++ ([] : List UInt8)) : List UInt8).length : Nat) : Int) then
                    (bif b784 == (((Int.tmod i1 2) : Int) != 0) then
                      (bif b785 == (s2 == ([45] : List UInt8)) then
                        (bif b786 == (s2 == ([43] : List UInt8)) then
                          (bif (i372 : Int) == i3 then
                            (bif !b791 then
                              (bif b795 then
                                (bif (i377 : Int) == 2 then
                                  (bif b799 then
                                    (bif (i379 : Int) == 2 then
                                      ((R id_law07Wakes []).bind fun r245 =>
                                      asB r245.v fun b800 =>
                                      some ⟨AV.bool b800, false, []⟩)
                                    else
                                      some ⟨AV.bool false, false, []⟩)
                                  else
                                    some ⟨AV.bool false, false, []⟩)
                                else
                                  some ⟨AV.bool false, false, []⟩)
                              else
                                some ⟨AV.bool false, false, []⟩)
                            else
                              some ⟨AV.bool false, false, []⟩)
                          else
                            some ⟨AV.bool false, false, []⟩)
                        else
                          some ⟨AV.bool false, false, []⟩)
                      else
                        some ⟨AV.bool false, false, []⟩)
                    else
                      some ⟨AV.bool false, false, []⟩)
                  else
                    some ⟨AV.bool false, false, []⟩)
                else
                  some ⟨AV.bool false, false, []⟩)
        else
          need (decide ((([124] : List UInt8) ++ (s2 ++ ([] : List UInt8)) : List UInt8).length + s10.length ≤ 9223372036854775807)) <|
          (R id_foldTakeHeader [AV.bytes ((([124] : List UInt8) ++ (s2 ++ ([] : List UInt8))) ++ s10)]).bind fun r246 =>
          asAIBT r246.v fun b801 b802 b803 i380 i381 b804 =>
          need (decide ((([120] : List UInt8) : List UInt8).length + (([124] : List UInt8) ++ (s2 ++ ([] : List UInt8)) : List UInt8).length ≤ 9223372036854775807)) <|
          (R id_foldTakeHeader [AV.bytes (([120] : List UInt8) ++ (([124] : List UInt8) ++ (s2 ++ ([] : List UInt8))))]).bind fun r247 =>
          asAIBT r247.v fun b805 b806 b807 i382 i383 b808 =>
          (R id_foldTakeHeader [AV.bytes ((([124, 45, 45] : List UInt8).drop 0).take 3)]).bind fun r248 =>
          asAIBT r248.v fun b809 b810 b811 i384 i385 b812 =>
          (R id_foldTakeHeader [AV.bytes ((([62, 49, 50] : List UInt8).drop 0).take 3)]).bind fun r249 =>
          asAIBT r249.v fun b813 b814 b815 i386 i387 b816 =>
          bif b804 then
            (bif (i381 : Int) == (((([124] : List UInt8) ++ (s2 ++ ([] : List UInt8)) : List UInt8).length : Nat) : Int) then
              (bif b801 == (((Int.tmod i1 2) : Int) != 0) then
                (bif b802 == (s2 == ([45] : List UInt8)) then
                  (bif b803 == (s2 == ([43] : List UInt8)) then
                    (bif (i380 : Int) == i3 then
                      (bif !b808 then
                        (bif b812 then
                          (bif (i385 : Int) == 2 then
                            (bif b816 then
                              (bif (i387 : Int) == 2 then
                                ((R id_law07Wakes []).bind fun r250 =>
                                asB r250.v fun b817 =>
                                some ⟨AV.bool b817, false, []⟩)
                              else
                                some ⟨AV.bool false, false, []⟩)
                            else
                              some ⟨AV.bool false, false, []⟩)
                          else
                            some ⟨AV.bool false, false, []⟩)
                        else
                          some ⟨AV.bool false, false, []⟩)
                      else
                        some ⟨AV.bool false, false, []⟩)
                    else
                      some ⟨AV.bool false, false, []⟩)
                  else
                    some ⟨AV.bool false, false, []⟩)
                else
                  some ⟨AV.bool false, false, []⟩)
              else
                some ⟨AV.bool false, false, []⟩)
            else
              some ⟨AV.bool false, false, []⟩)
          else
            some ⟨AV.bool false, false, []⟩
theorem law07FoldSigns_eq (R : Nat → List AV → Option Res) (N : Nat) (i1 : Int) (b1 : Bool) (s1 : List UInt8) : runF gl R N law07FoldSigns [AV.int .i64 i1, AV.bool b1, AV.str s1] = law07FoldSignsr R N i1 b1 s1 := by
  kernel_rfl
theorem law07FoldSigns_fit : fitF Try.prog law07FoldSigns Try.f8 = true := by
  kernel_rfl

def keepLend_c1 : AC := .seq (.region [.op (some 2) none (.nilOwn 11 none)]) (.stuck)
def keepLend : AFunc := ⟨1, 32, [.tmp 2], keepLend_c1⟩
def keepLendr (R : Nat → List AV → Option Res) (N : Nat) (s1 : List UInt8) : Option Res :=
  none
theorem keepLend_eq (R : Nat → List AV → Option Res) (N : Nat) (s1 : List UInt8) : runF gl R N keepLend [AV.bytes s1] = keepLendr R N s1 := by
  kernel_rfl
theorem keepLend_fit : fitF Try.prog keepLend Try.f17 = true := by
  kernel_rfl

def ref01TakeHeader_L1s (R : Nat → List AV → Option Res) (N : Nat) (go : List UInt8 → Int → Bool → Bool → Bool → Int → Bool → Bool → Bool → Int → Option Res) (k0 : Int → Bool → Bool → Bool → Bool → Int → Option Res) (k1 : Int → Bool → Bool → Bool → Int → Bool → Bool → Bool → Int → Option Res) (s2 : List UInt8) (i1 : Int) (b1 : Bool) (b2 : Bool) (b3 : Bool) (i2 : Int) (b4 : Bool) (b5 : Bool) (b6 : Bool) (i3 : Int) : Option Res :=
  bif decide ((i1 : Int) < ((s2.length : Nat) : Int)) then
    (bif decide ((i1 : Int) < 3) then
      (need (decide (0 ≤ (i1 : Int))) <|
      (s2[Int.toNat i1]?).bind fun c4 =>
      bif ((c4.toNat : Int) : Int) == 45 then
        (bif !b5 then
          (bif !b6 then
            (go s2 (IntKind.i64.wrap (i1 + 1)) b1 b2 b3 i2 b4 (((c4.toNat : Int) : Int) == 45) (((c4.toNat : Int) : Int) == 43) i3)
          else
            bif decide (((c4.toNat : Int) : Int) ≥ 49) then
              (bif decide (((c4.toNat : Int) : Int) ≤ 57) then
                (bif (i3 : Int) == 0 then
                  (go s2 (IntKind.i64.wrap (i1 + 1)) b1 b2 b3 i2 b4 b5 b6 (IntKind.i64.wrap (IntKind.u8.wrap ((c4.toNat : Int) - 48))))
                else
                  k0 i1 true b4 b5 b6 i3)
              else
                k0 i1 true b4 b5 b6 i3)
            else
              k0 i1 true b4 b5 b6 i3)
        else
          bif decide (((c4.toNat : Int) : Int) ≥ 49) then
            (bif decide (((c4.toNat : Int) : Int) ≤ 57) then
              (bif (i3 : Int) == 0 then
                (go s2 (IntKind.i64.wrap (i1 + 1)) b1 b2 b3 i2 b4 b5 b6 (IntKind.i64.wrap (IntKind.u8.wrap ((c4.toNat : Int) - 48))))
              else
                k0 i1 true b4 b5 b6 i3)
            else
              k0 i1 true b4 b5 b6 i3)
          else
            k0 i1 true b4 b5 b6 i3)
      else
        bif ((c4.toNat : Int) : Int) == 43 then
          (bif !b5 then
            (bif !b6 then
              (go s2 (IntKind.i64.wrap (i1 + 1)) b1 b2 b3 i2 b4 (((c4.toNat : Int) : Int) == 45) (((c4.toNat : Int) : Int) == 43) i3)
            else
              bif decide (((c4.toNat : Int) : Int) ≥ 49) then
                (bif decide (((c4.toNat : Int) : Int) ≤ 57) then
                  (bif (i3 : Int) == 0 then
                    (go s2 (IntKind.i64.wrap (i1 + 1)) b1 b2 b3 i2 b4 b5 b6 (IntKind.i64.wrap (IntKind.u8.wrap ((c4.toNat : Int) - 48))))
                  else
                    k0 i1 true b4 b5 b6 i3)
                else
                  k0 i1 true b4 b5 b6 i3)
              else
                k0 i1 true b4 b5 b6 i3)
          else
            bif decide (((c4.toNat : Int) : Int) ≥ 49) then
              (bif decide (((c4.toNat : Int) : Int) ≤ 57) then
                (bif (i3 : Int) == 0 then
                  (go s2 (IntKind.i64.wrap (i1 + 1)) b1 b2 b3 i2 b4 b5 b6 (IntKind.i64.wrap (IntKind.u8.wrap ((c4.toNat : Int) - 48))))
                else
                  k0 i1 true b4 b5 b6 i3)
              else
                k0 i1 true b4 b5 b6 i3)
            else
              k0 i1 true b4 b5 b6 i3)
        else
          bif decide (((c4.toNat : Int) : Int) ≥ 49) then
            (bif decide (((c4.toNat : Int) : Int) ≤ 57) then
              (bif (i3 : Int) == 0 then
                (go s2 (IntKind.i64.wrap (i1 + 1)) b1 b2 b3 i2 b4 b5 b6 (IntKind.i64.wrap (IntKind.u8.wrap ((c4.toNat : Int) - 48))))
              else
                k0 i1 true b4 b5 b6 i3)
            else
              k0 i1 true b4 b5 b6 i3)
          else
            k0 i1 true b4 b5 b6 i3)
    else
      k1 i1 b1 b2 b3 i2 b4 b5 b6 i3)
  else
    k1 i1 b1 b2 b3 i2 b4 b5 b6 i3
def ref01TakeHeader_L1 (R : Nat → List AV → Option Res) (N : Nat) (k0 : Int → Bool → Bool → Bool → Bool → Int → Option Res) (k1 : Int → Bool → Bool → Bool → Int → Bool → Bool → Bool → Int → Option Res) : Nat → List UInt8 → Int → Bool → Bool → Bool → Int → Bool → Bool → Bool → Int → Option Res
  | 0, _, _, _, _, _, _, _, _, _, _ => none
  | n + 1, s2, i1, b1, b2, b3, i2, b4, b5, b6, i3 => ref01TakeHeader_L1s R N (ref01TakeHeader_L1 R N k0 k1 n) k0 k1 s2 i1 b1 b2 b3 i2 b4 b5 b6 i3
def ref01TakeHeader_c0 : AC := .seq (.seq (.region [.op (some 29) none (.mv (.t 6)), .op (some 30) none (.mv (.t 0)), .op (some 31) none (.len (.t 30) false), .op (some 32) none (.bin .lss (.t 29) (.t 31)), .op (some 33) none (.mv (.t 32)), .split 33, .op (some 34) (some (33, true)) (.mv (.t 6)), .op (some 35) (some (33, true)) (.bin .lss (.t 34) (.k (AV.int .i64 3))), .op (some 36) none (.pick (.t 33) (.t 35) (.k (AV.bool false)))]) (.cond (.t 36) (.skip) (.exit 0 [2, 5, 6] [1002, 1005]))) (.block 1 (.seq (.region [.op (some 37) none (.mv (.t 0)), .op (some 38) none (.mv (.t 6)), .op (some 39) none (.iaddr (.t 37) (.t 38) 1 (.int .u8)), .op (some 40) none (.load (.t 39) none (.int .u8)), .op (some 7) none (.mv (.t 40))]) (.seq (.block 2 (.seq (.region [.op (some 44) none (.mv (.t 7)), .op (some 45) none (.bin .eql (.t 44) (.k (AV.int .u8 45))), .op (some 46) none (.mv (.t 45)), .split 46, .op (some 47) (some (46, false)) (.mv (.t 7)), .op (some 48) (some (46, false)) (.bin .eql (.t 47) (.k (AV.int .u8 43))), .op (some 49) none (.pick (.t 46) (.k (AV.bool true)) (.t 48)), .op (some 50) none (.mv (.t 49)), .split 50, .op (some 51) (some (50, true)) (.faddr (.t 5) 1), .op (some 52) (some (50, true)) (.load (.t 51) none (.bool)), .op (some 53) (some (50, true)) (.un .not (.t 52)), .op (some 54) none (.pick (.t 50) (.t 53) (.k (AV.bool false))), .op (some 55) none (.mv (.t 54)), .split 55, .op (some 56) (some (55, true)) (.faddr (.t 5) 2), .op (some 57) (some (55, true)) (.load (.t 56) none (.bool)), .op (some 58) (some (55, true)) (.un .not (.t 57)), .op (some 59) none (.pick (.t 55) (.t 58) (.k (AV.bool false))), .op (some 43) none (.mv (.t 59))]) (.cond (.t 43) (.region [.op (some 60) none (.mv (.t 7)), .op (some 61) none (.bin .eql (.t 60) (.k (AV.int .u8 45))), .op (some 62) none (.mv (.t 7)), .op (some 63) none (.bin .eql (.t 62) (.k (AV.int .u8 43))), .op (some 64) none (.faddr (.t 5) 1), .op none none (.store (.t 64) (.t 61) 1), .op (some 65) none (.faddr (.t 5) 2), .op none none (.store (.t 65) (.t 63) 1)]) (.seq (.region [.op (some 67) none (.mv (.t 7)), .op (some 68) none (.bin .geq (.t 67) (.k (AV.int .u8 49))), .op (some 69) none (.mv (.t 68)), .split 69, .op (some 70) (some (69, true)) (.mv (.t 7)), .op (some 71) (some (69, true)) (.bin .leq (.t 70) (.k (AV.int .u8 57))), .op (some 72) none (.pick (.t 69) (.t 71) (.k (AV.bool false))), .op (some 73) none (.mv (.t 72)), .split 73, .op (some 74) (some (73, true)) (.faddr (.t 5) 3), .op (some 75) (some (73, true)) (.load (.t 74) none (.int .i64)), .op (some 76) (some (73, true)) (.bin .eql (.t 75) (.k (AV.int .i64 0))), .op (some 77) none (.pick (.t 73) (.t 76) (.k (AV.bool false))), .op (some 66) none (.mv (.t 77))]) (.cond (.t 66) (.region [.op (some 78) none (.mv (.t 7)), .op (some 79) none (.bin .sub (.t 78) (.k (AV.int .u8 48))), .op (some 80) none (.cvInt .i64 (.t 79)), .op (some 81) none (.faddr (.t 5) 3), .op none none (.store (.t 81) (.t 80) 1)]) (.seq (.region [.op (some 41) none (.load (.t 5) (some 4) (.agg [.bool, .bool, .bool, .int .i64])), .op (some 42) none (.mv (.t 6)), .op none none (.store (.t 2) (.t 41) 4), .op (some 3) none (.mv (.t 42)), .op (some 4) none (.mv (.k (AV.bool true)))]) (.ret [2, 3, 4] [1002]))))))) (.region [.op (some 82) none (.mv (.t 6)), .op (some 83) none (.bin .add (.t 82) (.k (AV.int .i64 1))), .op (some 6) none (.mv (.t 83))]))))
theorem ref01TakeHeader_L1s_eq (R : Nat → List AV → Option Res) (N : Nat) (K : Ex → St → Option Res) (W : St → Option Res) (s2 : List UInt8) (i1 : Int) (b1 : Bool) (b2 : Bool) (b3 : Bool) (i2 : Int) (b4 : Bool) (b5 : Bool) (b6 : Bool) (i3 : Int) :
    evC gl R N ref01TakeHeader_c0 (Kseq (fun st' => W (prune [0, 2, 5, 6] [1002, 1005] st')) K) ⟨[(0, .imm (AV.bytes s2)), (2, .ptr 1002 0 0), (5, .ptr 1005 0 0), (6, .imm (AV.int .i64 i1))], [(1002, .box [.imm (AV.bool b1), .imm (AV.bool b2), .imm (AV.bool b3), .imm (AV.int .i64 i2)]), (1005, .box [.imm (AV.bool b4), .imm (AV.bool b5), .imm (AV.bool b6), .imm (AV.int .i64 i3)])]⟩ =
    ref01TakeHeader_L1s R N (fun (s2 : List UInt8) (i1 : Int) (b1 : Bool) (b2 : Bool) (b3 : Bool) (i2 : Int) (b4 : Bool) (b5 : Bool) (b6 : Bool) (i3 : Int) => W ⟨[(0, .imm (AV.bytes s2)), (2, .ptr 1002 0 0), (5, .ptr 1005 0 0), (6, .imm (AV.int .i64 i1))], [(1002, .box [.imm (AV.bool b1), .imm (AV.bool b2), .imm (AV.bool b3), .imm (AV.int .i64 i2)]), (1005, .box [.imm (AV.bool b4), .imm (AV.bool b5), .imm (AV.bool b6), .imm (AV.int .i64 i3)])]⟩) (fun (i4 : Int) (b7 : Bool) (b8 : Bool) (b9 : Bool) (b10 : Bool) (i5 : Int) => K .ret ⟨[(2, .ptr 1002 0 0), (3, .imm (AV.int .i64 i4)), (4, .imm (AV.bool b7))], [(1002, .box [.imm (AV.bool b8), .imm (AV.bool b9), .imm (AV.bool b10), .imm (AV.int .i64 i5)])]⟩) (fun (i6 : Int) (b11 : Bool) (b12 : Bool) (b13 : Bool) (i7 : Int) (b14 : Bool) (b15 : Bool) (b16 : Bool) (i8 : Int) => K (.exit 0) ⟨[(2, .ptr 1002 0 0), (5, .ptr 1005 0 0), (6, .imm (AV.int .i64 i6))], [(1002, .box [.imm (AV.bool b11), .imm (AV.bool b12), .imm (AV.bool b13), .imm (AV.int .i64 i7)]), (1005, .box [.imm (AV.bool b14), .imm (AV.bool b15), .imm (AV.bool b16), .imm (AV.int .i64 i8)])]⟩) s2 i1 b1 b2 b3 i2 b4 b5 b6 i3 := by
  kernel_rfl
theorem ref01TakeHeader_L1_eq (R : Nat → List AV → Option Res) (N : Nat) (K : Ex → St → Option Res) : ∀ (n : Nat) (s2 : List UInt8) (i1 : Int) (b1 : Bool) (b2 : Bool) (b3 : Bool) (i2 : Int) (b4 : Bool) (b5 : Bool) (b6 : Bool) (i3 : Int),
    rounds [0, 2, 5, 6] [1002, 1005] (evC gl R N ref01TakeHeader_c0) K n ⟨[(0, .imm (AV.bytes s2)), (2, .ptr 1002 0 0), (5, .ptr 1005 0 0), (6, .imm (AV.int .i64 i1))], [(1002, .box [.imm (AV.bool b1), .imm (AV.bool b2), .imm (AV.bool b3), .imm (AV.int .i64 i2)]), (1005, .box [.imm (AV.bool b4), .imm (AV.bool b5), .imm (AV.bool b6), .imm (AV.int .i64 i3)])]⟩ = ref01TakeHeader_L1 R N (fun (i4 : Int) (b7 : Bool) (b8 : Bool) (b9 : Bool) (b10 : Bool) (i5 : Int) => K .ret ⟨[(2, .ptr 1002 0 0), (3, .imm (AV.int .i64 i4)), (4, .imm (AV.bool b7))], [(1002, .box [.imm (AV.bool b8), .imm (AV.bool b9), .imm (AV.bool b10), .imm (AV.int .i64 i5)])]⟩) (fun (i6 : Int) (b11 : Bool) (b12 : Bool) (b13 : Bool) (i7 : Int) (b14 : Bool) (b15 : Bool) (b16 : Bool) (i8 : Int) => K (.exit 0) ⟨[(2, .ptr 1002 0 0), (5, .ptr 1005 0 0), (6, .imm (AV.int .i64 i6))], [(1002, .box [.imm (AV.bool b11), .imm (AV.bool b12), .imm (AV.bool b13), .imm (AV.int .i64 i7)]), (1005, .box [.imm (AV.bool b14), .imm (AV.bool b15), .imm (AV.bool b16), .imm (AV.int .i64 i8)])]⟩) n s2 i1 b1 b2 b3 i2 b4 b5 b6 i3
  | 0, _, _, _, _, _, _, _, _, _, _ => rfl
  | n + 1, s2, i1, b1, b2, b3, i2, b4, b5, b6, i3 => (ref01TakeHeader_L1s_eq R N K (rounds [0, 2, 5, 6] [1002, 1005] (evC gl R N ref01TakeHeader_c0) K n) s2 i1 b1 b2 b3 i2 b4 b5 b6 i3).trans
      (congrArg (fun go => ref01TakeHeader_L1s R N go (fun (i4 : Int) (b7 : Bool) (b8 : Bool) (b9 : Bool) (b10 : Bool) (i5 : Int) => K .ret ⟨[(2, .ptr 1002 0 0), (3, .imm (AV.int .i64 i4)), (4, .imm (AV.bool b7))], [(1002, .box [.imm (AV.bool b8), .imm (AV.bool b9), .imm (AV.bool b10), .imm (AV.int .i64 i5)])]⟩) (fun (i6 : Int) (b11 : Bool) (b12 : Bool) (b13 : Bool) (i7 : Int) (b14 : Bool) (b15 : Bool) (b16 : Bool) (i8 : Int) => K (.exit 0) ⟨[(2, .ptr 1002 0 0), (5, .ptr 1005 0 0), (6, .imm (AV.int .i64 i6))], [(1002, .box [.imm (AV.bool b11), .imm (AV.bool b12), .imm (AV.bool b13), .imm (AV.int .i64 i7)]), (1005, .box [.imm (AV.bool b14), .imm (AV.bool b15), .imm (AV.bool b16), .imm (AV.int .i64 i8)])]⟩) s2 i1 b1 b2 b3 i2 b4 b5 b6 i3) (funext fun s2 => funext fun i1 => funext fun b1 => funext fun b2 => funext fun b3 => funext fun i2 => funext fun b4 => funext fun b5 => funext fun b6 => funext fun i3 => ref01TakeHeader_L1_eq R N K n s2 i1 b1 b2 b3 i2 b4 b5 b6 i3))
def ref01TakeHeader_c1 : AC := .seq (.region [.op (some 84) none (.load (.t 5) (some 4) (.agg [.bool, .bool, .bool, .int .i64])), .op (some 85) none (.mv (.t 6)), .op none none (.store (.t 2) (.t 84) 4), .op (some 3) none (.mv (.t 85)), .op (some 4) none (.mv (.k (AV.bool true)))]) (.ret [2, 3, 4] [1002])
def ref01TakeHeader_c2 : AC := .seq (.region [.op (some 2) none (.alloc 1002 [AV.bool false, AV.bool false, AV.bool false, AV.int .i64 0]), .op (some 3) none (.mv (.k (AV.int .i64 0))), .op (some 4) none (.mv (.k (AV.bool false)))]) (.seq (.seq (.region [.op (some 8) none (.mv (.t 0)), .op (some 9) none (.len (.t 8) false), .op (some 10) none (.bin .eql (.t 9) (.k (AV.int .i64 0))), .op (some 11) none (.mv (.t 10)), .split 11, .op (some 12) (some (11, false)) (.mv (.t 0)), .op (some 13) (some (11, false)) (.iaddr (.t 12) (.k (AV.int .i64 0)) 1 (.int .u8)), .op (some 14) (some (11, false)) (.load (.t 13) none (.int .u8)), .op (some 15) (some (11, false)) (.bin .neq (.t 14) (.k (AV.int .u8 124))), .op (some 16) (some (11, false)) (.mv (.t 15)), .split 16, .op (some 17) (some (16, true)) (.mv (.t 0)), .op (some 18) (some (16, true)) (.iaddr (.t 17) (.k (AV.int .i64 0)) 1 (.int .u8)), .op (some 19) (some (16, true)) (.load (.t 18) none (.int .u8)), .op (some 20) (some (16, true)) (.bin .neq (.t 19) (.k (AV.int .u8 62))), .op (some 21) (some (11, false)) (.pick (.t 16) (.t 20) (.k (AV.bool false))), .op (some 22) none (.pick (.t 11) (.k (AV.bool true)) (.t 21))]) (.cond (.t 22) (.seq (.region [.op (some 23) none (.build [AV.bool false, AV.bool false, AV.bool false, AV.int .i64 0] []), .op none none (.store (.t 2) (.t 23) 4), .op (some 3) none (.mv (.k (AV.int .i64 0))), .op (some 4) none (.mv (.k (AV.bool false)))]) (.ret [2, 3, 4] [1002])) (.skip))) (.seq (.region [.op (some 24) none (.mv (.t 0)), .op (some 25) none (.iaddr (.t 24) (.k (AV.int .i64 0)) 1 (.int .u8)), .op (some 26) none (.load (.t 25) none (.int .u8)), .op (some 27) none (.bin .eql (.t 26) (.k (AV.int .u8 62))), .op (some 28) none (.build [AV.bool false, AV.bool false, AV.bool false, AV.int .i64 0] [(0, 1, .t 27)]), .op (some 5) none (.alloc 1005 [AV.bool false, AV.bool false, AV.bool false, AV.int .i64 0]), .op none none (.store (.t 5) (.t 28) 4)]) (.seq (.region [.op (some 6) none (.mv (.k (AV.int .i64 1)))]) (.seq (.block 0 (.loop [0, 2, 5, 6] [1002, 1005] (ref01TakeHeader_c0))) (ref01TakeHeader_c1)))))
def ref01TakeHeader : AFunc := ⟨1, 86, [.cell 2 4, .tmp 3, .tmp 4], ref01TakeHeader_c2⟩
def ref01TakeHeaderr (R : Nat → List AV → Option Res) (N : Nat) (s1 : List UInt8) : Option Res :=
  bif (((s1.length : Nat) : Int) : Int) == 0 then
    (some ⟨AV.tup [AV.agg [AV.bool false, AV.bool false, AV.bool false, AV.int .i64 0], AV.int .i64 0, AV.bool false], false, []⟩)
  else
    need (decide (0 ≤ (0 : Int))) <|
    (s1[Int.toNat 0]?).bind fun c1 =>
    bif ((c1.toNat : Int) : Int) != 124 then
      (need (decide (0 ≤ (0 : Int))) <|
      (s1[Int.toNat 0]?).bind fun c2 =>
      bif ((c2.toNat : Int) : Int) != 62 then
        (some ⟨AV.tup [AV.agg [AV.bool false, AV.bool false, AV.bool false, AV.int .i64 0], AV.int .i64 0, AV.bool false], false, []⟩)
      else
        need (decide (0 ≤ (0 : Int))) <|
        (s1[Int.toNat 0]?).bind fun c3 =>
        ref01TakeHeader_L1 R N
          (fun i14 b27 b28 b29 b30 i15 =>
            some ⟨AV.tup [AV.agg [AV.bool b28, AV.bool b29, AV.bool b30, AV.int .i64 i15], AV.int .i64 i14, AV.bool b27], false, []⟩)
          (fun i16 b31 b32 b33 i17 b34 b35 b36 i18 =>
            some ⟨AV.tup [AV.agg [AV.bool b34, AV.bool b35, AV.bool b36, AV.int .i64 i18], AV.int .i64 i16, AV.bool true], false, []⟩)
          N s1 1 false false false 0 (((c3.toNat : Int) : Int) == 62) false false 0)
    else
      need (decide (0 ≤ (0 : Int))) <|
      (s1[Int.toNat 0]?).bind fun c5 =>
      ref01TakeHeader_L1 R N
        (fun i19 b37 b38 b39 b40 i20 =>
          some ⟨AV.tup [AV.agg [AV.bool b38, AV.bool b39, AV.bool b40, AV.int .i64 i20], AV.int .i64 i19, AV.bool b37], false, []⟩)
        (fun i21 b41 b42 b43 i22 b44 b45 b46 i23 =>
          some ⟨AV.tup [AV.agg [AV.bool b44, AV.bool b45, AV.bool b46, AV.int .i64 i23], AV.int .i64 i21, AV.bool true], false, []⟩)
        N s1 1 false false false 0 (((c5.toNat : Int) : Int) == 62) false false 0
theorem ref01TakeHeader_eq (R : Nat → List AV → Option Res) (N : Nat) (s1 : List UInt8) : runF gl R N ref01TakeHeader [AV.bytes s1] = ref01TakeHeaderr R N s1 := by
  refine Eq.trans (b :=
      bif (((s1.length : Nat) : Int) : Int) == 0 then
        (some ⟨AV.tup [AV.agg [AV.bool false, AV.bool false, AV.bool false, AV.int .i64 0], AV.int .i64 0, AV.bool false], false, []⟩)
      else
        need (decide (0 ≤ (0 : Int))) <|
        (s1[Int.toNat 0]?).bind fun c1 =>
        bif ((c1.toNat : Int) : Int) != 124 then
          (need (decide (0 ≤ (0 : Int))) <|
          (s1[Int.toNat 0]?).bind fun c2 =>
          bif ((c2.toNat : Int) : Int) != 62 then
            (some ⟨AV.tup [AV.agg [AV.bool false, AV.bool false, AV.bool false, AV.int .i64 0], AV.int .i64 0, AV.bool false], false, []⟩)
          else
            need (decide (0 ≤ (0 : Int))) <|
            (s1[Int.toNat 0]?).bind fun c3 =>
            rounds [0, 2, 5, 6] [1002, 1005] (evC gl R N ref01TakeHeader_c0) (Kblock 0 (Kthen gl R N ref01TakeHeader_c1 (Kret ref01TakeHeader.rets))) N ⟨[(0, .imm (AV.bytes s1)), (2, .ptr 1002 0 0), (5, .ptr 1005 0 0), (6, .imm (AV.int .i64 1))], [(1002, .box [.imm (AV.bool false), .imm (AV.bool false), .imm (AV.bool false), .imm (AV.int .i64 0)]), (1005, .box [.imm (AV.bool (((c3.toNat : Int) : Int) == 62)), .imm (AV.bool false), .imm (AV.bool false), .imm (AV.int .i64 0)])]⟩)
        else
          need (decide (0 ≤ (0 : Int))) <|
          (s1[Int.toNat 0]?).bind fun c5 =>
          rounds [0, 2, 5, 6] [1002, 1005] (evC gl R N ref01TakeHeader_c0) (Kblock 0 (Kthen gl R N ref01TakeHeader_c1 (Kret ref01TakeHeader.rets))) N ⟨[(0, .imm (AV.bytes s1)), (2, .ptr 1002 0 0), (5, .ptr 1005 0 0), (6, .imm (AV.int .i64 1))], [(1002, .box [.imm (AV.bool false), .imm (AV.bool false), .imm (AV.bool false), .imm (AV.int .i64 0)]), (1005, .box [.imm (AV.bool (((c5.toNat : Int) : Int) == 62)), .imm (AV.bool false), .imm (AV.bool false), .imm (AV.int .i64 0)])]⟩) (by kernel_rfl) ?_
  simp (config := { maxSteps := 100000000 }) only [ref01TakeHeader_L1_eq]
  kernel_rfl
theorem ref01TakeHeader_fit : fitF Try.prog ref01TakeHeader Try.f18 = true := by
  kernel_rfl
end Go.Proofs.Ytpjpmfchcijikaa.Vf
