/- The code of the functions that the statements reach, as our evaluator takes it, and what each of them comes to, readably: printed by a program of ours. No condition. -/
import Derived.Test.YtmpjohnbddnehaaDoorVfWalk2
namespace Go.Proofs.YtmpjohnbddnehaaDoor.Vf
set_option linter.unusedVariables false
set_option linter.unusedSimpArgs false
set_option maxRecDepth 100000


def law10PropsBack_c0 : AC := .seq (.region [.op (some 8) none (.mv (.k (AV.bool false)))]) (.seq (.region [.op (some 17) none (.build [AV.str [], AV.str []] []), .op (some 9) none (.alloc 1009 [AV.str [], AV.str []]), .op none none (.store (.t 9) (.t 17) 2)]) (.seq (.seq (.region [.op (some 18) none (.mv (.t 0)), .op (some 19) none (.bin .rem (.t 18) (.k (AV.int .i64 3))), .op (some 20) none (.bin .neq (.t 19) (.k (AV.int .i64 0)))]) (.cond (.t 20) (.region [.op (some 21) none (.mv (.t 0)), .op (some 22) none (.call id_keepWithin [.t 21, .k (AV.int .i64 10)] (.int .i64)), .op (some 23) none (.bin .add (.k (AV.int .i64 1)) (.t 22)), .op (some 24) none (.call id_keepText [.k (AV.str ([97, 110, 99, 104, 111, 114, 45, 49, 95, 120] : List UInt8)), .t 23] (.str)), .op (some 25) none (.faddr (.t 9) 1), .op none none (.store (.t 25) (.t 24) 1)]) (.skip))) (.seq (.region [.op (some 26) none (.bslice [.k (AV.str ([] : List UInt8)), .k (AV.str ([33] : List UInt8)), .k (AV.str ([33, 120] : List UInt8)), .k (AV.str ([33, 33, 115, 116, 114] : List UInt8)), .k (AV.str ([33, 33, 109, 97, 112] : List UInt8))] 1 false), .op (some 27) none (.mv (.t 1)), .op (some 28) none (.call id_keepWithin [.t 27, .k (AV.int .i64 5)] (.int .i64)), .op (some 29) none (.iaddr (.t 26) (.t 28) 1 (.str)), .op (some 30) none (.load (.t 29) none (.str)), .op (some 31) none (.faddr (.t 9) 0), .op none none (.store (.t 31) (.t 30) 1)]) (.seq (.region [.op (some 32) none (.load (.t 9) (some 2) (.agg [.str, .str])), .op (some 33) none (.call id_propsPut [.t 32] (.str)), .op (some 10) none (.mv (.t 33))]) (.seq (.seq (.region [.op (some 34) none (.mv (.t 2)), .op (some 35) none (.mv (.t 34)), .split 35, .op (some 36) (some (35, true)) (.faddr (.t 9) 1), .op (some 37) (some (35, true)) (.load (.t 36) none (.str)), .op (some 38) (some (35, true)) (.bin .neq (.t 37) (.k (AV.str ([] : List UInt8)))), .op (some 39) none (.pick (.t 35) (.t 38) (.k (AV.bool false))), .op (some 40) none (.mv (.t 39)), .split 40, .op (some 41) (some (40, true)) (.faddr (.t 9) 0), .op (some 42) (some (40, true)) (.load (.t 41) none (.str)), .op (some 43) (some (40, true)) (.bin .neq (.t 42) (.k (AV.str ([] : List UInt8)))), .op (some 44) none (.pick (.t 40) (.t 43) (.k (AV.bool false)))]) (.cond (.t 44) (.region [.op (some 45) none (.faddr (.t 9) 0), .op (some 46) none (.load (.t 45) none (.str)), .op (some 47) none (.bin .add (.t 46) (.k (AV.str ([32, 32, 38] : List UInt8)))), .op (some 48) none (.faddr (.t 9) 1), .op (some 49) none (.load (.t 48) none (.str)), .op (some 50) none (.bin .add (.t 47) (.t 49)), .op (some 10) none (.mv (.t 50))]) (.skip))) (.seq (.region [.op (some 51) none (.mv (.t 3)), .op (some 52) none (.call id_keepText [.t 51, .k (AV.int .i64 10)] (.str)), .op (some 3) none (.mv (.t 52))]) (.seq (.seq (.region [.op (some 53) none (.mv (.t 3)), .op (some 54) none (.len (.t 53) true), .op (some 55) none (.bin .gtr (.t 54) (.k (AV.int .i64 0))), .op (some 56) none (.mv (.t 55)), .split 56, .op (some 57) (some (56, true)) (.mv (.t 3)), .op (some 58) (some (56, true)) (.index (.t 57) (.k (AV.int .i64 0))), .op (some 59) (some (56, true)) (.bin .eql (.t 58) (.k (AV.int .u8 38))), .op (some 60) (some (56, true)) (.mv (.t 59)), .split 60, .op (some 61) (some (60, false)) (.mv (.t 3)), .op (some 62) (some (60, false)) (.index (.t 61) (.k (AV.int .i64 0))), .op (some 63) (some (60, false)) (.bin .eql (.t 62) (.k (AV.int .u8 33))), .op (some 64) (some (56, true)) (.pick (.t 60) (.k (AV.bool true)) (.t 63)), .op (some 65) (some (56, true)) (.mv (.t 64)), .split 65, .op (some 66) (some (65, false)) (.mv (.t 3)), .op (some 67) (some (65, false)) (.index (.t 66) (.k (AV.int .i64 0))), .op (some 68) (some (65, false)) (.bin .eql (.t 67) (.k (AV.int .u8 32))), .op (some 69) (some (56, true)) (.pick (.t 65) (.k (AV.bool true)) (.t 68)), .op (some 70) none (.pick (.t 56) (.t 69) (.k (AV.bool false)))]) (.cond (.t 70) (.region [.op (some 71) none (.mv (.t 3)), .op (some 72) none (.bin .add (.k (AV.str ([120] : List UInt8))) (.t 71)), .op (some 3) none (.mv (.t 72))]) (.skip))) (.seq (.region [.op (some 74) none (.mv (.t 10)), .op (some 75) none (.bin .add (.t 74) (.k (AV.str ([32] : List UInt8)))), .op (some 76) none (.mv (.t 3)), .op (some 77) none (.bin .add (.t 75) (.t 76)), .op (some 78) none (.cvBytes (.t 77)), .op (some 79) none (.call id_propsTake [.t 78] (.tup [.agg [.str, .str], .int .i64, .bool])), .op (some 73) none (.mv (.t 79)), .op (some 80) none (.extract (.t 73) 0), .op (some 81) none (.extract (.t 73) 1), .op (some 82) none (.extract (.t 73) 2), .op (some 11) none (.alloc 1011 [AV.str [], AV.str []]), .op none none (.store (.t 11) (.t 80) 2), .op (some 12) none (.mv (.t 81)), .op (some 13) none (.mv (.t 82))]) (.seq (.region [.op (some 84) none (.mv (.t 10)), .op (some 85) none (.cvBytes (.t 84)), .op (some 86) none (.call id_propsTake [.t 85] (.tup [.agg [.str, .str], .int .i64, .bool])), .op (some 83) none (.mv (.t 86)), .op (some 87) none (.extract (.t 83) 0), .op (some 88) none (.extract (.t 83) 1), .op (some 89) none (.extract (.t 83) 2), .op (some 14) none (.alloc 1014 [AV.str [], AV.str []]), .op none none (.store (.t 14) (.t 87) 2), .op (some 15) none (.mv (.t 88)), .op (some 16) none (.mv (.t 89))]) (.seq (.seq (.region [.op (some 90) none (.mv (.t 10)), .op (some 91) none (.bin .eql (.t 90) (.k (AV.str ([] : List UInt8))))]) (.cond (.t 91) (.seq (.region [.op (some 92) none (.mv (.t 16)), .op (some 93) none (.mv (.t 92)), .split 93, .op (some 94) (some (93, true)) (.mv (.t 15)), .op (some 95) (some (93, true)) (.bin .eql (.t 94) (.k (AV.int .i64 0))), .op (some 96) none (.pick (.t 93) (.t 95) (.k (AV.bool false))), .op (some 97) none (.mv (.t 96)), .split 97, .op (some 98) (some (97, true)) (.load (.t 14) (some 2) (.agg [.str, .str])), .op (some 99) (some (97, true)) (.load (.t 9) (some 2) (.agg [.str, .str])), .op (some 100) (some (97, true)) (.binA false (.t 98) (.t 99) [2, 2]), .op (some 101) none (.pick (.t 97) (.t 100) (.k (AV.bool false))), .op (some 102) none (.mv (.t 101)), .split 102, .op (some 103) (some (102, true)) (.call id_law10Wakes [] (.bool)), .op (some 104) none (.pick (.t 102) (.t 103) (.k (AV.bool false))), .op (some 8) none (.mv (.t 104))]) (.ret [8] [])) (.skip))) (.seq (.region [.op (some 105) none (.mv (.t 13)), .op (some 106) none (.mv (.t 105)), .split 106, .op (some 107) (some (106, true)) (.mv (.t 16)), .op (some 108) none (.pick (.t 106) (.t 107) (.k (AV.bool false))), .op (some 109) none (.mv (.t 108)), .split 109, .op (some 110) (some (109, true)) (.load (.t 11) (some 2) (.agg [.str, .str])), .op (some 111) (some (109, true)) (.load (.t 9) (some 2) (.agg [.str, .str])), .op (some 112) (some (109, true)) (.binA false (.t 110) (.t 111) [2, 2]), .op (some 113) none (.pick (.t 109) (.t 112) (.k (AV.bool false))), .op (some 114) none (.mv (.t 113)), .split 114, .op (some 115) (some (114, true)) (.load (.t 14) (some 2) (.agg [.str, .str])), .op (some 116) (some (114, true)) (.load (.t 9) (some 2) (.agg [.str, .str])), .op (some 117) (some (114, true)) (.binA false (.t 115) (.t 116) [2, 2]), .op (some 118) none (.pick (.t 114) (.t 117) (.k (AV.bool false))), .op (some 119) none (.mv (.t 118)), .split 119, .op (some 120) (some (119, true)) (.mv (.t 12)), .op (some 121) (some (119, true)) (.mv (.t 10)), .op (some 122) (some (119, true)) (.len (.t 121) true), .op (some 123) (some (119, true)) (.bin .eql (.t 120) (.t 122)), .op (some 124) none (.pick (.t 119) (.t 123) (.k (AV.bool false))), .op (some 125) none (.mv (.t 124)), .split 125, .op (some 126) (some (125, true)) (.mv (.t 15)), .op (some 127) (some (125, true)) (.mv (.t 10)), .op (some 128) (some (125, true)) (.len (.t 127) true), .op (some 129) (some (125, true)) (.bin .eql (.t 126) (.t 128)), .op (some 130) none (.pick (.t 125) (.t 129) (.k (AV.bool false))), .op (some 131) none (.mv (.t 130)), .split 131, .op (some 132) (some (131, true)) (.call id_law10Wakes [] (.bool)), .op (some 133) none (.pick (.t 131) (.t 132) (.k (AV.bool false))), .op (some 8) none (.mv (.t 133))]) (.ret [8] []))))))))))))
def law10PropsBack : AFunc := ⟨4, 134, [.tmp 8], law10PropsBack_c0⟩
def law10PropsBackr (R : Nat → List AV → Option Res) (N : Nat) (i1 : Int) (i2 : Int) (b1 : Bool) (s1 : List UInt8) : Option Res :=
  need (!decide (3 = 0)) <|
  bif ((Int.tmod i1 3) : Int) != 0 then
    ((R id_keepWithin [AV.int .i64 i1, AV.int .i64 10]).bind fun r1 =>
    asI .i64 r1.v fun i3 =>
    (R id_keepText [AV.str ([97, 110, 99, 104, 111, 114, 45, 49, 95, 120] : List UInt8), AV.int .i64 (IntKind.i64.wrap (1 + i3))]).bind fun r2 =>
    asS r2.v fun s2 =>
    (R id_keepWithin [AV.int .i64 i2, AV.int .i64 5]).bind fun r3 =>
    asI .i64 r3.v fun i4 =>
    need (decide (0 ≤ (i4 : Int))) <|
    (([AV.str ([] : List UInt8), AV.str ([33] : List UInt8), AV.str ([33, 120] : List UInt8), AV.str ([33, 33, 115, 116, 114] : List UInt8), AV.str ([33, 33, 109, 97, 112] : List UInt8)] : List AV)[Int.toNat i4]?).bind fun e1 =>
    asS e1 fun s3 =>
    (R id_propsPut [AV.agg [AV.str s3, AV.str s2]]).bind fun r4 =>
    asS r4.v fun s4 =>
    bif b1 then
      (bif !(s2 == ([] : List UInt8)) then
        (bif !(s3 == ([] : List UInt8)) then
          (need (decide (s3.length + (([32, 32, 38] : List UInt8) : List UInt8).length ≤ 9223372036854775807)) <|
          need (decide ((s3 ++ ([32, 32, 38] : List UInt8)).length + s2.length ≤ 9223372036854775807)) <|
          (R id_keepText [AV.str s1, AV.int .i64 10]).bind fun r5 =>
          asS r5.v fun s5 =>
          bif decide ((((s5.length : Nat) : Int) : Int) > 0) then
            (need (decide (0 ≤ (0 : Int))) <|
            (s5[Int.toNat 0]?).bind fun c1 =>
            bif ((c1.toNat : Int) : Int) == 38 then
              (need (decide ((([120] : List UInt8) : List UInt8).length + s5.length ≤ 9223372036854775807)) <|
              need (decide (((s3 ++ ([32, 32, 38] : List UInt8)) ++ s2).length + (([32] : List UInt8) : List UInt8).length ≤ 9223372036854775807)) <|
              need (decide ((((s3 ++ ([32, 32, 38] : List UInt8)) ++ s2) ++ ([32] : List UInt8)).length + (([120] : List UInt8) ++ s5 : List UInt8).length ≤ 9223372036854775807)) <|
              (R id_propsTake [AV.bytes ((((s3 ++ ([32, 32, 38] : List UInt8)) ++ s2) ++ ([32] : List UInt8)) ++ (([120] : List UInt8) ++ s5))]).bind fun r6 =>
              asAIBT r6.v fun s6 s7 i5 b2 =>
              (R id_propsTake [AV.bytes ((s3 ++ ([32, 32, 38] : List UInt8)) ++ s2)]).bind fun r7 =>
              asAIBT r7.v fun s8 s9 i6 b3 =>
              bif ((s3 ++ ([32, 32, 38] : List UInt8)) ++ s2) == ([] : List UInt8) then
                (bif b3 then
                  (bif (i6 : Int) == 0 then
                    (bif (s8 == s3) && ((s9 == s2) && (true)) then
                      ((R id_law10Wakes []).bind fun r8 =>
                      asB r8.v fun b4 =>
                      some ⟨AV.bool b4, false, []⟩)
                    else
                      some ⟨AV.bool false, false, []⟩)
                  else
                    some ⟨AV.bool false, false, []⟩)
                else
                  some ⟨AV.bool false, false, []⟩)
              else
                bif b2 then
                  (bif b3 then
                    (bif (s6 == s3) && ((s7 == s2) && (true)) then
                      (bif (s8 == s3) && ((s9 == s2) && (true)) then
                        (bif (i5 : Int) == ((((s3 ++ ([32, 32, 38] : List UInt8)) ++ s2).length : Nat) : Int) then
                          (bif (i6 : Int) == ((((s3 ++ ([32, 32, 38] : List UInt8)) ++ s2).length : Nat) : Int) then
                            ((R id_law10Wakes []).bind fun r9 =>
                            asB r9.v fun b5 =>
                            some ⟨AV.bool b5, false, []⟩)
                          else
                            some ⟨AV.bool false, false, []⟩)
                        else
                          some ⟨AV.bool false, false, []⟩)
                      else
                        some ⟨AV.bool false, false, []⟩)
                    else
                      some ⟨AV.bool false, false, []⟩)
                  else
                    some ⟨AV.bool false, false, []⟩)
                else
                  some ⟨AV.bool false, false, []⟩)
            else
              need (decide (0 ≤ (0 : Int))) <|
              (s5[Int.toNat 0]?).bind fun c2 =>
              bif ((c2.toNat : Int) : Int) == 33 then
                (need (decide ((([120] : List UInt8) : List UInt8).length + s5.length ≤ 9223372036854775807)) <|
                need (decide (((s3 ++ ([32, 32, 38] : List UInt8)) ++ s2).length + (([32] : List UInt8) : List UInt8).length ≤ 9223372036854775807)) <|
                need (decide ((((s3 ++ ([32, 32, 38] : List UInt8)) ++ s2) ++ ([32] : List UInt8)).length + (([120] : List UInt8) ++ s5 : List UInt8).length ≤ 9223372036854775807)) <|
                (R id_propsTake [AV.bytes ((((s3 ++ ([32, 32, 38] : List UInt8)) ++ s2) ++ ([32] : List UInt8)) ++ (([120] : List UInt8) ++ s5))]).bind fun r10 =>
                asAIBT r10.v fun s10 s11 i7 b6 =>
                (R id_propsTake [AV.bytes ((s3 ++ ([32, 32, 38] : List UInt8)) ++ s2)]).bind fun r11 =>
                asAIBT r11.v fun s12 s13 i8 b7 =>
                bif ((s3 ++ ([32, 32, 38] : List UInt8)) ++ s2) == ([] : List UInt8) then
                  (bif b7 then
                    (bif (i8 : Int) == 0 then
                      (bif (s12 == s3) && ((s13 == s2) && (true)) then
                        ((R id_law10Wakes []).bind fun r12 =>
                        asB r12.v fun b8 =>
                        some ⟨AV.bool b8, false, []⟩)
                      else
                        some ⟨AV.bool false, false, []⟩)
                    else
                      some ⟨AV.bool false, false, []⟩)
                  else
                    some ⟨AV.bool false, false, []⟩)
                else
                  bif b6 then
                    (bif b7 then
                      (bif (s10 == s3) && ((s11 == s2) && (true)) then
                        (bif (s12 == s3) && ((s13 == s2) && (true)) then
                          (bif (i7 : Int) == ((((s3 ++ ([32, 32, 38] : List UInt8)) ++ s2).length : Nat) : Int) then
                            (bif (i8 : Int) == ((((s3 ++ ([32, 32, 38] : List UInt8)) ++ s2).length : Nat) : Int) then
                              ((R id_law10Wakes []).bind fun r13 =>
                              asB r13.v fun b9 =>
                              some ⟨AV.bool b9, false, []⟩)
                            else
                              some ⟨AV.bool false, false, []⟩)
                          else
                            some ⟨AV.bool false, false, []⟩)
                        else
                          some ⟨AV.bool false, false, []⟩)
                      else
                        some ⟨AV.bool false, false, []⟩)
                    else
                      some ⟨AV.bool false, false, []⟩)
                  else
                    some ⟨AV.bool false, false, []⟩)
              else
                need (decide (0 ≤ (0 : Int))) <|
                (s5[Int.toNat 0]?).bind fun c3 =>
                bif ((c3.toNat : Int) : Int) == 32 then
                  (need (decide ((([120] : List UInt8) : List UInt8).length + s5.length ≤ 9223372036854775807)) <|
                  need (decide (((s3 ++ ([32, 32, 38] : List UInt8)) ++ s2).length + (([32] : List UInt8) : List UInt8).length ≤ 9223372036854775807)) <|
                  need (decide ((((s3 ++ ([32, 32, 38] : List UInt8)) ++ s2) ++ ([32] : List UInt8)).length + (([120] : List UInt8) ++ s5 : List UInt8).length ≤ 9223372036854775807)) <|
                  (R id_propsTake [AV.bytes ((((s3 ++ ([32, 32, 38] : List UInt8)) ++ s2) ++ ([32] : List UInt8)) ++ (([120] : List UInt8) ++ s5))]).bind fun r14 =>
                  asAIBT r14.v fun s14 s15 i9 b10 =>
                  (R id_propsTake [AV.bytes ((s3 ++ ([32, 32, 38] : List UInt8)) ++ s2)]).bind fun r15 =>
                  asAIBT r15.v fun s16 s17 i10 b11 =>
                  bif ((s3 ++ ([32, 32, 38] : List UInt8)) ++ s2) == ([] : List UInt8) then
                    (bif b11 then
                      (bif (i10 : Int) == 0 then
                        (bif (s16 == s3) && ((s17 == s2) && (true)) then
                          ((R id_law10Wakes []).bind fun r16 =>
                          asB r16.v fun b12 =>
                          some ⟨AV.bool b12, false, []⟩)
                        else
                          some ⟨AV.bool false, false, []⟩)
                      else
                        some ⟨AV.bool false, false, []⟩)
                    else
                      some ⟨AV.bool false, false, []⟩)
                  else
                    bif b10 then
                      (bif b11 then
                        (bif (s14 == s3) && ((s15 == s2) && (true)) then
                          (bif (s16 == s3) && ((s17 == s2) && (true)) then
                            (bif (i9 : Int) == ((((s3 ++ ([32, 32, 38] : List UInt8)) ++ s2).length : Nat) : Int) then
                              (bif (i10 : Int) == ((((s3 ++ ([32, 32, 38] : List UInt8)) ++ s2).length : Nat) : Int) then
                                ((R id_law10Wakes []).bind fun r17 =>
                                asB r17.v fun b13 =>
                                some ⟨AV.bool b13, false, []⟩)
                              else
                                some ⟨AV.bool false, false, []⟩)
                            else
                              some ⟨AV.bool false, false, []⟩)
                          else
                            some ⟨AV.bool false, false, []⟩)
                        else
                          some ⟨AV.bool false, false, []⟩)
                      else
                        some ⟨AV.bool false, false, []⟩)
                    else
                      some ⟨AV.bool false, false, []⟩)
                else
                  need (decide (((s3 ++ ([32, 32, 38] : List UInt8)) ++ s2).length + (([32] : List UInt8) : List UInt8).length ≤ 9223372036854775807)) <|
                  need (decide ((((s3 ++ ([32, 32, 38] : List UInt8)) ++ s2) ++ ([32] : List UInt8)).length + s5.length ≤ 9223372036854775807)) <|
                  (R id_propsTake [AV.bytes ((((s3 ++ ([32, 32, 38] : List UInt8)) ++ s2) ++ ([32] : List UInt8)) ++ s5)]).bind fun r18 =>
                  asAIBT r18.v fun s18 s19 i11 b14 =>
                  (R id_propsTake [AV.bytes ((s3 ++ ([32, 32, 38] : List UInt8)) ++ s2)]).bind fun r19 =>
                  asAIBT r19.v fun s20 s21 i12 b15 =>
                  bif ((s3 ++ ([32, 32, 38] : List UInt8)) ++ s2) == ([] : List UInt8) then
                    (bif b15 then
                      (bif (i12 : Int) == 0 then
                        (bif (s20 == s3) && ((s21 == s2) && (true)) then
                          ((R id_law10Wakes []).bind fun r20 =>
                          asB r20.v fun b16 =>
                          some ⟨AV.bool b16, false, []⟩)
                        else
                          some ⟨AV.bool false, false, []⟩)
                      else
                        some ⟨AV.bool false, false, []⟩)
                    else
                      some ⟨AV.bool false, false, []⟩)
                  else
                    bif b14 then
                      (bif b15 then
                        (bif (s18 == s3) && ((s19 == s2) && (true)) then
                          (bif (s20 == s3) && ((s21 == s2) && (true)) then
                            (bif (i11 : Int) == ((((s3 ++ ([32, 32, 38] : List UInt8)) ++ s2).length : Nat) : Int) then
                              (bif (i12 : Int) == ((((s3 ++ ([32, 32, 38] : List UInt8)) ++ s2).length : Nat) : Int) then
                                ((R id_law10Wakes []).bind fun r21 =>
                                asB r21.v fun b17 =>
                                some ⟨AV.bool b17, false, []⟩)
                              else
                                some ⟨AV.bool false, false, []⟩)
                            else
                              some ⟨AV.bool false, false, []⟩)
                          else
                            some ⟨AV.bool false, false, []⟩)
                        else
                          some ⟨AV.bool false, false, []⟩)
                      else
                        some ⟨AV.bool false, false, []⟩)
                    else
                      some ⟨AV.bool false, false, []⟩)
          else
            need (decide (((s3 ++ ([32, 32, 38] : List UInt8)) ++ s2).length + (([32] : List UInt8) : List UInt8).length ≤ 9223372036854775807)) <|
            need (decide ((((s3 ++ ([32, 32, 38] : List UInt8)) ++ s2) ++ ([32] : List UInt8)).length + s5.length ≤ 9223372036854775807)) <|
            (R id_propsTake [AV.bytes ((((s3 ++ ([32, 32, 38] : List UInt8)) ++ s2) ++ ([32] : List UInt8)) ++ s5)]).bind fun r22 =>
            asAIBT r22.v fun s22 s23 i13 b18 =>
            (R id_propsTake [AV.bytes ((s3 ++ ([32, 32, 38] : List UInt8)) ++ s2)]).bind fun r23 =>
            asAIBT r23.v fun s24 s25 i14 b19 =>
            bif ((s3 ++ ([32, 32, 38] : List UInt8)) ++ s2) == ([] : List UInt8) then
              (bif b19 then
                (bif (i14 : Int) == 0 then
                  (bif (s24 == s3) && ((s25 == s2) && (true)) then
                    ((R id_law10Wakes []).bind fun r24 =>
                    asB r24.v fun b20 =>
                    some ⟨AV.bool b20, false, []⟩)
                  else
                    some ⟨AV.bool false, false, []⟩)
                else
                  some ⟨AV.bool false, false, []⟩)
              else
                some ⟨AV.bool false, false, []⟩)
            else
              bif b18 then
                (bif b19 then
                  (bif (s22 == s3) && ((s23 == s2) && (true)) then
                    (bif (s24 == s3) && ((s25 == s2) && (true)) then
                      (bif (i13 : Int) == ((((s3 ++ ([32, 32, 38] : List UInt8)) ++ s2).length : Nat) : Int) then
                        (bif (i14 : Int) == ((((s3 ++ ([32, 32, 38] : List UInt8)) ++ s2).length : Nat) : Int) then
                          ((R id_law10Wakes []).bind fun r25 =>
                          asB r25.v fun b21 =>
                          some ⟨AV.bool b21, false, []⟩)
                        else
                          some ⟨AV.bool false, false, []⟩)
                      else
                        some ⟨AV.bool false, false, []⟩)
                    else
                      some ⟨AV.bool false, false, []⟩)
                  else
                    some ⟨AV.bool false, false, []⟩)
                else
                  some ⟨AV.bool false, false, []⟩)
              else
                some ⟨AV.bool false, false, []⟩)
        else
          (R id_keepText [AV.str s1, AV.int .i64 10]).bind fun r26 =>
          asS r26.v fun s26 =>
          bif decide ((((s26.length : Nat) : Int) : Int) > 0) then
            (need (decide (0 ≤ (0 : Int))) <|
            (s26[Int.toNat 0]?).bind fun c4 =>
            bif ((c4.toNat : Int) : Int) == 38 then
              (need (decide ((([120] : List UInt8) : List UInt8).length + s26.length ≤ 9223372036854775807)) <|
              need (decide (s4.length + (([32] : List UInt8) : List UInt8).length ≤ 9223372036854775807)) <|
              need (decide ((s4 ++ ([32] : List UInt8)).length + (([120] : List UInt8) ++ s26 : List UInt8).length ≤ 9223372036854775807)) <|
              (R id_propsTake [AV.bytes ((s4 ++ ([32] : List UInt8)) ++ (([120] : List UInt8) ++ s26))]).bind fun r27 =>
              asAIBT r27.v fun s27 s28 i15 b22 =>
              (R id_propsTake [AV.bytes s4]).bind fun r28 =>
              asAIBT r28.v fun s29 s30 i16 b23 =>
              bif s4 == ([] : List UInt8) then
                (bif b23 then
                  (bif (i16 : Int) == 0 then
                    (bif (s29 == s3) && ((s30 == s2) && (true)) then
                      ((R id_law10Wakes []).bind fun r29 =>
                      asB r29.v fun b24 =>
                      some ⟨AV.bool b24, false, []⟩)
                    else
                      some ⟨AV.bool false, false, []⟩)
                  else
                    some ⟨AV.bool false, false, []⟩)
                else
                  some ⟨AV.bool false, false, []⟩)
              else
                bif b22 then
                  (bif b23 then
                    (bif (s27 == s3) && ((s28 == s2) && (true)) then
                      (bif (s29 == s3) && ((s30 == s2) && (true)) then
                        (bif (i15 : Int) == ((s4.length : Nat) : Int) then
                          (bif (i16 : Int) == ((s4.length : Nat) : Int) then
                            ((R id_law10Wakes []).bind fun r30 =>
                            asB r30.v fun b25 =>
                            some ⟨AV.bool b25, false, []⟩)
                          else
                            some ⟨AV.bool false, false, []⟩)
                        else
                          some ⟨AV.bool false, false, []⟩)
                      else
                        some ⟨AV.bool false, false, []⟩)
                    else
                      some ⟨AV.bool false, false, []⟩)
                  else
                    some ⟨AV.bool false, false, []⟩)
                else
                  some ⟨AV.bool false, false, []⟩)
            else
              need (decide (0 ≤ (0 : Int))) <|
              (s26[Int.toNat 0]?).bind fun c5 =>
              bif ((c5.toNat : Int) : Int) == 33 then
                (need (decide ((([120] : List UInt8) : List UInt8).length + s26.length ≤ 9223372036854775807)) <|
                need (decide (s4.length + (([32] : List UInt8) : List UInt8).length ≤ 9223372036854775807)) <|
                need (decide ((s4 ++ ([32] : List UInt8)).length + (([120] : List UInt8) ++ s26 : List UInt8).length ≤ 9223372036854775807)) <|
                (R id_propsTake [AV.bytes ((s4 ++ ([32] : List UInt8)) ++ (([120] : List UInt8) ++ s26))]).bind fun r31 =>
                asAIBT r31.v fun s31 s32 i17 b26 =>
                (R id_propsTake [AV.bytes s4]).bind fun r32 =>
                asAIBT r32.v fun s33 s34 i18 b27 =>
                bif s4 == ([] : List UInt8) then
                  (bif b27 then
                    (bif (i18 : Int) == 0 then
                      (bif (s33 == s3) && ((s34 == s2) && (true)) then
                        ((R id_law10Wakes []).bind fun r33 =>
                        asB r33.v fun b28 =>
                        some ⟨AV.bool b28, false, []⟩)
                      else
                        some ⟨AV.bool false, false, []⟩)
                    else
                      some ⟨AV.bool false, false, []⟩)
                  else
                    some ⟨AV.bool false, false, []⟩)
                else
                  bif b26 then
                    (bif b27 then
                      (bif (s31 == s3) && ((s32 == s2) && (true)) then
                        (bif (s33 == s3) && ((s34 == s2) && (true)) then
                          (bif (i17 : Int) == ((s4.length : Nat) : Int) then
                            (bif (i18 : Int) == ((s4.length : Nat) : Int) then
                              ((R id_law10Wakes []).bind fun r34 =>
                              asB r34.v fun b29 =>
                              some ⟨AV.bool b29, false, []⟩)
                            else
                              some ⟨AV.bool false, false, []⟩)
                          else
                            some ⟨AV.bool false, false, []⟩)
                        else
                          some ⟨AV.bool false, false, []⟩)
                      else
                        some ⟨AV.bool false, false, []⟩)
                    else
                      some ⟨AV.bool false, false, []⟩)
                  else
                    some ⟨AV.bool false, false, []⟩)
              else
                need (decide (0 ≤ (0 : Int))) <|
                (s26[Int.toNat 0]?).bind fun c6 =>
                bif ((c6.toNat : Int) : Int) == 32 then
                  (need (decide ((([120] : List UInt8) : List UInt8).length + s26.length ≤ 9223372036854775807)) <|
                  need (decide (s4.length + (([32] : List UInt8) : List UInt8).length ≤ 9223372036854775807)) <|
                  need (decide ((s4 ++ ([32] : List UInt8)).length + (([120] : List UInt8) ++ s26 : List UInt8).length ≤ 9223372036854775807)) <|
                  (R id_propsTake [AV.bytes ((s4 ++ ([32] : List UInt8)) ++ (([120] : List UInt8) ++ s26))]).bind fun r35 =>
                  asAIBT r35.v fun s35 s36 i19 b30 =>
                  (R id_propsTake [AV.bytes s4]).bind fun r36 =>
                  asAIBT r36.v fun s37 s38 i20 b31 =>
                  bif s4 == ([] : List UInt8) then
                    (bif b31 then
                      (bif (i20 : Int) == 0 then
                        (bif (s37 == s3) && ((s38 == s2) && (true)) then
                          ((R id_law10Wakes []).bind fun r37 =>
                          asB r37.v fun b32 =>
                          some ⟨AV.bool b32, false, []⟩)
                        else
                          some ⟨AV.bool false, false, []⟩)
                      else
                        some ⟨AV.bool false, false, []⟩)
                    else
                      some ⟨AV.bool false, false, []⟩)
                  else
                    bif b30 then
                      (bif b31 then
                        (bif (s35 == s3) && ((s36 == s2) && (true)) then
                          (bif (s37 == s3) && ((s38 == s2) && (true)) then
                            (bif (i19 : Int) == ((s4.length : Nat) : Int) then
                              (bif (i20 : Int) == ((s4.length : Nat) : Int) then
                                ((R id_law10Wakes []).bind fun r38 =>
                                asB r38.v fun b33 =>
                                some ⟨AV.bool b33, false, []⟩)
                              else
                                some ⟨AV.bool false, false, []⟩)
                            else
                              some ⟨AV.bool false, false, []⟩)
                          else
                            some ⟨AV.bool false, false, []⟩)
                        else
                          some ⟨AV.bool false, false, []⟩)
                      else
                        some ⟨AV.bool false, false, []⟩)
                    else
                      some ⟨AV.bool false, false, []⟩)
                else
                  need (decide (s4.length + (([32] : List UInt8) : List UInt8).length ≤ 9223372036854775807)) <|
                  need (decide ((s4 ++ ([32] : List UInt8)).length + s26.length ≤ 9223372036854775807)) <|
                  (R id_propsTake [AV.bytes ((s4 ++ ([32] : List UInt8)) ++ s26)]).bind fun r39 =>
                  asAIBT r39.v fun s39 s40 i21 b34 =>
                  (R id_propsTake [AV.bytes s4]).bind fun r40 =>
                  asAIBT r40.v fun s41 s42 i22 b35 =>
                  bif s4 == ([] : List UInt8) then
                    (bif b35 then
                      (bif (i22 : Int) == 0 then
                        (bif (s41 == s3) && ((s42 == s2) && (true)) then
                          ((R id_law10Wakes []).bind fun r41 =>
                          asB r41.v fun b36 =>
                          some ⟨AV.bool b36, false, []⟩)
                        else
                          some ⟨AV.bool false, false, []⟩)
                      else
                        some ⟨AV.bool false, false, []⟩)
                    else
                      some ⟨AV.bool false, false, []⟩)
                  else
                    bif b34 then
                      (bif b35 then
                        (bif (s39 == s3) && ((s40 == s2) && (true)) then
                          (bif (s41 == s3) && ((s42 == s2) && (true)) then
                            (bif (i21 : Int) == ((s4.length : Nat) : Int) then
                              (bif (i22 : Int) == ((s4.length : Nat) : Int) then
                                ((R id_law10Wakes []).bind fun r42 =>
                                asB r42.v fun b37 =>
                                some ⟨AV.bool b37, false, []⟩)
                              else
                                some ⟨AV.bool false, false, []⟩)
                            else
                              some ⟨AV.bool false, false, []⟩)
                          else
                            some ⟨AV.bool false, false, []⟩)
                        else
                          some ⟨AV.bool false, false, []⟩)
                      else
                        some ⟨AV.bool false, false, []⟩)
                    else
                      some ⟨AV.bool false, false, []⟩)
          else
            need (decide (s4.length + (([32] : List UInt8) : List UInt8).length ≤ 9223372036854775807)) <|
            need (decide ((s4 ++ ([32] : List UInt8)).length + s26.length ≤ 9223372036854775807)) <|
            (R id_propsTake [AV.bytes ((s4 ++ ([32] : List UInt8)) ++ s26)]).bind fun r43 =>
            asAIBT r43.v fun s43 s44 i23 b38 =>
            (R id_propsTake [AV.bytes s4]).bind fun r44 =>
            asAIBT r44.v fun s45 s46 i24 b39 =>
            bif s4 == ([] : List UInt8) then
              (bif b39 then
                (bif (i24 : Int) == 0 then
                  (bif (s45 == s3) && ((s46 == s2) && (true)) then
                    ((R id_law10Wakes []).bind fun r45 =>
                    asB r45.v fun b40 =>
                    some ⟨AV.bool b40, false, []⟩)
                  else
                    some ⟨AV.bool false, false, []⟩)
                else
                  some ⟨AV.bool false, false, []⟩)
              else
                some ⟨AV.bool false, false, []⟩)
            else
              bif b38 then
                (bif b39 then
                  (bif (s43 == s3) && ((s44 == s2) && (true)) then
                    (bif (s45 == s3) && ((s46 == s2) && (true)) then
                      (bif (i23 : Int) == ((s4.length : Nat) : Int) then
                        (bif (i24 : Int) == ((s4.length : Nat) : Int) then
                          ((R id_law10Wakes []).bind fun r46 =>
                          asB r46.v fun b41 =>
                          some ⟨AV.bool b41, false, []⟩)
                        else
                          some ⟨AV.bool false, false, []⟩)
                      else
                        some ⟨AV.bool false, false, []⟩)
                    else
                      some ⟨AV.bool false, false, []⟩)
                  else
                    some ⟨AV.bool false, false, []⟩)
                else
                  some ⟨AV.bool false, false, []⟩)
              else
                some ⟨AV.bool false, false, []⟩)
      else
        (R id_keepText [AV.str s1, AV.int .i64 10]).bind fun r47 =>
        asS r47.v fun s47 =>
        bif decide ((((s47.length : Nat) : Int) : Int) > 0) then
          (need (decide (0 ≤ (0 : Int))) <|
          (s47[Int.toNat 0]?).bind fun c7 =>
          bif ((c7.toNat : Int) : Int) == 38 then
            (need (decide ((([120] : List UInt8) : List UInt8).length + s47.length ≤ 9223372036854775807)) <|
            need (decide (s4.length + (([32] : List UInt8) : List UInt8).length ≤ 9223372036854775807)) <|
            need (decide ((s4 ++ ([32] : List UInt8)).length + (([120] : List UInt8) ++ s47 : List UInt8).length ≤ 9223372036854775807)) <|
            (R id_propsTake [AV.bytes ((s4 ++ ([32] : List UInt8)) ++ (([120] : List UInt8) ++ s47))]).bind fun r48 =>
            asAIBT r48.v fun s48 s49 i25 b42 =>
            (R id_propsTake [AV.bytes s4]).bind fun r49 =>
            asAIBT r49.v fun s50 s51 i26 b43 =>
            bif s4 == ([] : List UInt8) then
              (bif b43 then
                (bif (i26 : Int) == 0 then
                  (bif (s50 == s3) && ((s51 == s2) && (true)) then
                    ((R id_law10Wakes []).bind fun r50 =>
                    asB r50.v fun b44 =>
                    some ⟨AV.bool b44, false, []⟩)
                  else
                    some ⟨AV.bool false, false, []⟩)
                else
                  some ⟨AV.bool false, false, []⟩)
              else
                some ⟨AV.bool false, false, []⟩)
            else
              bif b42 then
                (bif b43 then
                  (bif (s48 == s3) && ((s49 == s2) && (true)) then
                    (bif (s50 == s3) && ((s51 == s2) && (true)) then
                      (bif (i25 : Int) == ((s4.length : Nat) : Int) then
                        (bif (i26 : Int) == ((s4.length : Nat) : Int) then
                          ((R id_law10Wakes []).bind fun r51 =>
                          asB r51.v fun b45 =>
                          some ⟨AV.bool b45, false, []⟩)
                        else
                          some ⟨AV.bool false, false, []⟩)
                      else
                        some ⟨AV.bool false, false, []⟩)
                    else
                      some ⟨AV.bool false, false, []⟩)
                  else
                    some ⟨AV.bool false, false, []⟩)
                else
                  some ⟨AV.bool false, false, []⟩)
              else
                some ⟨AV.bool false, false, []⟩)
          else
            need (decide (0 ≤ (0 : Int))) <|
            (s47[Int.toNat 0]?).bind fun c8 =>
            bif ((c8.toNat : Int) : Int) == 33 then
              (need (decide ((([120] : List UInt8) : List UInt8).length + s47.length ≤ 9223372036854775807)) <|
              need (decide (s4.length + (([32] : List UInt8) : List UInt8).length ≤ 9223372036854775807)) <|
              need (decide ((s4 ++ ([32] : List UInt8)).length + (([120] : List UInt8) ++ s47 : List UInt8).length ≤ 9223372036854775807)) <|
              (R id_propsTake [AV.bytes ((s4 ++ ([32] : List UInt8)) ++ (([120] : List UInt8) ++ s47))]).bind fun r52 =>
              asAIBT r52.v fun s52 s53 i27 b46 =>
              (R id_propsTake [AV.bytes s4]).bind fun r53 =>
              asAIBT r53.v fun s54 s55 i28 b47 =>
              bif s4 == ([] : List UInt8) then
                (bif b47 then
                  (bif (i28 : Int) == 0 then
                    (bif (s54 == s3) && ((s55 == s2) && (true)) then
                      ((R id_law10Wakes []).bind fun r54 =>
                      asB r54.v fun b48 =>
                      some ⟨AV.bool b48, false, []⟩)
                    else
                      some ⟨AV.bool false, false, []⟩)
                  else
                    some ⟨AV.bool false, false, []⟩)
                else
                  some ⟨AV.bool false, false, []⟩)
              else
                bif b46 then
                  (bif b47 then
                    (bif (s52 == s3) && ((s53 == s2) && (true)) then
                      (bif (s54 == s3) && ((s55 == s2) && (true)) then
                        (bif (i27 : Int) == ((s4.length : Nat) : Int) then
                          (bif (i28 : Int) == ((s4.length : Nat) : Int) then
                            ((R id_law10Wakes []).bind fun r55 =>
                            asB r55.v fun b49 =>
                            some ⟨AV.bool b49, false, []⟩)
                          else
                            some ⟨AV.bool false, false, []⟩)
                        else
                          some ⟨AV.bool false, false, []⟩)
                      else
                        some ⟨AV.bool false, false, []⟩)
                    else
                      some ⟨AV.bool false, false, []⟩)
                  else
                    some ⟨AV.bool false, false, []⟩)
                else
                  some ⟨AV.bool false, false, []⟩)
            else
              need (decide (0 ≤ (0 : Int))) <|
              (s47[Int.toNat 0]?).bind fun c9 =>
              bif ((c9.toNat : Int) : Int) == 32 then
                (need (decide ((([120] : List UInt8) : List UInt8).length + s47.length ≤ 9223372036854775807)) <|
                need (decide (s4.length + (([32] : List UInt8) : List UInt8).length ≤ 9223372036854775807)) <|
                need (decide ((s4 ++ ([32] : List UInt8)).length + (([120] : List UInt8) ++ s47 : List UInt8).length ≤ 9223372036854775807)) <|
                (R id_propsTake [AV.bytes ((s4 ++ ([32] : List UInt8)) ++ (([120] : List UInt8) ++ s47))]).bind fun r56 =>
                asAIBT r56.v fun s56 s57 i29 b50 =>
                (R id_propsTake [AV.bytes s4]).bind fun r57 =>
                asAIBT r57.v fun s58 s59 i30 b51 =>
                bif s4 == ([] : List UInt8) then
                  (bif b51 then
                    (bif (i30 : Int) == 0 then
                      (bif (s58 == s3) && ((s59 == s2) && (true)) then
                        ((R id_law10Wakes []).bind fun r58 =>
                        asB r58.v fun b52 =>
                        some ⟨AV.bool b52, false, []⟩)
                      else
                        some ⟨AV.bool false, false, []⟩)
                    else
                      some ⟨AV.bool false, false, []⟩)
                  else
                    some ⟨AV.bool false, false, []⟩)
                else
                  bif b50 then
                    (bif b51 then
                      (bif (s56 == s3) && ((s57 == s2) && (true)) then
                        (bif (s58 == s3) && ((s59 == s2) && (true)) then
                          (bif (i29 : Int) == ((s4.length : Nat) : Int) then
                            (bif (i30 : Int) == ((s4.length : Nat) : Int) then
                              ((R id_law10Wakes []).bind fun r59 =>
                              asB r59.v fun b53 =>
                              some ⟨AV.bool b53, false, []⟩)
                            else
                              some ⟨AV.bool false, false, []⟩)
                          else
                            some ⟨AV.bool false, false, []⟩)
                        else
                          some ⟨AV.bool false, false, []⟩)
                      else
                        some ⟨AV.bool false, false, []⟩)
                    else
                      some ⟨AV.bool false, false, []⟩)
                  else
                    some ⟨AV.bool false, false, []⟩)
              else
                need (decide (s4.length + (([32] : List UInt8) : List UInt8).length ≤ 9223372036854775807)) <|
                need (decide ((s4 ++ ([32] : List UInt8)).length + s47.length ≤ 9223372036854775807)) <|
                (R id_propsTake [AV.bytes ((s4 ++ ([32] : List UInt8)) ++ s47)]).bind fun r60 =>
                asAIBT r60.v fun s60 s61 i31 b54 =>
                (R id_propsTake [AV.bytes s4]).bind fun r61 =>
                asAIBT r61.v fun s62 s63 i32 b55 =>
                bif s4 == ([] : List UInt8) then
                  (bif b55 then
                    (bif (i32 : Int) == 0 then
                      (bif (s62 == s3) && ((s63 == s2) && (true)) then
                        ((R id_law10Wakes []).bind fun r62 =>
                        asB r62.v fun b56 =>
                        some ⟨AV.bool b56, false, []⟩)
                      else
                        some ⟨AV.bool false, false, []⟩)
                    else
                      some ⟨AV.bool false, false, []⟩)
                  else
                    some ⟨AV.bool false, false, []⟩)
                else
                  bif b54 then
                    (bif b55 then
                      (bif (s60 == s3) && ((s61 == s2) && (true)) then
                        (bif (s62 == s3) && ((s63 == s2) && (true)) then
                          (bif (i31 : Int) == ((s4.length : Nat) : Int) then
                            (bif (i32 : Int) == ((s4.length : Nat) : Int) then
                              ((R id_law10Wakes []).bind fun r63 =>
                              asB r63.v fun b57 =>
                              some ⟨AV.bool b57, false, []⟩)
                            else
                              some ⟨AV.bool false, false, []⟩)
                          else
                            some ⟨AV.bool false, false, []⟩)
                        else
                          some ⟨AV.bool false, false, []⟩)
                      else
                        some ⟨AV.bool false, false, []⟩)
                    else
                      some ⟨AV.bool false, false, []⟩)
                  else
                    some ⟨AV.bool false, false, []⟩)
        else
          need (decide (s4.length + (([32] : List UInt8) : List UInt8).length ≤ 9223372036854775807)) <|
          need (decide ((s4 ++ ([32] : List UInt8)).length + s47.length ≤ 9223372036854775807)) <|
          (R id_propsTake [AV.bytes ((s4 ++ ([32] : List UInt8)) ++ s47)]).bind fun r64 =>
          asAIBT r64.v fun s64 s65 i33 b58 =>
          (R id_propsTake [AV.bytes s4]).bind fun r65 =>
          asAIBT r65.v fun s66 s67 i34 b59 =>
          bif s4 == ([] : List UInt8) then
            (bif b59 then
              (bif (i34 : Int) == 0 then
                (bif (s66 == s3) && ((s67 == s2) && (true)) then
                  ((R id_law10Wakes []).bind fun r66 =>
                  asB r66.v fun b60 =>
                  some ⟨AV.bool b60, false, []⟩)
                else
                  some ⟨AV.bool false, false, []⟩)
              else
                some ⟨AV.bool false, false, []⟩)
            else
              some ⟨AV.bool false, false, []⟩)
          else
            bif b58 then
              (bif b59 then
                (bif (s64 == s3) && ((s65 == s2) && (true)) then
                  (bif (s66 == s3) && ((s67 == s2) && (true)) then
                    (bif (i33 : Int) == ((s4.length : Nat) : Int) then
                      (bif (i34 : Int) == ((s4.length : Nat) : Int) then
                        ((R id_law10Wakes []).bind fun r67 =>
                        asB r67.v fun b61 =>
                        some ⟨AV.bool b61, false, []⟩)
                      else
                        some ⟨AV.bool false, false, []⟩)
                    else
                      some ⟨AV.bool false, false, []⟩)
                  else
                    some ⟨AV.bool false, false, []⟩)
                else
                  some ⟨AV.bool false, false, []⟩)
              else
                some ⟨AV.bool false, false, []⟩)
            else
              some ⟨AV.bool false, false, []⟩)
    else
      (R id_keepText [AV.str s1, AV.int .i64 10]).bind fun r68 =>
      asS r68.v fun s68 =>
      bif decide ((((s68.length : Nat) : Int) : Int) > 0) then
        (need (decide (0 ≤ (0 : Int))) <|
        (s68[Int.toNat 0]?).bind fun c10 =>
        bif ((c10.toNat : Int) : Int) == 38 then
          (need (decide ((([120] : List UInt8) : List UInt8).length + s68.length ≤ 9223372036854775807)) <|
          need (decide (s4.length + (([32] : List UInt8) : List UInt8).length ≤ 9223372036854775807)) <|
          need (decide ((s4 ++ ([32] : List UInt8)).length + (([120] : List UInt8) ++ s68 : List UInt8).length ≤ 9223372036854775807)) <|
          (R id_propsTake [AV.bytes ((s4 ++ ([32] : List UInt8)) ++ (([120] : List UInt8) ++ s68))]).bind fun r69 =>
          asAIBT r69.v fun s69 s70 i35 b62 =>
          (R id_propsTake [AV.bytes s4]).bind fun r70 =>
          asAIBT r70.v fun s71 s72 i36 b63 =>
          bif s4 == ([] : List UInt8) then
            (bif b63 then
              (bif (i36 : Int) == 0 then
                (bif (s71 == s3) && ((s72 == s2) && (true)) then
                  ((R id_law10Wakes []).bind fun r71 =>
                  asB r71.v fun b64 =>
                  some ⟨AV.bool b64, false, []⟩)
                else
                  some ⟨AV.bool false, false, []⟩)
              else
                some ⟨AV.bool false, false, []⟩)
            else
              some ⟨AV.bool false, false, []⟩)
          else
            bif b62 then
              (bif b63 then
                (bif (s69 == s3) && ((s70 == s2) && (true)) then
                  (bif (s71 == s3) && ((s72 == s2) && (true)) then
                    (bif (i35 : Int) == ((s4.length : Nat) : Int) then
                      (bif (i36 : Int) == ((s4.length : Nat) : Int) then
                        ((R id_law10Wakes []).bind fun r72 =>
                        asB r72.v fun b65 =>
                        some ⟨AV.bool b65, false, []⟩)
                      else
                        some ⟨AV.bool false, false, []⟩)
                    else
                      some ⟨AV.bool false, false, []⟩)
                  else
                    some ⟨AV.bool false, false, []⟩)
                else
                  some ⟨AV.bool false, false, []⟩)
              else
                some ⟨AV.bool false, false, []⟩)
            else
              some ⟨AV.bool false, false, []⟩)
        else
          need (decide (0 ≤ (0 : Int))) <|
          (s68[Int.toNat 0]?).bind fun c11 =>
          bif ((c11.toNat : Int) : Int) == 33 then
            (need (decide ((([120] : List UInt8) : List UInt8).length + s68.length ≤ 9223372036854775807)) <|
            need (decide (s4.length + (([32] : List UInt8) : List UInt8).length ≤ 9223372036854775807)) <|
            need (decide ((s4 ++ ([32] : List UInt8)).length + (([120] : List UInt8) ++ s68 : List UInt8).length ≤ 9223372036854775807)) <|
            (R id_propsTake [AV.bytes ((s4 ++ ([32] : List UInt8)) ++ (([120] : List UInt8) ++ s68))]).bind fun r73 =>
            asAIBT r73.v fun s73 s74 i37 b66 =>
            (R id_propsTake [AV.bytes s4]).bind fun r74 =>
            asAIBT r74.v fun s75 s76 i38 b67 =>
            bif s4 == ([] : List UInt8) then
              (bif b67 then
                (bif (i38 : Int) == 0 then
                  (bif (s75 == s3) && ((s76 == s2) && (true)) then
                    ((R id_law10Wakes []).bind fun r75 =>
                    asB r75.v fun b68 =>
                    some ⟨AV.bool b68, false, []⟩)
                  else
                    some ⟨AV.bool false, false, []⟩)
                else
                  some ⟨AV.bool false, false, []⟩)
              else
                some ⟨AV.bool false, false, []⟩)
            else
              bif b66 then
                (bif b67 then
                  (bif (s73 == s3) && ((s74 == s2) && (true)) then
                    (bif (s75 == s3) && ((s76 == s2) && (true)) then
                      (bif (i37 : Int) == ((s4.length : Nat) : Int) then
                        (bif (i38 : Int) == ((s4.length : Nat) : Int) then
                          ((R id_law10Wakes []).bind fun r76 =>
                          asB r76.v fun b69 =>
                          some ⟨AV.bool b69, false, []⟩)
                        else
                          some ⟨AV.bool false, false, []⟩)
                      else
                        some ⟨AV.bool false, false, []⟩)
                    else
                      some ⟨AV.bool false, false, []⟩)
                  else
                    some ⟨AV.bool false, false, []⟩)
                else
                  some ⟨AV.bool false, false, []⟩)
              else
                some ⟨AV.bool false, false, []⟩)
          else
            need (decide (0 ≤ (0 : Int))) <|
            (s68[Int.toNat 0]?).bind fun c12 =>
            bif ((c12.toNat : Int) : Int) == 32 then
              (need (decide ((([120] : List UInt8) : List UInt8).length + s68.length ≤ 9223372036854775807)) <|
              need (decide (s4.length + (([32] : List UInt8) : List UInt8).length ≤ 9223372036854775807)) <|
              need (decide ((s4 ++ ([32] : List UInt8)).length + (([120] : List UInt8) ++ s68 : List UInt8).length ≤ 9223372036854775807)) <|
              (R id_propsTake [AV.bytes ((s4 ++ ([32] : List UInt8)) ++ (([120] : List UInt8) ++ s68))]).bind fun r77 =>
              asAIBT r77.v fun s77 s78 i39 b70 =>
              (R id_propsTake [AV.bytes s4]).bind fun r78 =>
              asAIBT r78.v fun s79 s80 i40 b71 =>
              bif s4 == ([] : List UInt8) then
                (bif b71 then
                  (bif (i40 : Int) == 0 then
                    (bif (s79 == s3) && ((s80 == s2) && (true)) then
                      ((R id_law10Wakes []).bind fun r79 =>
                      asB r79.v fun b72 =>
                      some ⟨AV.bool b72, false, []⟩)
                    else
                      some ⟨AV.bool false, false, []⟩)
                  else
                    some ⟨AV.bool false, false, []⟩)
                else
                  some ⟨AV.bool false, false, []⟩)
              else
                bif b70 then
                  (bif b71 then
                    (bif (s77 == s3) && ((s78 == s2) && (true)) then
                      (bif (s79 == s3) && ((s80 == s2) && (true)) then
                        (bif (i39 : Int) == ((s4.length : Nat) : Int) then
                          (bif (i40 : Int) == ((s4.length : Nat) : Int) then
                            ((R id_law10Wakes []).bind fun r80 =>
                            asB r80.v fun b73 =>
                            some ⟨AV.bool b73, false, []⟩)
                          else
                            some ⟨AV.bool false, false, []⟩)
                        else
                          some ⟨AV.bool false, false, []⟩)
                      else
                        some ⟨AV.bool false, false, []⟩)
                    else
                      some ⟨AV.bool false, false, []⟩)
                  else
                    some ⟨AV.bool false, false, []⟩)
                else
                  some ⟨AV.bool false, false, []⟩)
            else
              need (decide (s4.length + (([32] : List UInt8) : List UInt8).length ≤ 9223372036854775807)) <|
              need (decide ((s4 ++ ([32] : List UInt8)).length + s68.length ≤ 9223372036854775807)) <|
              (R id_propsTake [AV.bytes ((s4 ++ ([32] : List UInt8)) ++ s68)]).bind fun r81 =>
              asAIBT r81.v fun s81 s82 i41 b74 =>
              (R id_propsTake [AV.bytes s4]).bind fun r82 =>
              asAIBT r82.v fun s83 s84 i42 b75 =>
              bif s4 == ([] : List UInt8) then
                (bif b75 then
                  (bif (i42 : Int) == 0 then
                    (bif (s83 == s3) && ((s84 == s2) && (true)) then
                      ((R id_law10Wakes []).bind fun r83 =>
                      asB r83.v fun b76 =>
                      some ⟨AV.bool b76, false, []⟩)
                    else
                      some ⟨AV.bool false, false, []⟩)
                  else
                    some ⟨AV.bool false, false, []⟩)
                else
                  some ⟨AV.bool false, false, []⟩)
              else
                bif b74 then
                  (bif b75 then
                    (bif (s81 == s3) && ((s82 == s2) && (true)) then
                      (bif (s83 == s3) && ((s84 == s2) && (true)) then
                        (bif (i41 : Int) == ((s4.length : Nat) : Int) then
                          (bif (i42 : Int) == ((s4.length : Nat) : Int) then
                            ((R id_law10Wakes []).bind fun r84 =>
                            asB r84.v fun b77 =>
                            some ⟨AV.bool b77, false, []⟩)
                          else
                            some ⟨AV.bool false, false, []⟩)
                        else
                          some ⟨AV.bool false, false, []⟩)
                      else
                        some ⟨AV.bool false, false, []⟩)
                    else
                      some ⟨AV.bool false, false, []⟩)
                  else
                    some ⟨AV.bool false, false, []⟩)
                else
                  some ⟨AV.bool false, false, []⟩)
      else
        need (decide (s4.length + (([32] : List UInt8) : List UInt8).length ≤ 9223372036854775807)) <|
        need (decide ((s4 ++ ([32] : List UInt8)).length + s68.length ≤ 9223372036854775807)) <|
        (R id_propsTake [AV.bytes ((s4 ++ ([32] : List UInt8)) ++ s68)]).bind fun r85 =>
        asAIBT r85.v fun s85 s86 i43 b78 =>
        (R id_propsTake [AV.bytes s4]).bind fun r86 =>
        asAIBT r86.v fun s87 s88 i44 b79 =>
        bif s4 == ([] : List UInt8) then
          (bif b79 then
            (bif (i44 : Int) == 0 then
              (bif (s87 == s3) && ((s88 == s2) && (true)) then
                ((R id_law10Wakes []).bind fun r87 =>
                asB r87.v fun b80 =>
                some ⟨AV.bool b80, false, []⟩)
              else
                some ⟨AV.bool false, false, []⟩)
            else
              some ⟨AV.bool false, false, []⟩)
          else
            some ⟨AV.bool false, false, []⟩)
        else
          bif b78 then
            (bif b79 then
              (bif (s85 == s3) && ((s86 == s2) && (true)) then
                (bif (s87 == s3) && ((s88 == s2) && (true)) then
                  (bif (i43 : Int) == ((s4.length : Nat) : Int) then
                    (bif (i44 : Int) == ((s4.length : Nat) : Int) then
                      ((R id_law10Wakes []).bind fun r88 =>
                      asB r88.v fun b81 =>
                      some ⟨AV.bool b81, false, []⟩)
                    else
                      some ⟨AV.bool false, false, []⟩)
                  else
                    some ⟨AV.bool false, false, []⟩)
                else
                  some ⟨AV.bool false, false, []⟩)
              else
                some ⟨AV.bool false, false, []⟩)
            else
              some ⟨AV.bool false, false, []⟩)
          else
            some ⟨AV.bool false, false, []⟩)
  else
    (R id_keepWithin [AV.int .i64 i2, AV.int .i64 5]).bind fun r89 =>
    asI .i64 r89.v fun i45 =>
    need (decide (0 ≤ (i45 : Int))) <|
    (([AV.str ([] : List UInt8), AV.str ([33] : List UInt8), AV.str ([33, 120] : List UInt8), AV.str ([33, 33, 115, 116, 114] : List UInt8), AV.str ([33, 33, 109, 97, 112] : List UInt8)] : List AV)[Int.toNat i45]?).bind fun e2 =>
    asS e2 fun s89 =>
    (R id_propsPut [AV.agg [AV.str s89, AV.str []]]).bind fun r90 =>
    asS r90.v fun s90 =>
    bif b1 then
      (bif !([] == ([] : List UInt8)) then
        (bif !(s89 == ([] : List UInt8)) then
          (need (decide (s89.length + (([32, 32, 38] : List UInt8) : List UInt8).length ≤ 9223372036854775807)) <|
          need (decide ((s89 ++ ([32, 32, 38] : List UInt8)).length + ([] : List UInt8).length ≤ 9223372036854775807)) <|
          (R id_keepText [AV.str s1, AV.int .i64 10]).bind fun r91 =>
          asS r91.v fun s91 =>
          bif decide ((((s91.length : Nat) : Int) : Int) > 0) then
            (need (decide (0 ≤ (0 : Int))) <|
            (s91[Int.toNat 0]?).bind fun c13 =>
            bif ((c13.toNat : Int) : Int) == 38 then
              (need (decide ((([120] : List UInt8) : List UInt8).length + s91.length ≤ 9223372036854775807)) <|
              need (decide (((s89 ++ ([32, 32, 38] : List UInt8)) ++ []).length + (([32] : List UInt8) : List UInt8).length ≤ 9223372036854775807)) <|
              need (decide ((((s89 ++ ([32, 32, 38] : List UInt8)) ++ []) ++ ([32] : List UInt8)).length + (([120] : List UInt8) ++ s91 : List UInt8).length ≤ 9223372036854775807)) <|
              (R id_propsTake [AV.bytes ((((s89 ++ ([32, 32, 38] : List UInt8)) ++ []) ++ ([32] : List UInt8)) ++ (([120] : List UInt8) ++ s91))]).bind fun r92 =>
              asAIBT r92.v fun s92 s93 i46 b82 =>
              (R id_propsTake [AV.bytes ((s89 ++ ([32, 32, 38] : List UInt8)) ++ [])]).bind fun r93 =>
              asAIBT r93.v fun s94 s95 i47 b83 =>
              bif ((s89 ++ ([32, 32, 38] : List UInt8)) ++ []) == ([] : List UInt8) then
                (bif b83 then
                  (bif (i47 : Int) == 0 then
                    (bif (s94 == s89) && ((s95 == []) && (true)) then
                      ((R id_law10Wakes []).bind fun r94 =>
                      asB r94.v fun b84 =>
                      some ⟨AV.bool b84, false, []⟩)
                    else
                      some ⟨AV.bool false, false, []⟩)
                  else
                    some ⟨AV.bool false, false, []⟩)
                else
                  some ⟨AV.bool false, false, []⟩)
              else
                bif b82 then
                  (bif b83 then
                    (bif (s92 == s89) && ((s93 == []) && (true)) then
                      (bif (s94 == s89) && ((s95 == []) && (true)) then
                        (bif (i46 : Int) == ((((s89 ++ ([32, 32, 38] : List UInt8)) ++ []).length : Nat) : Int) then
                          (bif (i47 : Int) == ((((s89 ++ ([32, 32, 38] : List UInt8)) ++ []).length : Nat) : Int) then
                            ((R id_law10Wakes []).bind fun r95 =>
                            asB r95.v fun b85 =>
                            some ⟨AV.bool b85, false, []⟩)
                          else
                            some ⟨AV.bool false, false, []⟩)
                        else
                          some ⟨AV.bool false, false, []⟩)
                      else
                        some ⟨AV.bool false, false, []⟩)
                    else
                      some ⟨AV.bool false, false, []⟩)
                  else
                    some ⟨AV.bool false, false, []⟩)
                else
                  some ⟨AV.bool false, false, []⟩)
            else
              need (decide (0 ≤ (0 : Int))) <|
              (s91[Int.toNat 0]?).bind fun c14 =>
              bif ((c14.toNat : Int) : Int) == 33 then
                (need (decide ((([120] : List UInt8) : List UInt8).length + s91.length ≤ 9223372036854775807)) <|
                need (decide (((s89 ++ ([32, 32, 38] : List UInt8)) ++ []).length + (([32] : List UInt8) : List UInt8).length ≤ 9223372036854775807)) <|
                need (decide ((((s89 ++ ([32, 32, 38] : List UInt8)) ++ []) ++ ([32] : List UInt8)).length + (([120] : List UInt8) ++ s91 : List UInt8).length ≤ 9223372036854775807)) <|
                (R id_propsTake [AV.bytes ((((s89 ++ ([32, 32, 38] : List UInt8)) ++ []) ++ ([32] : List UInt8)) ++ (([120] : List UInt8) ++ s91))]).bind fun r96 =>
                asAIBT r96.v fun s96 s97 i48 b86 =>
                (R id_propsTake [AV.bytes ((s89 ++ ([32, 32, 38] : List UInt8)) ++ [])]).bind fun r97 =>
                asAIBT r97.v fun s98 s99 i49 b87 =>
                bif ((s89 ++ ([32, 32, 38] : List UInt8)) ++ []) == ([] : List UInt8) then
                  (bif b87 then
                    (bif (i49 : Int) == 0 then
                      (bif (s98 == s89) && ((s99 == []) && (true)) then
                        ((R id_law10Wakes []).bind fun r98 =>
                        asB r98.v fun b88 =>
                        some ⟨AV.bool b88, false, []⟩)
                      else
                        some ⟨AV.bool false, false, []⟩)
                    else
                      some ⟨AV.bool false, false, []⟩)
                  else
                    some ⟨AV.bool false, false, []⟩)
                else
                  bif b86 then
                    (bif b87 then
                      (bif (s96 == s89) && ((s97 == []) && (true)) then
                        (bif (s98 == s89) && ((s99 == []) && (true)) then
                          (bif (i48 : Int) == ((((s89 ++ ([32, 32, 38] : List UInt8)) ++ []).length : Nat) : Int) then
                            (bif (i49 : Int) == ((((s89 ++ ([32, 32, 38] : List UInt8)) ++ []).length : Nat) : Int) then
                              ((R id_law10Wakes []).bind fun r99 =>
                              asB r99.v fun b89 =>
                              some ⟨AV.bool b89, false, []⟩)
                            else
                              some ⟨AV.bool false, false, []⟩)
                          else
                            some ⟨AV.bool false, false, []⟩)
                        else
                          some ⟨AV.bool false, false, []⟩)
                      else
                        some ⟨AV.bool false, false, []⟩)
                    else
                      some ⟨AV.bool false, false, []⟩)
                  else
                    some ⟨AV.bool false, false, []⟩)
              else
                need (decide (0 ≤ (0 : Int))) <|
                (s91[Int.toNat 0]?).bind fun c15 =>
                bif ((c15.toNat : Int) : Int) == 32 then
                  (need (decide ((([120] : List UInt8) : List UInt8).length + s91.length ≤ 9223372036854775807)) <|
                  need (decide (((s89 ++ ([32, 32, 38] : List UInt8)) ++ []).length + (([32] : List UInt8) : List UInt8).length ≤ 9223372036854775807)) <|
                  need (decide ((((s89 ++ ([32, 32, 38] : List UInt8)) ++ []) ++ ([32] : List UInt8)).length + (([120] : List UInt8) ++ s91 : List UInt8).length ≤ 9223372036854775807)) <|
                  (R id_propsTake [AV.bytes ((((s89 ++ ([32, 32, 38] : List UInt8)) ++ []) ++ ([32] : List UInt8)) ++ (([120] : List UInt8) ++ s91))]).bind fun r100 =>
                  asAIBT r100.v fun s100 s101 i50 b90 =>
                  (R id_propsTake [AV.bytes ((s89 ++ ([32, 32, 38] : List UInt8)) ++ [])]).bind fun r101 =>
                  asAIBT r101.v fun s102 s103 i51 b91 =>
                  bif ((s89 ++ ([32, 32, 38] : List UInt8)) ++ []) == ([] : List UInt8) then
                    (bif b91 then
                      (bif (i51 : Int) == 0 then
                        (bif (s102 == s89) && ((s103 == []) && (true)) then
                          ((R id_law10Wakes []).bind fun r102 =>
                          asB r102.v fun b92 =>
                          some ⟨AV.bool b92, false, []⟩)
                        else
                          some ⟨AV.bool false, false, []⟩)
                      else
                        some ⟨AV.bool false, false, []⟩)
                    else
                      some ⟨AV.bool false, false, []⟩)
                  else
                    bif b90 then
                      (bif b91 then
                        (bif (s100 == s89) && ((s101 == []) && (true)) then
                          (bif (s102 == s89) && ((s103 == []) && (true)) then
                            (bif (i50 : Int) == ((((s89 ++ ([32, 32, 38] : List UInt8)) ++ []).length : Nat) : Int) then
                              (bif (i51 : Int) == ((((s89 ++ ([32, 32, 38] : List UInt8)) ++ []).length : Nat) : Int) then
                                ((R id_law10Wakes []).bind fun r103 =>
                                asB r103.v fun b93 =>
                                some ⟨AV.bool b93, false, []⟩)
                              else
                                some ⟨AV.bool false, false, []⟩)
                            else
                              some ⟨AV.bool false, false, []⟩)
                          else
                            some ⟨AV.bool false, false, []⟩)
                        else
                          some ⟨AV.bool false, false, []⟩)
                      else
                        some ⟨AV.bool false, false, []⟩)
                    else
                      some ⟨AV.bool false, false, []⟩)
                else
                  need (decide (((s89 ++ ([32, 32, 38] : List UInt8)) ++ []).length + (([32] : List UInt8) : List UInt8).length ≤ 9223372036854775807)) <|
                  need (decide ((((s89 ++ ([32, 32, 38] : List UInt8)) ++ []) ++ ([32] : List UInt8)).length + s91.length ≤ 9223372036854775807)) <|
                  (R id_propsTake [AV.bytes ((((s89 ++ ([32, 32, 38] : List UInt8)) ++ []) ++ ([32] : List UInt8)) ++ s91)]).bind fun r104 =>
                  asAIBT r104.v fun s104 s105 i52 b94 =>
                  (R id_propsTake [AV.bytes ((s89 ++ ([32, 32, 38] : List UInt8)) ++ [])]).bind fun r105 =>
                  asAIBT r105.v fun s106 s107 i53 b95 =>
                  bif ((s89 ++ ([32, 32, 38] : List UInt8)) ++ []) == ([] : List UInt8) then
                    (bif b95 then
                      (bif (i53 : Int) == 0 then
                        (bif (s106 == s89) && ((s107 == []) && (true)) then
                          ((R id_law10Wakes []).bind fun r106 =>
                          asB r106.v fun b96 =>
                          some ⟨AV.bool b96, false, []⟩)
                        else
                          some ⟨AV.bool false, false, []⟩)
                      else
                        some ⟨AV.bool false, false, []⟩)
                    else
                      some ⟨AV.bool false, false, []⟩)
                  else
                    bif b94 then
                      (bif b95 then
                        (bif (s104 == s89) && ((s105 == []) && (true)) then
                          (bif (s106 == s89) && ((s107 == []) && (true)) then
                            (bif (i52 : Int) == ((((s89 ++ ([32, 32, 38] : List UInt8)) ++ []).length : Nat) : Int) then
                              (bif (i53 : Int) == ((((s89 ++ ([32, 32, 38] : List UInt8)) ++ []).length : Nat) : Int) then
                                ((R id_law10Wakes []).bind fun r107 =>
                                asB r107.v fun b97 =>
                                some ⟨AV.bool b97, false, []⟩)
                              else
                                some ⟨AV.bool false, false, []⟩)
                            else
                              some ⟨AV.bool false, false, []⟩)
                          else
                            some ⟨AV.bool false, false, []⟩)
                        else
                          some ⟨AV.bool false, false, []⟩)
                      else
                        some ⟨AV.bool false, false, []⟩)
                    else
                      some ⟨AV.bool false, false, []⟩)
          else
            need (decide (((s89 ++ ([32, 32, 38] : List UInt8)) ++ []).length + (([32] : List UInt8) : List UInt8).length ≤ 9223372036854775807)) <|
            need (decide ((((s89 ++ ([32, 32, 38] : List UInt8)) ++ []) ++ ([32] : List UInt8)).length + s91.length ≤ 9223372036854775807)) <|
            (R id_propsTake [AV.bytes ((((s89 ++ ([32, 32, 38] : List UInt8)) ++ []) ++ ([32] : List UInt8)) ++ s91)]).bind fun r108 =>
            asAIBT r108.v fun s108 s109 i54 b98 =>
            (R id_propsTake [AV.bytes ((s89 ++ ([32, 32, 38] : List UInt8)) ++ [])]).bind fun r109 =>
            asAIBT r109.v fun s110 s111 i55 b99 =>
            bif ((s89 ++ ([32, 32, 38] : List UInt8)) ++ []) == ([] : List UInt8) then
              (bif b99 then
                (bif (i55 : Int) == 0 then
                  (bif (s110 == s89) && ((s111 == []) && (true)) then
                    ((R id_law10Wakes []).bind fun r110 =>
                    asB r110.v fun b100 =>
                    some ⟨AV.bool b100, false, []⟩)
                  else
                    some ⟨AV.bool false, false, []⟩)
                else
                  some ⟨AV.bool false, false, []⟩)
              else
                some ⟨AV.bool false, false, []⟩)
            else
              bif b98 then
                (bif b99 then
                  (bif (s108 == s89) && ((s109 == []) && (true)) then
                    (bif (s110 == s89) && ((s111 == []) && (true)) then
                      (bif (i54 : Int) == ((((s89 ++ ([32, 32, 38] : List UInt8)) ++ []).length : Nat) : Int) then
                        (bif (i55 : Int) == ((((s89 ++ ([32, 32, 38] : List UInt8)) ++ []).length : Nat) : Int) then
                          ((R id_law10Wakes []).bind fun r111 =>
                          asB r111.v fun b101 =>
                          some ⟨AV.bool b101, false, []⟩)
                        else
                          some ⟨AV.bool false, false, []⟩)
                      else
                        some ⟨AV.bool false, false, []⟩)
                    else
                      some ⟨AV.bool false, false, []⟩)
                  else
                    some ⟨AV.bool false, false, []⟩)
                else
                  some ⟨AV.bool false, false, []⟩)
              else
                some ⟨AV.bool false, false, []⟩)
        else
          (R id_keepText [AV.str s1, AV.int .i64 10]).bind fun r112 =>
          asS r112.v fun s112 =>
          bif decide ((((s112.length : Nat) : Int) : Int) > 0) then
            (need (decide (0 ≤ (0 : Int))) <|
            (s112[Int.toNat 0]?).bind fun c16 =>
            bif ((c16.toNat : Int) : Int) == 38 then
              (need (decide ((([120] : List UInt8) : List UInt8).length + s112.length ≤ 9223372036854775807)) <|
              need (decide (s90.length + (([32] : List UInt8) : List UInt8).length ≤ 9223372036854775807)) <|
              need (decide ((s90 ++ ([32] : List UInt8)).length + (([120] : List UInt8) ++ s112 : List UInt8).length ≤ 9223372036854775807)) <|
              (R id_propsTake [AV.bytes ((s90 ++ ([32] : List UInt8)) ++ (([120] : List UInt8) ++ s112))]).bind fun r113 =>
              asAIBT r113.v fun s113 s114 i56 b102 =>
              (R id_propsTake [AV.bytes s90]).bind fun r114 =>
              asAIBT r114.v fun s115 s116 i57 b103 =>
              bif s90 == ([] : List UInt8) then
                (bif b103 then
                  (bif (i57 : Int) == 0 then
                    (bif (s115 == s89) && ((s116 == []) && (true)) then
                      ((R id_law10Wakes []).bind fun r115 =>
                      asB r115.v fun b104 =>
                      some ⟨AV.bool b104, false, []⟩)
                    else
                      some ⟨AV.bool false, false, []⟩)
                  else
                    some ⟨AV.bool false, false, []⟩)
                else
                  some ⟨AV.bool false, false, []⟩)
              else
                bif b102 then
                  (bif b103 then
                    (bif (s113 == s89) && ((s114 == []) && (true)) then
                      (bif (s115 == s89) && ((s116 == []) && (true)) then
                        (bif (i56 : Int) == ((s90.length : Nat) : Int) then
                          (bif (i57 : Int) == ((s90.length : Nat) : Int) then
                            ((R id_law10Wakes []).bind fun r116 =>
                            asB r116.v fun b105 =>
                            some ⟨AV.bool b105, false, []⟩)
                          else
                            some ⟨AV.bool false, false, []⟩)
                        else
                          some ⟨AV.bool false, false, []⟩)
                      else
                        some ⟨AV.bool false, false, []⟩)
                    else
                      some ⟨AV.bool false, false, []⟩)
                  else
                    some ⟨AV.bool false, false, []⟩)
                else
                  some ⟨AV.bool false, false, []⟩)
            else
              need (decide (0 ≤ (0 : Int))) <|
              (s112[Int.toNat 0]?).bind fun c17 =>
              bif ((c17.toNat : Int) : Int) == 33 then
                (need (decide ((([120] : List UInt8) : List UInt8).length + s112.length ≤ 9223372036854775807)) <|
                need (decide (s90.length + (([32] : List UInt8) : List UInt8).length ≤ 9223372036854775807)) <|
                need (decide ((s90 ++ ([32] : List UInt8)).length + (([120] : List UInt8) ++ s112 : List UInt8).length ≤ 9223372036854775807)) <|
                (R id_propsTake [AV.bytes ((s90 ++ ([32] : List UInt8)) ++ (([120] : List UInt8) ++ s112))]).bind fun r117 =>
                asAIBT r117.v fun s117 s118 i58 b106 =>
                (R id_propsTake [AV.bytes s90]).bind fun r118 =>
                asAIBT r118.v fun s119 s120 i59 b107 =>
                bif s90 == ([] : List UInt8) then
                  (bif b107 then
                    (bif (i59 : Int) == 0 then
                      (bif (s119 == s89) && ((s120 == []) && (true)) then
                        ((R id_law10Wakes []).bind fun r119 =>
                        asB r119.v fun b108 =>
                        some ⟨AV.bool b108, false, []⟩)
                      else
                        some ⟨AV.bool false, false, []⟩)
                    else
                      some ⟨AV.bool false, false, []⟩)
                  else
                    some ⟨AV.bool false, false, []⟩)
                else
                  bif b106 then
                    (bif b107 then
                      (bif (s117 == s89) && ((s118 == []) && (true)) then
                        (bif (s119 == s89) && ((s120 == []) && (true)) then
                          (bif (i58 : Int) == ((s90.length : Nat) : Int) then
                            (bif (i59 : Int) == ((s90.length : Nat) : Int) then
                              ((R id_law10Wakes []).bind fun r120 =>
                              asB r120.v fun b109 =>
                              some ⟨AV.bool b109, false, []⟩)
                            else
                              some ⟨AV.bool false, false, []⟩)
                          else
                            some ⟨AV.bool false, false, []⟩)
                        else
                          some ⟨AV.bool false, false, []⟩)
                      else
                        some ⟨AV.bool false, false, []⟩)
                    else
                      some ⟨AV.bool false, false, []⟩)
                  else
                    some ⟨AV.bool false, false, []⟩)
              else
                need (decide (0 ≤ (0 : Int))) <|
                (s112[Int.toNat 0]?).bind fun c18 =>
                bif ((c18.toNat : Int) : Int) == 32 then
                  (need (decide ((([120] : List UInt8) : List UInt8).length + s112.length ≤ 9223372036854775807)) <|
                  need (decide (s90.length + (([32] : List UInt8) : List UInt8).length ≤ 9223372036854775807)) <|
                  need (decide ((s90 ++ ([32] : List UInt8)).length + (([120] : List UInt8) ++ s112 : List UInt8).length ≤ 9223372036854775807)) <|
                  (R id_propsTake [AV.bytes ((s90 ++ ([32] : List UInt8)) ++ (([120] : List UInt8) ++ s112))]).bind fun r121 =>
                  asAIBT r121.v fun s121 s122 i60 b110 =>
                  (R id_propsTake [AV.bytes s90]).bind fun r122 =>
                  asAIBT r122.v fun s123 s124 i61 b111 =>
                  bif s90 == ([] : List UInt8) then
                    (bif b111 then
                      (bif (i61 : Int) == 0 then
                        (bif (s123 == s89) && ((s124 == []) && (true)) then
                          ((R id_law10Wakes []).bind fun r123 =>
                          asB r123.v fun b112 =>
                          some ⟨AV.bool b112, false, []⟩)
                        else
                          some ⟨AV.bool false, false, []⟩)
                      else
                        some ⟨AV.bool false, false, []⟩)
                    else
                      some ⟨AV.bool false, false, []⟩)
                  else
                    bif b110 then
                      (bif b111 then
                        (bif (s121 == s89) && ((s122 == []) && (true)) then
                          (bif (s123 == s89) && ((s124 == []) && (true)) then
                            (bif (i60 : Int) == ((s90.length : Nat) : Int) then
                              (bif (i61 : Int) == ((s90.length : Nat) : Int) then
                                ((R id_law10Wakes []).bind fun r124 =>
                                asB r124.v fun b113 =>
                                some ⟨AV.bool b113, false, []⟩)
                              else
                                some ⟨AV.bool false, false, []⟩)
                            else
                              some ⟨AV.bool false, false, []⟩)
                          else
                            some ⟨AV.bool false, false, []⟩)
                        else
                          some ⟨AV.bool false, false, []⟩)
                      else
                        some ⟨AV.bool false, false, []⟩)
                    else
                      some ⟨AV.bool false, false, []⟩)
                else
                  need (decide (s90.length + (([32] : List UInt8) : List UInt8).length ≤ 9223372036854775807)) <|
                  need (decide ((s90 ++ ([32] : List UInt8)).length + s112.length ≤ 9223372036854775807)) <|
                  (R id_propsTake [AV.bytes ((s90 ++ ([32] : List UInt8)) ++ s112)]).bind fun r125 =>
                  asAIBT r125.v fun s125 s126 i62 b114 =>
                  (R id_propsTake [AV.bytes s90]).bind fun r126 =>
                  asAIBT r126.v fun s127 s128 i63 b115 =>
                  bif s90 == ([] : List UInt8) then
                    (bif b115 then
                      (bif (i63 : Int) == 0 then
                        (bif (s127 == s89) && ((s128 == []) && (true)) then
                          ((R id_law10Wakes []).bind fun r127 =>
                          asB r127.v fun b116 =>
                          some ⟨AV.bool b116, false, []⟩)
                        else
                          some ⟨AV.bool false, false, []⟩)
                      else
                        some ⟨AV.bool false, false, []⟩)
                    else
                      some ⟨AV.bool false, false, []⟩)
                  else
                    bif b114 then
                      (bif b115 then
                        (bif (s125 == s89) && ((s126 == []) && (true)) then
                          (bif (s127 == s89) && ((s128 == []) && (true)) then
                            (bif (i62 : Int) == ((s90.length : Nat) : Int) then
                              (bif (i63 : Int) == ((s90.length : Nat) : Int) then
                                ((R id_law10Wakes []).bind fun r128 =>
                                asB r128.v fun b117 =>
                                some ⟨AV.bool b117, false, []⟩)
                              else
                                some ⟨AV.bool false, false, []⟩)
                            else
                              some ⟨AV.bool false, false, []⟩)
                          else
                            some ⟨AV.bool false, false, []⟩)
                        else
                          some ⟨AV.bool false, false, []⟩)
                      else
                        some ⟨AV.bool false, false, []⟩)
                    else
                      some ⟨AV.bool false, false, []⟩)
          else
            need (decide (s90.length + (([32] : List UInt8) : List UInt8).length ≤ 9223372036854775807)) <|
            need (decide ((s90 ++ ([32] : List UInt8)).length + s112.length ≤ 9223372036854775807)) <|
            (R id_propsTake [AV.bytes ((s90 ++ ([32] : List UInt8)) ++ s112)]).bind fun r129 =>
            asAIBT r129.v fun s129 s130 i64 b118 =>
            (R id_propsTake [AV.bytes s90]).bind fun r130 =>
            asAIBT r130.v fun s131 s132 i65 b119 =>
            bif s90 == ([] : List UInt8) then
              (bif b119 then
                (bif (i65 : Int) == 0 then
                  (bif (s131 == s89) && ((s132 == []) && (true)) then
                    ((R id_law10Wakes []).bind fun r131 =>
                    asB r131.v fun b120 =>
                    some ⟨AV.bool b120, false, []⟩)
                  else
                    some ⟨AV.bool false, false, []⟩)
                else
                  some ⟨AV.bool false, false, []⟩)
              else
                some ⟨AV.bool false, false, []⟩)
            else
              bif b118 then
                (bif b119 then
                  (bif (s129 == s89) && ((s130 == []) && (true)) then
                    (bif (s131 == s89) && ((s132 == []) && (true)) then
                      (bif (i64 : Int) == ((s90.length : Nat) : Int) then
                        (bif (i65 : Int) == ((s90.length : Nat) : Int) then
                          ((R id_law10Wakes []).bind fun r132 =>
                          asB r132.v fun b121 =>
                          some ⟨AV.bool b121, false, []⟩)
                        else
                          some ⟨AV.bool false, false, []⟩)
                      else
                        some ⟨AV.bool false, false, []⟩)
                    else
                      some ⟨AV.bool false, false, []⟩)
                  else
                    some ⟨AV.bool false, false, []⟩)
                else
                  some ⟨AV.bool false, false, []⟩)
              else
                some ⟨AV.bool false, false, []⟩)
      else
        (R id_keepText [AV.str s1, AV.int .i64 10]).bind fun r133 =>
        asS r133.v fun s133 =>
        bif decide ((((s133.length : Nat) : Int) : Int) > 0) then
          (need (decide (0 ≤ (0 : Int))) <|
          (s133[Int.toNat 0]?).bind fun c19 =>
          bif ((c19.toNat : Int) : Int) == 38 then
            (need (decide ((([120] : List UInt8) : List UInt8).length + s133.length ≤ 9223372036854775807)) <|
            need (decide (s90.length + (([32] : List UInt8) : List UInt8).length ≤ 9223372036854775807)) <|
            need (decide ((s90 ++ ([32] : List UInt8)).length + (([120] : List UInt8) ++ s133 : List UInt8).length ≤ 9223372036854775807)) <|
            (R id_propsTake [AV.bytes ((s90 ++ ([32] : List UInt8)) ++ (([120] : List UInt8) ++ s133))]).bind fun r134 =>
            asAIBT r134.v fun s134 s135 i66 b122 =>
            (R id_propsTake [AV.bytes s90]).bind fun r135 =>
            asAIBT r135.v fun s136 s137 i67 b123 =>
            bif s90 == ([] : List UInt8) then
              (bif b123 then
                (bif (i67 : Int) == 0 then
                  (bif (s136 == s89) && ((s137 == []) && (true)) then
                    ((R id_law10Wakes []).bind fun r136 =>
                    asB r136.v fun b124 =>
                    some ⟨AV.bool b124, false, []⟩)
                  else
                    some ⟨AV.bool false, false, []⟩)
                else
                  some ⟨AV.bool false, false, []⟩)
              else
                some ⟨AV.bool false, false, []⟩)
            else
              bif b122 then
                (bif b123 then
                  (bif (s134 == s89) && ((s135 == []) && (true)) then
                    (bif (s136 == s89) && ((s137 == []) && (true)) then
                      (bif (i66 : Int) == ((s90.length : Nat) : Int) then
                        (bif (i67 : Int) == ((s90.length : Nat) : Int) then
                          ((R id_law10Wakes []).bind fun r137 =>
                          asB r137.v fun b125 =>
                          some ⟨AV.bool b125, false, []⟩)
                        else
                          some ⟨AV.bool false, false, []⟩)
                      else
                        some ⟨AV.bool false, false, []⟩)
                    else
                      some ⟨AV.bool false, false, []⟩)
                  else
                    some ⟨AV.bool false, false, []⟩)
                else
                  some ⟨AV.bool false, false, []⟩)
              else
                some ⟨AV.bool false, false, []⟩)
          else
            need (decide (0 ≤ (0 : Int))) <|
            (s133[Int.toNat 0]?).bind fun c20 =>
            bif ((c20.toNat : Int) : Int) == 33 then
              (need (decide ((([120] : List UInt8) : List UInt8).length + s133.length ≤ 9223372036854775807)) <|
              need (decide (s90.length + (([32] : List UInt8) : List UInt8).length ≤ 9223372036854775807)) <|
              need (decide ((s90 ++ ([32] : List UInt8)).length + (([120] : List UInt8) ++ s133 : List UInt8).length ≤ 9223372036854775807)) <|
              (R id_propsTake [AV.bytes ((s90 ++ ([32] : List UInt8)) ++ (([120] : List UInt8) ++ s133))]).bind fun r138 =>
              asAIBT r138.v fun s138 s139 i68 b126 =>
              (R id_propsTake [AV.bytes s90]).bind fun r139 =>
              asAIBT r139.v fun s140 s141 i69 b127 =>
              bif s90 == ([] : List UInt8) then
                (bif b127 then
                  (bif (i69 : Int) == 0 then
                    (bif (s140 == s89) && ((s141 == []) && (true)) then
                      ((R id_law10Wakes []).bind fun r140 =>
                      asB r140.v fun b128 =>
                      some ⟨AV.bool b128, false, []⟩)
                    else
                      some ⟨AV.bool false, false, []⟩)
                  else
                    some ⟨AV.bool false, false, []⟩)
                else
                  some ⟨AV.bool false, false, []⟩)
              else
                bif b126 then
                  (bif b127 then
                    (bif (s138 == s89) && ((s139 == []) && (true)) then
                      (bif (s140 == s89) && ((s141 == []) && (true)) then
                        (bif (i68 : Int) == ((s90.length : Nat) : Int) then
                          (bif (i69 : Int) == ((s90.length : Nat) : Int) then
                            ((R id_law10Wakes []).bind fun r141 =>
                            asB r141.v fun b129 =>
                            some ⟨AV.bool b129, false, []⟩)
                          else
                            some ⟨AV.bool false, false, []⟩)
                        else
                          some ⟨AV.bool false, false, []⟩)
                      else
                        some ⟨AV.bool false, false, []⟩)
                    else
                      some ⟨AV.bool false, false, []⟩)
                  else
                    some ⟨AV.bool false, false, []⟩)
                else
                  some ⟨AV.bool false, false, []⟩)
            else
              need (decide (0 ≤ (0 : Int))) <|
              (s133[Int.toNat 0]?).bind fun c21 =>
              bif ((c21.toNat : Int) : Int) == 32 then
                (need (decide ((([120] : List UInt8) : List UInt8).length + s133.length ≤ 9223372036854775807)) <|
                need (decide (s90.length + (([32] : List UInt8) : List UInt8).length ≤ 9223372036854775807)) <|
                need (decide ((s90 ++ ([32] : List UInt8)).length + (([120] : List UInt8) ++ s133 : List UInt8).length ≤ 9223372036854775807)) <|
                (R id_propsTake [AV.bytes ((s90 ++ ([32] : List UInt8)) ++ (([120] : List UInt8) ++ s133))]).bind fun r142 =>
                asAIBT r142.v fun s142 s143 i70 b130 =>
                (R id_propsTake [AV.bytes s90]).bind fun r143 =>
                asAIBT r143.v fun s144 s145 i71 b131 =>
                bif s90 == ([] : List UInt8) then
                  (bif b131 then
                    (bif (i71 : Int) == 0 then
                      (bif (s144 == s89) && ((s145 == []) && (true)) then
                        ((R id_law10Wakes []).bind fun r144 =>
                        asB r144.v fun b132 =>
                        some ⟨AV.bool b132, false, []⟩)
                      else
                        some ⟨AV.bool false, false, []⟩)
                    else
                      some ⟨AV.bool false, false, []⟩)
                  else
                    some ⟨AV.bool false, false, []⟩)
                else
                  bif b130 then
                    (bif b131 then
                      (bif (s142 == s89) && ((s143 == []) && (true)) then
                        (bif (s144 == s89) && ((s145 == []) && (true)) then
                          (bif (i70 : Int) == ((s90.length : Nat) : Int) then
                            (bif (i71 : Int) == ((s90.length : Nat) : Int) then
                              ((R id_law10Wakes []).bind fun r145 =>
                              asB r145.v fun b133 =>
                              some ⟨AV.bool b133, false, []⟩)
                            else
                              some ⟨AV.bool false, false, []⟩)
                          else
                            some ⟨AV.bool false, false, []⟩)
                        else
                          some ⟨AV.bool false, false, []⟩)
                      else
                        some ⟨AV.bool false, false, []⟩)
                    else
                      some ⟨AV.bool false, false, []⟩)
                  else
                    some ⟨AV.bool false, false, []⟩)
              else
                need (decide (s90.length + (([32] : List UInt8) : List UInt8).length ≤ 9223372036854775807)) <|
                need (decide ((s90 ++ ([32] : List UInt8)).length + s133.length ≤ 9223372036854775807)) <|
                (R id_propsTake [AV.bytes ((s90 ++ ([32] : List UInt8)) ++ s133)]).bind fun r146 =>
                asAIBT r146.v fun s146 s147 i72 b134 =>
                (R id_propsTake [AV.bytes s90]).bind fun r147 =>
                asAIBT r147.v fun s148 s149 i73 b135 =>
                bif s90 == ([] : List UInt8) then
                  (bif b135 then
                    (bif (i73 : Int) == 0 then
                      (bif (s148 == s89) && ((s149 == []) && (true)) then
                        ((R id_law10Wakes []).bind fun r148 =>
                        asB r148.v fun b136 =>
                        some ⟨AV.bool b136, false, []⟩)
                      else
                        some ⟨AV.bool false, false, []⟩)
                    else
                      some ⟨AV.bool false, false, []⟩)
                  else
                    some ⟨AV.bool false, false, []⟩)
                else
                  bif b134 then
                    (bif b135 then
                      (bif (s146 == s89) && ((s147 == []) && (true)) then
                        (bif (s148 == s89) && ((s149 == []) && (true)) then
                          (bif (i72 : Int) == ((s90.length : Nat) : Int) then
                            (bif (i73 : Int) == ((s90.length : Nat) : Int) then
                              ((R id_law10Wakes []).bind fun r149 =>
                              asB r149.v fun b137 =>
                              some ⟨AV.bool b137, false, []⟩)
                            else
                              some ⟨AV.bool false, false, []⟩)
                          else
                            some ⟨AV.bool false, false, []⟩)
                        else
                          some ⟨AV.bool false, false, []⟩)
                      else
                        some ⟨AV.bool false, false, []⟩)
                    else
                      some ⟨AV.bool false, false, []⟩)
                  else
                    some ⟨AV.bool false, false, []⟩)
        else
          need (decide (s90.length + (([32] : List UInt8) : List UInt8).length ≤ 9223372036854775807)) <|
          need (decide ((s90 ++ ([32] : List UInt8)).length + s133.length ≤ 9223372036854775807)) <|
          (R id_propsTake [AV.bytes ((s90 ++ ([32] : List UInt8)) ++ s133)]).bind fun r150 =>
          asAIBT r150.v fun s150 s151 i74 b138 =>
          (R id_propsTake [AV.bytes s90]).bind fun r151 =>
          asAIBT r151.v fun s152 s153 i75 b139 =>
          bif s90 == ([] : List UInt8) then
            (bif b139 then
              (bif (i75 : Int) == 0 then
                (bif (s152 == s89) && ((s153 == []) && (true)) then
                  ((R id_law10Wakes []).bind fun r152 =>
                  asB r152.v fun b140 =>
                  some ⟨AV.bool b140, false, []⟩)
                else
                  some ⟨AV.bool false, false, []⟩)
              else
                some ⟨AV.bool false, false, []⟩)
            else
              some ⟨AV.bool false, false, []⟩)
          else
            bif b138 then
              (bif b139 then
                (bif (s150 == s89) && ((s151 == []) && (true)) then
                  (bif (s152 == s89) && ((s153 == []) && (true)) then
                    (bif (i74 : Int) == ((s90.length : Nat) : Int) then
                      (bif (i75 : Int) == ((s90.length : Nat) : Int) then
                        ((R id_law10Wakes []).bind fun r153 =>
                        asB r153.v fun b141 =>
                        some ⟨AV.bool b141, false, []⟩)
                      else
                        some ⟨AV.bool false, false, []⟩)
                    else
                      some ⟨AV.bool false, false, []⟩)
                  else
                    some ⟨AV.bool false, false, []⟩)
                else
                  some ⟨AV.bool false, false, []⟩)
              else
                some ⟨AV.bool false, false, []⟩)
            else
              some ⟨AV.bool false, false, []⟩)
    else
      (R id_keepText [AV.str s1, AV.int .i64 10]).bind fun r154 =>
      asS r154.v fun s154 =>
      bif decide ((((s154.length : Nat) : Int) : Int) > 0) then
        (need (decide (0 ≤ (0 : Int))) <|
        (s154[Int.toNat 0]?).bind fun c22 =>
        bif ((c22.toNat : Int) : Int) == 38 then
          (need (decide ((([120] : List UInt8) : List UInt8).length + s154.length ≤ 9223372036854775807)) <|
          need (decide (s90.length + (([32] : List UInt8) : List UInt8).length ≤ 9223372036854775807)) <|
          need (decide ((s90 ++ ([32] : List UInt8)).length + (([120] : List UInt8) ++ s154 : List UInt8).length ≤ 9223372036854775807)) <|
          (R id_propsTake [AV.bytes ((s90 ++ ([32] : List UInt8)) ++ (([120] : List UInt8) ++ s154))]).bind fun r155 =>
          asAIBT r155.v fun s155 s156 i76 b142 =>
          (R id_propsTake [AV.bytes s90]).bind fun r156 =>
          asAIBT r156.v fun s157 s158 i77 b143 =>
          bif s90 == ([] : List UInt8) then
            (bif b143 then
              (bif (i77 : Int) == 0 then
                (bif (s157 == s89) && ((s158 == []) && (true)) then
                  ((R id_law10Wakes []).bind fun r157 =>
                  asB r157.v fun b144 =>
                  some ⟨AV.bool b144, false, []⟩)
                else
                  some ⟨AV.bool false, false, []⟩)
              else
                some ⟨AV.bool false, false, []⟩)
            else
              some ⟨AV.bool false, false, []⟩)
          else
            bif b142 then
              (bif b143 then
                (bif (s155 == s89) && ((s156 == []) && (true)) then
                  (bif (s157 == s89) && ((s158 == []) && (true)) then
                    (bif (i76 : Int) == ((s90.length : Nat) : Int) then
                      (bif (i77 : Int) == ((s90.length : Nat) : Int) then
                        ((R id_law10Wakes []).bind fun r158 =>
                        asB r158.v fun b145 =>
                        some ⟨AV.bool b145, false, []⟩)
                      else
                        some ⟨AV.bool false, false, []⟩)
                    else
                      some ⟨AV.bool false, false, []⟩)
                  else
                    some ⟨AV.bool false, false, []⟩)
                else
                  some ⟨AV.bool false, false, []⟩)
              else
                some ⟨AV.bool false, false, []⟩)
            else
              some ⟨AV.bool false, false, []⟩)
        else
          need (decide (0 ≤ (0 : Int))) <|
          (s154[Int.toNat 0]?).bind fun c23 =>
          bif ((c23.toNat : Int) : Int) == 33 then
            (need (decide ((([120] : List UInt8) : List UInt8).length + s154.length ≤ 9223372036854775807)) <|
            need (decide (s90.length + (([32] : List UInt8) : List UInt8).length ≤ 9223372036854775807)) <|
            need (decide ((s90 ++ ([32] : List UInt8)).length + (([120] : List UInt8) ++ s154 : List UInt8).length ≤ 9223372036854775807)) <|
            (R id_propsTake [AV.bytes ((s90 ++ ([32] : List UInt8)) ++ (([120] : List UInt8) ++ s154))]).bind fun r159 =>
            asAIBT r159.v fun s159 s160 i78 b146 =>
            (R id_propsTake [AV.bytes s90]).bind fun r160 =>
            asAIBT r160.v fun s161 s162 i79 b147 =>
            bif s90 == ([] : List UInt8) then
              (bif b147 then
                (bif (i79 : Int) == 0 then
                  (bif (s161 == s89) && ((s162 == []) && (true)) then
                    ((R id_law10Wakes []).bind fun r161 =>
                    asB r161.v fun b148 =>
                    some ⟨AV.bool b148, false, []⟩)
                  else
                    some ⟨AV.bool false, false, []⟩)
                else
                  some ⟨AV.bool false, false, []⟩)
              else
                some ⟨AV.bool false, false, []⟩)
            else
              bif b146 then
                (bif b147 then
                  (bif (s159 == s89) && ((s160 == []) && (true)) then
                    (bif (s161 == s89) && ((s162 == []) && (true)) then
                      (bif (i78 : Int) == ((s90.length : Nat) : Int) then
                        (bif (i79 : Int) == ((s90.length : Nat) : Int) then
                          ((R id_law10Wakes []).bind fun r162 =>
                          asB r162.v fun b149 =>
                          some ⟨AV.bool b149, false, []⟩)
                        else
                          some ⟨AV.bool false, false, []⟩)
                      else
                        some ⟨AV.bool false, false, []⟩)
                    else
                      some ⟨AV.bool false, false, []⟩)
                  else
                    some ⟨AV.bool false, false, []⟩)
                else
                  some ⟨AV.bool false, false, []⟩)
              else
                some ⟨AV.bool false, false, []⟩)
          else
            need (decide (0 ≤ (0 : Int))) <|
            (s154[Int.toNat 0]?).bind fun c24 =>
            bif ((c24.toNat : Int) : Int) == 32 then
              (need (decide ((([120] : List UInt8) : List UInt8).length + s154.length ≤ 9223372036854775807)) <|
              need (decide (s90.length + (([32] : List UInt8) : List UInt8).length ≤ 9223372036854775807)) <|
              need (decide ((s90 ++ ([32] : List UInt8)).length + (([120] : List UInt8) ++ s154 : List UInt8).length ≤ 9223372036854775807)) <|
              (R id_propsTake [AV.bytes ((s90 ++ ([32] : List UInt8)) ++ (([120] : List UInt8) ++ s154))]).bind fun r163 =>
              asAIBT r163.v fun s163 s164 i80 b150 =>
              (R id_propsTake [AV.bytes s90]).bind fun r164 =>
              asAIBT r164.v fun s165 s166 i81 b151 =>
              bif s90 == ([] : List UInt8) then
                (bif b151 then
                  (bif (i81 : Int) == 0 then
                    (bif (s165 == s89) && ((s166 == []) && (true)) then
                      ((R id_law10Wakes []).bind fun r165 =>
                      asB r165.v fun b152 =>
                      some ⟨AV.bool b152, false, []⟩)
                    else
                      some ⟨AV.bool false, false, []⟩)
                  else
                    some ⟨AV.bool false, false, []⟩)
                else
                  some ⟨AV.bool false, false, []⟩)
              else
                bif b150 then
                  (bif b151 then
                    (bif (s163 == s89) && ((s164 == []) && (true)) then
                      (bif (s165 == s89) && ((s166 == []) && (true)) then
                        (bif (i80 : Int) == ((s90.length : Nat) : Int) then
                          (bif (i81 : Int) == ((s90.length : Nat) : Int) then
                            ((R id_law10Wakes []).bind fun r166 =>
                            asB r166.v fun b153 =>
                            some ⟨AV.bool b153, false, []⟩)
                          else
                            some ⟨AV.bool false, false, []⟩)
                        else
                          some ⟨AV.bool false, false, []⟩)
                      else
                        some ⟨AV.bool false, false, []⟩)
                    else
                      some ⟨AV.bool false, false, []⟩)
                  else
                    some ⟨AV.bool false, false, []⟩)
                else
                  some ⟨AV.bool false, false, []⟩)
            else
              need (decide (s90.length + (([32] : List UInt8) : List UInt8).length ≤ 9223372036854775807)) <|
              need (decide ((s90 ++ ([32] : List UInt8)).length + s154.length ≤ 9223372036854775807)) <|
              (R id_propsTake [AV.bytes ((s90 ++ ([32] : List UInt8)) ++ s154)]).bind fun r167 =>
              asAIBT r167.v fun s167 s168 i82 b154 =>
              (R id_propsTake [AV.bytes s90]).bind fun r168 =>
              asAIBT r168.v fun s169 s170 i83 b155 =>
              bif s90 == ([] : List UInt8) then
                (bif b155 then
                  (bif (i83 : Int) == 0 then
                    (bif (s169 == s89) && ((s170 == []) && (true)) then
                      ((R id_law10Wakes []).bind fun r169 =>
                      asB r169.v fun b156 =>
                      some ⟨AV.bool b156, false, []⟩)
                    else
                      some ⟨AV.bool false, false, []⟩)
                  else
                    some ⟨AV.bool false, false, []⟩)
                else
                  some ⟨AV.bool false, false, []⟩)
              else
                bif b154 then
                  (bif b155 then
                    (bif (s167 == s89) && ((s168 == []) && (true)) then
                      (bif (s169 == s89) && ((s170 == []) && (true)) then
                        (bif (i82 : Int) == ((s90.length : Nat) : Int) then
                          (bif (i83 : Int) == ((s90.length : Nat) : Int) then
                            ((R id_law10Wakes []).bind fun r170 =>
                            asB r170.v fun b157 =>
                            some ⟨AV.bool b157, false, []⟩)
                          else
                            some ⟨AV.bool false, false, []⟩)
                        else
                          some ⟨AV.bool false, false, []⟩)
                      else
                        some ⟨AV.bool false, false, []⟩)
                    else
                      some ⟨AV.bool false, false, []⟩)
                  else
                    some ⟨AV.bool false, false, []⟩)
                else
                  some ⟨AV.bool false, false, []⟩)
      else
        need (decide (s90.length + (([32] : List UInt8) : List UInt8).length ≤ 9223372036854775807)) <|
        need (decide ((s90 ++ ([32] : List UInt8)).length + s154.length ≤ 9223372036854775807)) <|
        (R id_propsTake [AV.bytes ((s90 ++ ([32] : List UInt8)) ++ s154)]).bind fun r171 =>
        asAIBT r171.v fun s171 s172 i84 b158 =>
        (R id_propsTake [AV.bytes s90]).bind fun r172 =>
        asAIBT r172.v fun s173 s174 i85 b159 =>
        bif s90 == ([] : List UInt8) then
          (bif b159 then
            (bif (i85 : Int) == 0 then
              (bif (s173 == s89) && ((s174 == []) && (true)) then
                ((R id_law10Wakes []).bind fun r173 =>
                asB r173.v fun b160 =>
                some ⟨AV.bool b160, false, []⟩)
              else
                some ⟨AV.bool false, false, []⟩)
            else
              some ⟨AV.bool false, false, []⟩)
          else
            some ⟨AV.bool false, false, []⟩)
        else
          bif b158 then
            (bif b159 then
              (bif (s171 == s89) && ((s172 == []) && (true)) then
                (bif (s173 == s89) && ((s174 == []) && (true)) then
                  (bif (i84 : Int) == ((s90.length : Nat) : Int) then
                    (bif (i85 : Int) == ((s90.length : Nat) : Int) then
                      ((R id_law10Wakes []).bind fun r174 =>
                      asB r174.v fun b161 =>
                      some ⟨AV.bool b161, false, []⟩)
                    else
                      some ⟨AV.bool false, false, []⟩)
                  else
                    some ⟨AV.bool false, false, []⟩)
                else
                  some ⟨AV.bool false, false, []⟩)
              else
                some ⟨AV.bool false, false, []⟩)
            else
              some ⟨AV.bool false, false, []⟩)
          else
            some ⟨AV.bool false, false, []⟩
theorem law10PropsBack_eq (R : Nat → List AV → Option Res) (N : Nat) (i1 : Int) (i2 : Int) (b1 : Bool) (s1 : List UInt8) : runF gl R N law10PropsBack [AV.int .i64 i1, AV.int .i64 i2, AV.bool b1, AV.str s1] = law10PropsBackr R N i1 i2 b1 s1 := by
  kernel_rfl
theorem law10PropsBack_fit : fitF Tryd.prog law10PropsBack Tryd.f12 = true := by
  kernel_rfl

def law10Text_L1s (R : Nat → List AV → Option Res) (N : Nat) (go : List AV → List AV → List UInt8 → Int → Option Res) (k0 : List UInt8 → Option Res) (l2 : List AV) (l3 : List AV) (s3 : List UInt8) (i1 : Int) : Option Res :=
  bif decide ((i1 : Int) < ((l2.length : Nat) : Int)) then
    (bif decide ((i1 : Int) < 7) then
      (need (decide (0 ≤ (i1 : Int))) <|
      (l2[Int.toNat i1]?).bind fun e1 =>
      asI .i64 e1 fun i2 =>
      (R id_keepWithin [AV.int .i64 i2, AV.int .i64 ((l3.length : Nat) : Int)]).bind fun r2 =>
      asI .i64 r2.v fun i3 =>
      need (decide (0 ≤ (i3 : Int))) <|
      (l3[Int.toNat i3]?).bind fun e2 =>
      asS e2 fun s4 =>
      need (decide (s3.length + s4.length ≤ 9223372036854775807)) <|
      go l2 l3 (s3 ++ s4) (IntKind.i64.wrap (i1 + 1)))
    else
      k0 s3)
  else
    k0 s3
def law10Text_L1 (R : Nat → List AV → Option Res) (N : Nat) (k0 : List UInt8 → Option Res) : Nat → List AV → List AV → List UInt8 → Int → Option Res
  | 0, _, _, _, _ => none
  | n + 1, l2, l3, s3, i1 => law10Text_L1s R N (law10Text_L1 R N k0 n) k0 l2 l3 s3 i1
def law10Text_c0 : AC := .seq (.seq (.region [.op (some 14) none (.mv (.t 9)), .op (some 15) none (.mv (.t 1)), .op (some 16) none (.len (.t 15) false), .op (some 17) none (.bin .lss (.t 14) (.t 16)), .op (some 18) none (.mv (.t 17)), .split 18, .op (some 19) (some (18, true)) (.mv (.t 9)), .op (some 20) (some (18, true)) (.bin .lss (.t 19) (.k (AV.int .i64 7))), .op (some 21) none (.pick (.t 18) (.t 20) (.k (AV.bool false)))]) (.cond (.t 21) (.skip) (.exit 0 [8] []))) (.seq (.block 1 (.region [.op (some 24) none (.mv (.t 8)), .op (some 25) none (.mv (.t 7)), .op (some 26) none (.mv (.t 1)), .op (some 27) none (.mv (.t 9)), .op (some 28) none (.iaddr (.t 26) (.t 27) 1 (.int .i64)), .op (some 29) none (.load (.t 28) none (.int .i64)), .op (some 30) none (.mv (.t 7)), .op (some 31) none (.len (.t 30) false), .op (some 32) none (.call id_keepWithin [.t 29, .t 31] (.int .i64)), .op (some 33) none (.iaddr (.t 25) (.t 32) 1 (.str)), .op (some 34) none (.load (.t 33) none (.str)), .op (some 35) none (.bin .add (.t 24) (.t 34)), .op (some 8) none (.mv (.t 35))])) (.region [.op (some 22) none (.mv (.t 9)), .op (some 23) none (.bin .add (.t 22) (.k (AV.int .i64 1))), .op (some 9) none (.mv (.t 23))]))
theorem law10Text_L1s_eq (R : Nat → List AV → Option Res) (N : Nat) (K : Ex → St → Option Res) (W : St → Option Res) (l2 : List AV) (l3 : List AV) (s3 : List UInt8) (i1 : Int) :
    evC gl R N law10Text_c0 (Kseq (fun st' => W (prune [1, 7, 8, 9] [] st')) K) ⟨[(1, .imm (AV.row 1 l2)), (7, .imm (AV.row 1 l3)), (8, .imm (AV.str s3)), (9, .imm (AV.int .i64 i1))], []⟩ =
    law10Text_L1s R N (fun (l2 : List AV) (l3 : List AV) (s3 : List UInt8) (i1 : Int) => W ⟨[(1, .imm (AV.row 1 l2)), (7, .imm (AV.row 1 l3)), (8, .imm (AV.str s3)), (9, .imm (AV.int .i64 i1))], []⟩) (fun (s5 : List UInt8) => K (.exit 0) ⟨[(8, .imm (AV.str s5))], []⟩) l2 l3 s3 i1 := by
  kernel_rfl
theorem law10Text_L1_eq (R : Nat → List AV → Option Res) (N : Nat) (K : Ex → St → Option Res) : ∀ (n : Nat) (l2 : List AV) (l3 : List AV) (s3 : List UInt8) (i1 : Int),
    rounds [1, 7, 8, 9] [] (evC gl R N law10Text_c0) K n ⟨[(1, .imm (AV.row 1 l2)), (7, .imm (AV.row 1 l3)), (8, .imm (AV.str s3)), (9, .imm (AV.int .i64 i1))], []⟩ = law10Text_L1 R N (fun (s5 : List UInt8) => K (.exit 0) ⟨[(8, .imm (AV.str s5))], []⟩) n l2 l3 s3 i1
  | 0, _, _, _, _ => rfl
  | n + 1, l2, l3, s3, i1 => (law10Text_L1s_eq R N K (rounds [1, 7, 8, 9] [] (evC gl R N law10Text_c0) K n) l2 l3 s3 i1).trans
      (congrArg (fun go => law10Text_L1s R N go (fun (s5 : List UInt8) => K (.exit 0) ⟨[(8, .imm (AV.str s5))], []⟩) l2 l3 s3 i1) (funext fun l2 => funext fun l3 => funext fun s3 => funext fun i1 => law10Text_L1_eq R N K n l2 l3 s3 i1))
def law10Text_c1 : AC := .seq (.region [.op (some 36) none (.mv (.t 8)), .op (some 6) none (.mv (.t 36))]) (.ret [6] [])
def law10Text_c2 : AC := .seq (.region [.op (some 6) none (.mv (.k (AV.str ([] : List UInt8))))]) (.seq (.seq (.region [.op (some 10) none (.mv (.t 2))]) (.cond (.t 10) (.seq (.region [.op (some 11) none (.mv (.t 0)), .op (some 12) none (.call id_keepText [.t 11, .k (AV.int .i64 40)] (.str)), .op (some 6) none (.mv (.t 12))]) (.ret [6] [])) (.skip))) (.seq (.region [.op (some 13) none (.bslice [.k (AV.str ([38, 97] : List UInt8)), .k (AV.str ([38, 98, 45, 49] : List UInt8)), .k (AV.str ([33] : List UInt8)), .k (AV.str ([33, 120] : List UInt8)), .k (AV.str ([33, 33, 115, 116, 114] : List UInt8)), .k (AV.str ([33, 33] : List UInt8)), .k (AV.str ([38] : List UInt8)), .k (AV.str ([32] : List UInt8)), .k (AV.str ([32] : List UInt8)), .k (AV.str ([32, 32] : List UInt8)), .k (AV.str ([120] : List UInt8)), .k (AV.str ([42, 97] : List UInt8)), .k (AV.str ([42] : List UInt8)), .k (AV.str ([44] : List UInt8)), .k (AV.str ([38, 97, 33] : List UInt8)), .k (AV.str ([33, 97, 38] : List UInt8))] 1 false), .op (some 7) none (.mv (.t 13))]) (.seq (.region [.op (some 8) none (.mv (.k (AV.str ([] : List UInt8))))]) (.seq (.seq (.region [.op (some 9) none (.mv (.k (AV.int .i64 0)))]) (.block 0 (.loop [1, 7, 8, 9] [] (law10Text_c0)))) (law10Text_c1)))))
def law10Text : AFunc := ⟨3, 37, [.tmp 6], law10Text_c2⟩
def law10Textr (R : Nat → List AV → Option Res) (N : Nat) (s1 : List UInt8) (l1 : List AV) (b1 : Bool) : Option Res :=
  bif b1 then
    ((R id_keepText [AV.str s1, AV.int .i64 40]).bind fun r1 =>
    asS r1.v fun s2 =>
    some ⟨AV.str s2, false, []⟩)
  else
    law10Text_L1 R N
      (fun s7 =>
        some ⟨AV.str s7, false, []⟩)
      N l1 [AV.str ([38, 97] : List UInt8), AV.str ([38, 98, 45, 49] : List UInt8), AV.str ([33] : List UInt8), AV.str ([33, 120] : List UInt8), AV.str ([33, 33, 115, 116, 114] : List UInt8), AV.str ([33, 33] : List UInt8), AV.str ([38] : List UInt8), AV.str ([32] : List UInt8), AV.str ([32] : List UInt8), AV.str ([32, 32] : List UInt8), AV.str ([120] : List UInt8), AV.str ([42, 97] : List UInt8), AV.str ([42] : List UInt8), AV.str ([44] : List UInt8), AV.str ([38, 97, 33] : List UInt8), AV.str ([33, 97, 38] : List UInt8)] ([] : List UInt8) 0
theorem law10Text_eq (R : Nat → List AV → Option Res) (N : Nat) (s1 : List UInt8) (l1 : List AV) (b1 : Bool) : runF gl R N law10Text [AV.str s1, AV.row 1 l1, AV.bool b1] = law10Textr R N s1 l1 b1 := by
  refine Eq.trans (b :=
      bif b1 then
        ((R id_keepText [AV.str s1, AV.int .i64 40]).bind fun r1 =>
        asS r1.v fun s2 =>
        some ⟨AV.str s2, false, []⟩)
      else
        rounds [1, 7, 8, 9] [] (evC gl R N law10Text_c0) (Kblock 0 (Kthen gl R N law10Text_c1 (Kret law10Text.rets []))) N ⟨[(1, .imm (AV.row 1 l1)), (7, .imm (AV.row 1 [AV.str ([38, 97] : List UInt8), AV.str ([38, 98, 45, 49] : List UInt8), AV.str ([33] : List UInt8), AV.str ([33, 120] : List UInt8), AV.str ([33, 33, 115, 116, 114] : List UInt8), AV.str ([33, 33] : List UInt8), AV.str ([38] : List UInt8), AV.str ([32] : List UInt8), AV.str ([32] : List UInt8), AV.str ([32, 32] : List UInt8), AV.str ([120] : List UInt8), AV.str ([42, 97] : List UInt8), AV.str ([42] : List UInt8), AV.str ([44] : List UInt8), AV.str ([38, 97, 33] : List UInt8), AV.str ([33, 97, 38] : List UInt8)])), (8, .imm (AV.str ([] : List UInt8))), (9, .imm (AV.int .i64 0))], []⟩) (by kernel_rfl) ?_
  simp (config := { maxSteps := 100000000 }) only [law10Text_L1_eq]
  kernel_rfl
theorem law10Text_fit : fitF Tryd.prog law10Text Tryd.f37 = true := by
  kernel_rfl

def keepLend_c1 : AC := .seq (.region [.op (some 2) none (.nilOwn 11 none)]) (.stuck)
def keepLend : AFunc := ⟨1, 32, [.tmp 2], keepLend_c1⟩
def keepLendr (R : Nat → List AV → Option Res) (N : Nat) (s1 : List UInt8) : Option Res :=
  none
theorem keepLend_eq (R : Nat → List AV → Option Res) (N : Nat) (s1 : List UInt8) : runF gl R N keepLend [AV.bytes s1] = keepLendr R N s1 := by
  kernel_rfl
theorem keepLend_fit : fitF Tryd.prog keepLend Tryd.f38 = true := by
  kernel_rfl

def ref08Word_L1s (R : Nat → List AV → Option Res) (N : Nat) (go : List UInt8 → Int → Option Res) (k0 : List UInt8 → Int → Option Res) (s2 : List UInt8) (i1 : Int) : Option Res :=
  bif decide ((i1 : Int) < ((s2.length : Nat) : Int)) then
    (need (decide (0 ≤ (i1 : Int))) <|
    (s2[Int.toNat i1]?).bind fun c1 =>
    bif ((c1.toNat : Int) : Int) != 32 then
      (go s2 (IntKind.i64.wrap (i1 + 1)))
    else
      k0 s2 i1)
  else
    k0 s2 i1
def ref08Word_L1 (R : Nat → List AV → Option Res) (N : Nat) (k0 : List UInt8 → Int → Option Res) : Nat → List UInt8 → Int → Option Res
  | 0, _, _ => none
  | n + 1, s2, i1 => ref08Word_L1s R N (ref08Word_L1 R N k0 n) k0 s2 i1
def ref08Word_c0 : AC := .seq (.seq (.region [.op (some 4) none (.mv (.t 3)), .op (some 5) none (.mv (.t 0)), .op (some 6) none (.len (.t 5) false), .op (some 7) none (.bin .lss (.t 4) (.t 6)), .op (some 8) none (.mv (.t 7)), .split 8, .op (some 9) (some (8, true)) (.mv (.t 0)), .op (some 10) (some (8, true)) (.mv (.t 3)), .op (some 11) (some (8, true)) (.iaddr (.t 9) (.t 10) 1 (.int .u8)), .op (some 12) (some (8, true)) (.load (.t 11) none (.int .u8)), .op (some 13) (some (8, true)) (.bin .neq (.t 12) (.k (AV.int .u8 32))), .op (some 14) none (.pick (.t 8) (.t 13) (.k (AV.bool false)))]) (.cond (.t 14) (.skip) (.exit 0 [0, 3] []))) (.block 1 (.region [.op (some 15) none (.mv (.t 3)), .op (some 16) none (.bin .add (.t 15) (.k (AV.int .i64 1))), .op (some 3) none (.mv (.t 16))]))
theorem ref08Word_L1s_eq (R : Nat → List AV → Option Res) (N : Nat) (K : Ex → St → Option Res) (W : St → Option Res) (s2 : List UInt8) (i1 : Int) :
    evC gl R N ref08Word_c0 (Kseq (fun st' => W (prune [0, 3] [] st')) K) ⟨[(0, .imm (AV.bytes s2)), (3, .imm (AV.int .i64 i1))], []⟩ =
    ref08Word_L1s R N (fun (s2 : List UInt8) (i1 : Int) => W ⟨[(0, .imm (AV.bytes s2)), (3, .imm (AV.int .i64 i1))], []⟩) (fun (s3 : List UInt8) (i2 : Int) => K (.exit 0) ⟨[(0, .imm (AV.bytes s3)), (3, .imm (AV.int .i64 i2))], []⟩) s2 i1 := by
  kernel_rfl
theorem ref08Word_L1_eq (R : Nat → List AV → Option Res) (N : Nat) (K : Ex → St → Option Res) : ∀ (n : Nat) (s2 : List UInt8) (i1 : Int),
    rounds [0, 3] [] (evC gl R N ref08Word_c0) K n ⟨[(0, .imm (AV.bytes s2)), (3, .imm (AV.int .i64 i1))], []⟩ = ref08Word_L1 R N (fun (s3 : List UInt8) (i2 : Int) => K (.exit 0) ⟨[(0, .imm (AV.bytes s3)), (3, .imm (AV.int .i64 i2))], []⟩) n s2 i1
  | 0, _, _ => rfl
  | n + 1, s2, i1 => (ref08Word_L1s_eq R N K (rounds [0, 3] [] (evC gl R N ref08Word_c0) K n) s2 i1).trans
      (congrArg (fun go => ref08Word_L1s R N go (fun (s3 : List UInt8) (i2 : Int) => K (.exit 0) ⟨[(0, .imm (AV.bytes s3)), (3, .imm (AV.int .i64 i2))], []⟩) s2 i1) (funext fun s2 => funext fun i1 => ref08Word_L1_eq R N K n s2 i1))
def ref08Word_c1 : AC := .seq (.region [.op (some 17) none (.mv (.t 0)), .op (some 18) none (.mv (.t 3)), .op (some 19) none (.slice (.t 17) none (some (.t 18)) 1), .op (some 20) none (.cvStr (.t 19)), .op (some 2) none (.mv (.t 20))]) (.ret [2] [])
def ref08Word_c2 : AC := .seq (.region [.op (some 2) none (.mv (.k (AV.str ([] : List UInt8))))]) (.seq (.region [.op (some 3) none (.mv (.k (AV.int .i64 0)))]) (.seq (.block 0 (.loop [0, 3] [] (ref08Word_c0))) (ref08Word_c1)))
def ref08Word : AFunc := ⟨1, 21, [.tmp 2], ref08Word_c2⟩
def ref08Wordr (R : Nat → List AV → Option Res) (N : Nat) (s1 : List UInt8) : Option Res :=
  ref08Word_L1 R N
    (fun s5 i4 =>
      need (decide (0 ≤ (i4 : Int)) && decide ((i4 : Int) ≤ ((s5.length : Nat) : Int))) <|
      some ⟨AV.str ((s5.take (Int.toNat i4)).drop 0), false, []⟩)
    N s1 0
theorem ref08Word_eq (R : Nat → List AV → Option Res) (N : Nat) (s1 : List UInt8) : runF gl R N ref08Word [AV.bytes s1] = ref08Wordr R N s1 := by
  refine Eq.trans (b :=
      rounds [0, 3] [] (evC gl R N ref08Word_c0) (Kblock 0 (Kthen gl R N ref08Word_c1 (Kret ref08Word.rets []))) N ⟨[(0, .imm (AV.bytes s1)), (3, .imm (AV.int .i64 0))], []⟩) (by kernel_rfl) ?_
  simp (config := { maxSteps := 100000000 }) only [ref08Word_L1_eq]
  kernel_rfl
theorem ref08Word_fit : fitF Tryd.prog ref08Word Tryd.f66 = true := by
  kernel_rfl

def ref08TakeProps_L2s (R : Nat → List AV → Option Res) (N : Nat) (go : List UInt8 → Int → Int → List UInt8 → List UInt8 → List UInt8 → List UInt8 → Option Res) (k0 : List UInt8 → Int → Int → List UInt8 → List UInt8 → List UInt8 → List UInt8 → Option Res) (s8 : List UInt8) (i3 : Int) (i4 : Int) (s9 : List UInt8) (s10 : List UInt8) (s11 : List UInt8) (s12 : List UInt8) : Option Res :=
  bif decide ((i4 : Int) < ((s8.length : Nat) : Int)) then
    (need (decide (0 ≤ (i4 : Int))) <|
    (s8[Int.toNat i4]?).bind fun c2 =>
    bif ((c2.toNat : Int) : Int) == 32 then
      (go s8 i3 (IntKind.i64.wrap (i4 + 1)) s9 s10 s11 s12)
    else
      k0 s8 i3 i4 s9 s10 s11 s12)
  else
    k0 s8 i3 i4 s9 s10 s11 s12
def ref08TakeProps_L2 (R : Nat → List AV → Option Res) (N : Nat) (k0 : List UInt8 → Int → Int → List UInt8 → List UInt8 → List UInt8 → List UInt8 → Option Res) : Nat → List UInt8 → Int → Int → List UInt8 → List UInt8 → List UInt8 → List UInt8 → Option Res
  | 0, _, _, _, _, _, _, _ => none
  | n + 1, s8, i3, i4, s9, s10, s11, s12 => ref08TakeProps_L2s R N (ref08TakeProps_L2 R N k0 n) k0 s8 i3 i4 s9 s10 s11 s12
def ref08TakeProps_c0 : AC := .seq (.seq (.region [.op (some 64) none (.mv (.t 7)), .op (some 65) none (.mv (.t 0)), .op (some 66) none (.len (.t 65) false), .op (some 67) none (.bin .lss (.t 64) (.t 66)), .op (some 68) none (.mv (.t 67)), .split 68, .op (some 69) (some (68, true)) (.mv (.t 0)), .op (some 70) (some (68, true)) (.mv (.t 7)), .op (some 71) (some (68, true)) (.iaddr (.t 69) (.t 70) 1 (.int .u8)), .op (some 72) (some (68, true)) (.load (.t 71) none (.int .u8)), .op (some 73) (some (68, true)) (.bin .eql (.t 72) (.k (AV.int .u8 32))), .op (some 74) none (.pick (.t 68) (.t 73) (.k (AV.bool false)))]) (.cond (.t 74) (.skip) (.exit 3 [0, 2, 5, 6, 7] [1002, 1005]))) (.block 4 (.region [.op (some 75) none (.mv (.t 7)), .op (some 76) none (.bin .add (.t 75) (.k (AV.int .i64 1))), .op (some 7) none (.mv (.t 76))]))
theorem ref08TakeProps_L2s_eq (R : Nat → List AV → Option Res) (N : Nat) (K : Ex → St → Option Res) (W : St → Option Res) (s8 : List UInt8) (i3 : Int) (i4 : Int) (s9 : List UInt8) (s10 : List UInt8) (s11 : List UInt8) (s12 : List UInt8) :
    evC gl R N ref08TakeProps_c0 (Kseq (fun st' => W (prune [0, 2, 5, 6, 7] [1002, 1005] st')) K) ⟨[(0, .imm (AV.bytes s8)), (2, .ptr 1002 0 0), (5, .ptr 1005 0 0), (6, .imm (AV.int .i64 i3)), (7, .imm (AV.int .i64 i4))], [(1002, .box [.imm (AV.str s9), .imm (AV.str s10)]), (1005, .box [.imm (AV.str s11), .imm (AV.str s12)])]⟩ =
    ref08TakeProps_L2s R N (fun (s8 : List UInt8) (i3 : Int) (i4 : Int) (s9 : List UInt8) (s10 : List UInt8) (s11 : List UInt8) (s12 : List UInt8) => W ⟨[(0, .imm (AV.bytes s8)), (2, .ptr 1002 0 0), (5, .ptr 1005 0 0), (6, .imm (AV.int .i64 i3)), (7, .imm (AV.int .i64 i4))], [(1002, .box [.imm (AV.str s9), .imm (AV.str s10)]), (1005, .box [.imm (AV.str s11), .imm (AV.str s12)])]⟩) (fun (s13 : List UInt8) (i5 : Int) (i6 : Int) (s14 : List UInt8) (s15 : List UInt8) (s16 : List UInt8) (s17 : List UInt8) => K (.exit 3) ⟨[(0, .imm (AV.bytes s13)), (2, .ptr 1002 0 0), (5, .ptr 1005 0 0), (6, .imm (AV.int .i64 i5)), (7, .imm (AV.int .i64 i6))], [(1002, .box [.imm (AV.str s14), .imm (AV.str s15)]), (1005, .box [.imm (AV.str s16), .imm (AV.str s17)])]⟩) s8 i3 i4 s9 s10 s11 s12 := by
  kernel_rfl
theorem ref08TakeProps_L2_eq (R : Nat → List AV → Option Res) (N : Nat) (K : Ex → St → Option Res) : ∀ (n : Nat) (s8 : List UInt8) (i3 : Int) (i4 : Int) (s9 : List UInt8) (s10 : List UInt8) (s11 : List UInt8) (s12 : List UInt8),
    rounds [0, 2, 5, 6, 7] [1002, 1005] (evC gl R N ref08TakeProps_c0) K n ⟨[(0, .imm (AV.bytes s8)), (2, .ptr 1002 0 0), (5, .ptr 1005 0 0), (6, .imm (AV.int .i64 i3)), (7, .imm (AV.int .i64 i4))], [(1002, .box [.imm (AV.str s9), .imm (AV.str s10)]), (1005, .box [.imm (AV.str s11), .imm (AV.str s12)])]⟩ = ref08TakeProps_L2 R N (fun (s13 : List UInt8) (i5 : Int) (i6 : Int) (s14 : List UInt8) (s15 : List UInt8) (s16 : List UInt8) (s17 : List UInt8) => K (.exit 3) ⟨[(0, .imm (AV.bytes s13)), (2, .ptr 1002 0 0), (5, .ptr 1005 0 0), (6, .imm (AV.int .i64 i5)), (7, .imm (AV.int .i64 i6))], [(1002, .box [.imm (AV.str s14), .imm (AV.str s15)]), (1005, .box [.imm (AV.str s16), .imm (AV.str s17)])]⟩) n s8 i3 i4 s9 s10 s11 s12
  | 0, _, _, _, _, _, _, _ => rfl
  | n + 1, s8, i3, i4, s9, s10, s11, s12 => (ref08TakeProps_L2s_eq R N K (rounds [0, 2, 5, 6, 7] [1002, 1005] (evC gl R N ref08TakeProps_c0) K n) s8 i3 i4 s9 s10 s11 s12).trans
      (congrArg (fun go => ref08TakeProps_L2s R N go (fun (s13 : List UInt8) (i5 : Int) (i6 : Int) (s14 : List UInt8) (s15 : List UInt8) (s16 : List UInt8) (s17 : List UInt8) => K (.exit 3) ⟨[(0, .imm (AV.bytes s13)), (2, .ptr 1002 0 0), (5, .ptr 1005 0 0), (6, .imm (AV.int .i64 i5)), (7, .imm (AV.int .i64 i6))], [(1002, .box [.imm (AV.str s14), .imm (AV.str s15)]), (1005, .box [.imm (AV.str s16), .imm (AV.str s17)])]⟩) s8 i3 i4 s9 s10 s11 s12) (funext fun s8 => funext fun i3 => funext fun i4 => funext fun s9 => funext fun s10 => funext fun s11 => funext fun s12 => ref08TakeProps_L2_eq R N K n s8 i3 i4 s9 s10 s11 s12))
def ref08TakeProps_L1s (R : Nat → List AV → Option Res) (N : Nat) (go : List UInt8 → Int → Int → List UInt8 → List UInt8 → List UInt8 → List UInt8 → Option Res) (k0 : Int → Bool → List UInt8 → List UInt8 → Option Res) (k1 : Int → List UInt8 → List UInt8 → List UInt8 → List UInt8 → Option Res) (s2 : List UInt8) (i1 : Int) (i2 : Int) (s3 : List UInt8) (s4 : List UInt8) (s5 : List UInt8) (s6 : List UInt8) : Option Res :=
  bif decide ((i2 : Int) < ((s2.length : Nat) : Int)) then
    (need (decide (0 ≤ (i2 : Int)) && decide ((i2 : Int) ≤ ((s2.length : Nat) : Int))) <|
    (R id_ref08Word [AV.bytes ((s2.take s2.length).drop (Int.toNat i2))]).bind fun r1 =>
    asS r1.v fun s7 =>
    bif !(s7 == ([] : List UInt8)) then
      (need (decide (0 ≤ (0 : Int))) <|
      (s7[Int.toNat 0]?).bind fun c1 =>
      bif ((c1.toNat : Int) : Int) == 33 then
        (bif !(s5 == ([] : List UInt8)) then
          (k0 0 false [] [])
        else
          (R id_ref08ValidTag [AV.str s7]).bind fun r2 =>
          asB r2.v fun b1 =>
          bif !b1 then
            (k0 0 false [] [])
          else
            ref08TakeProps_L2 R N
              (fun s23 i9 i10 s24 s25 s26 s27 =>
                go s23 i9 i10 s24 s25 s26 s27)
              N s2 (IntKind.i64.wrap (i2 + ((s7.length : Nat) : Int))) (IntKind.i64.wrap (i2 + ((s7.length : Nat) : Int))) s3 s4 s7 s6)
      else
        bif !(s7 == ([] : List UInt8)) then
          (need (decide (0 ≤ (0 : Int))) <|
          (s7[Int.toNat 0]?).bind fun c3 =>
          bif ((c3.toNat : Int) : Int) == 38 then
            (bif !(s6 == ([] : List UInt8)) then
              (k0 0 false [] [])
            else
              need (decide (0 ≤ (1 : Int)) && decide ((1 : Int) ≤ ((s7.length : Nat) : Int))) <|
              (R id_ref01Name [AV.str ((s7.take s7.length).drop (Int.toNat 1))]).bind fun r3 =>
              asB r3.v fun b2 =>
              bif !b2 then
                (k0 0 false [] [])
              else
                need (decide (0 ≤ (1 : Int)) && decide ((1 : Int) ≤ ((s7.length : Nat) : Int))) <|
                ref08TakeProps_L2 R N
                  (fun s28 i11 i12 s29 s30 s31 s32 =>
                    go s28 i11 i12 s29 s30 s31 s32)
                  N s2 (IntKind.i64.wrap (i2 + ((s7.length : Nat) : Int))) (IntKind.i64.wrap (i2 + ((s7.length : Nat) : Int))) s3 s4 s5 ((s7.take s7.length).drop (Int.toNat 1)))
          else
            k0 i1 true s5 s6)
        else
          k0 i1 true s5 s6)
    else
      bif !(s7 == ([] : List UInt8)) then
        (need (decide (0 ≤ (0 : Int))) <|
        (s7[Int.toNat 0]?).bind fun c4 =>
        bif ((c4.toNat : Int) : Int) == 38 then
          (bif !(s6 == ([] : List UInt8)) then
            (k0 0 false [] [])
          else
            need (decide (0 ≤ (1 : Int)) && decide ((1 : Int) ≤ ((s7.length : Nat) : Int))) <|
            (R id_ref01Name [AV.str ((s7.take s7.length).drop (Int.toNat 1))]).bind fun r4 =>
            asB r4.v fun b3 =>
            bif !b3 then
              (k0 0 false [] [])
            else
              need (decide (0 ≤ (1 : Int)) && decide ((1 : Int) ≤ ((s7.length : Nat) : Int))) <|
              ref08TakeProps_L2 R N
                (fun s33 i13 i14 s34 s35 s36 s37 =>
                  go s33 i13 i14 s34 s35 s36 s37)
                N s2 (IntKind.i64.wrap (i2 + ((s7.length : Nat) : Int))) (IntKind.i64.wrap (i2 + ((s7.length : Nat) : Int))) s3 s4 s5 ((s7.take s7.length).drop (Int.toNat 1)))
        else
          k0 i1 true s5 s6)
      else
        k0 i1 true s5 s6)
  else
    k1 i1 s3 s4 s5 s6
def ref08TakeProps_L1 (R : Nat → List AV → Option Res) (N : Nat) (k0 : Int → Bool → List UInt8 → List UInt8 → Option Res) (k1 : Int → List UInt8 → List UInt8 → List UInt8 → List UInt8 → Option Res) : Nat → List UInt8 → Int → Int → List UInt8 → List UInt8 → List UInt8 → List UInt8 → Option Res
  | 0, _, _, _, _, _, _, _ => none
  | n + 1, s2, i1, i2, s3, s4, s5, s6 => ref08TakeProps_L1s R N (ref08TakeProps_L1 R N k0 k1 n) k0 k1 s2 i1 i2 s3 s4 s5 s6
def ref08TakeProps_c1 : AC := .seq (.seq (.region [.op (some 9) none (.mv (.t 7)), .op (some 10) none (.mv (.t 0)), .op (some 11) none (.len (.t 10) false), .op (some 12) none (.bin .lss (.t 9) (.t 11))]) (.cond (.t 12) (.skip) (.exit 0 [2, 5, 6] [1002, 1005]))) (.block 1 (.seq (.region [.op (some 13) none (.mv (.t 0)), .op (some 14) none (.mv (.t 7)), .op (some 15) none (.slice (.t 13) (some (.t 14)) none 1), .op (some 16) none (.call id_ref08Word [.t 15] (.str)), .op (some 8) none (.mv (.t 16))]) (.seq (.block 2 (.seq (.region [.op (some 20) none (.mv (.t 8)), .op (some 21) none (.bin .neq (.t 20) (.k (AV.str ([] : List UInt8)))), .op (some 22) none (.mv (.t 21)), .split 22, .op (some 23) (some (22, true)) (.mv (.t 8)), .op (some 24) (some (22, true)) (.index (.t 23) (.k (AV.int .i64 0))), .op (some 25) (some (22, true)) (.bin .eql (.t 24) (.k (AV.int .u8 33))), .op (some 26) none (.pick (.t 22) (.t 25) (.k (AV.bool false))), .op (some 19) none (.mv (.t 26))]) (.cond (.t 19) (.seq (.seq (.region [.op (some 27) none (.faddr (.t 5) 0), .op (some 28) none (.load (.t 27) none (.str)), .op (some 29) none (.bin .neq (.t 28) (.k (AV.str ([] : List UInt8)))), .op (some 30) none (.mv (.t 29)), .split 30, .op (some 31) (some (30, false)) (.mv (.t 8)), .op (some 32) (some (30, false)) (.call id_ref08ValidTag [.t 31] (.bool)), .op (some 33) (some (30, false)) (.un .not (.t 32)), .op (some 34) none (.pick (.t 30) (.k (AV.bool true)) (.t 33))]) (.cond (.t 34) (.seq (.region [.op (some 35) none (.build [AV.str [], AV.str []] []), .op none none (.store (.t 2) (.t 35) 2), .op (some 3) none (.mv (.k (AV.int .i64 0))), .op (some 4) none (.mv (.k (AV.bool false)))]) (.ret [2, 3, 4] [1002])) (.skip))) (.region [.op (some 36) none (.mv (.t 8)), .op (some 37) none (.faddr (.t 5) 0), .op none none (.store (.t 37) (.t 36) 1)])) (.seq (.region [.op (some 39) none (.mv (.t 8)), .op (some 40) none (.bin .neq (.t 39) (.k (AV.str ([] : List UInt8)))), .op (some 41) none (.mv (.t 40)), .split 41, .op (some 42) (some (41, true)) (.mv (.t 8)), .op (some 43) (some (41, true)) (.index (.t 42) (.k (AV.int .i64 0))), .op (some 44) (some (41, true)) (.bin .eql (.t 43) (.k (AV.int .u8 38))), .op (some 45) none (.pick (.t 41) (.t 44) (.k (AV.bool false))), .op (some 38) none (.mv (.t 45))]) (.cond (.t 38) (.seq (.seq (.region [.op (some 46) none (.faddr (.t 5) 1), .op (some 47) none (.load (.t 46) none (.str)), .op (some 48) none (.bin .neq (.t 47) (.k (AV.str ([] : List UInt8)))), .op (some 49) none (.mv (.t 48)), .split 49, .op (some 50) (some (49, false)) (.mv (.t 8)), .op (some 51) (some (49, false)) (.sliceS (.t 50) (some (.k (AV.int .i64 1))) none), .op (some 52) (some (49, false)) (.call id_ref01Name [.t 51] (.bool)), .op (some 53) (some (49, false)) (.un .not (.t 52)), .op (some 54) none (.pick (.t 49) (.k (AV.bool true)) (.t 53))]) (.cond (.t 54) (.seq (.region [.op (some 55) none (.build [AV.str [], AV.str []] []), .op none none (.store (.t 2) (.t 55) 2), .op (some 3) none (.mv (.k (AV.int .i64 0))), .op (some 4) none (.mv (.k (AV.bool false)))]) (.ret [2, 3, 4] [1002])) (.skip))) (.region [.op (some 56) none (.mv (.t 8)), .op (some 57) none (.sliceS (.t 56) (some (.k (AV.int .i64 1))) none), .op (some 58) none (.faddr (.t 5) 1), .op none none (.store (.t 58) (.t 57) 1)])) (.seq (.region [.op (some 17) none (.load (.t 5) (some 2) (.agg [.str, .str])), .op (some 18) none (.mv (.t 6)), .op none none (.store (.t 2) (.t 17) 2), .op (some 3) none (.mv (.t 18)), .op (some 4) none (.mv (.k (AV.bool true)))]) (.ret [2, 3, 4] [1002]))))))) (.seq (.region [.op (some 59) none (.mv (.t 7)), .op (some 60) none (.mv (.t 8)), .op (some 61) none (.len (.t 60) true), .op (some 62) none (.bin .add (.t 59) (.t 61)), .op (some 6) none (.mv (.t 62))]) (.seq (.region [.op (some 63) none (.mv (.t 6)), .op (some 7) none (.mv (.t 63))]) (.block 3 (.loop [0, 2, 5, 6, 7] [1002, 1005] (ref08TakeProps_c0))))))))
theorem ref08TakeProps_L1s_eq (R : Nat → List AV → Option Res) (N : Nat) (K : Ex → St → Option Res) (W : St → Option Res) (s2 : List UInt8) (i1 : Int) (i2 : Int) (s3 : List UInt8) (s4 : List UInt8) (s5 : List UInt8) (s6 : List UInt8) :
    evC gl R N ref08TakeProps_c1 (Kseq (fun st' => W (prune [0, 2, 5, 6, 7] [1002, 1005] st')) K) ⟨[(0, .imm (AV.bytes s2)), (2, .ptr 1002 0 0), (5, .ptr 1005 0 0), (6, .imm (AV.int .i64 i1)), (7, .imm (AV.int .i64 i2))], [(1002, .box [.imm (AV.str s3), .imm (AV.str s4)]), (1005, .box [.imm (AV.str s5), .imm (AV.str s6)])]⟩ =
    ref08TakeProps_L1s R N (fun (s2 : List UInt8) (i1 : Int) (i2 : Int) (s3 : List UInt8) (s4 : List UInt8) (s5 : List UInt8) (s6 : List UInt8) => W ⟨[(0, .imm (AV.bytes s2)), (2, .ptr 1002 0 0), (5, .ptr 1005 0 0), (6, .imm (AV.int .i64 i1)), (7, .imm (AV.int .i64 i2))], [(1002, .box [.imm (AV.str s3), .imm (AV.str s4)]), (1005, .box [.imm (AV.str s5), .imm (AV.str s6)])]⟩) (fun (i15 : Int) (b4 : Bool) (s38 : List UInt8) (s39 : List UInt8) => K .ret ⟨[(2, .ptr 1002 0 0), (3, .imm (AV.int .i64 i15)), (4, .imm (AV.bool b4))], [(1002, .box [.imm (AV.str s38), .imm (AV.str s39)])]⟩) (fun (i16 : Int) (s40 : List UInt8) (s41 : List UInt8) (s42 : List UInt8) (s43 : List UInt8) => K (.exit 0) ⟨[(2, .ptr 1002 0 0), (5, .ptr 1005 0 0), (6, .imm (AV.int .i64 i16))], [(1002, .box [.imm (AV.str s40), .imm (AV.str s41)]), (1005, .box [.imm (AV.str s42), .imm (AV.str s43)])]⟩) s2 i1 i2 s3 s4 s5 s6 := by
  refine Eq.trans (b :=
      bif decide ((i2 : Int) < ((s2.length : Nat) : Int)) then
        (need (decide (0 ≤ (i2 : Int)) && decide ((i2 : Int) ≤ ((s2.length : Nat) : Int))) <|
        (R id_ref08Word [AV.bytes ((s2.take s2.length).drop (Int.toNat i2))]).bind fun r1 =>
        asS r1.v fun s7 =>
        bif !(s7 == ([] : List UInt8)) then
          (need (decide (0 ≤ (0 : Int))) <|
          (s7[Int.toNat 0]?).bind fun c1 =>
          bif ((c1.toNat : Int) : Int) == 33 then
            (bif !(s5 == ([] : List UInt8)) then
              ((fun (i17 : Int) (b5 : Bool) (s44 : List UInt8) (s45 : List UInt8) => K .ret ⟨[(2, .ptr 1002 0 0), (3, .imm (AV.int .i64 i17)), (4, .imm (AV.bool b5))], [(1002, .box [.imm (AV.str s44), .imm (AV.str s45)])]⟩) 0 false [] [])
            else
              (R id_ref08ValidTag [AV.str s7]).bind fun r2 =>
              asB r2.v fun b1 =>
              bif !b1 then
                ((fun (i17 : Int) (b5 : Bool) (s44 : List UInt8) (s45 : List UInt8) => K .ret ⟨[(2, .ptr 1002 0 0), (3, .imm (AV.int .i64 i17)), (4, .imm (AV.bool b5))], [(1002, .box [.imm (AV.str s44), .imm (AV.str s45)])]⟩) 0 false [] [])
              else
                rounds [0, 2, 5, 6, 7] [1002, 1005] (evC gl R N ref08TakeProps_c0) (Kblock 3 (Kblock 1 (Kseq (fun st' => W (prune [0, 2, 5, 6, 7] [1002, 1005] st')) K))) N ⟨[(0, .imm (AV.bytes s2)), (2, .ptr 1002 0 0), (5, .ptr 1005 0 0), (6, .imm (AV.int .i64 (IntKind.i64.wrap (i2 + ((s7.length : Nat) : Int))))), (7, .imm (AV.int .i64 (IntKind.i64.wrap (i2 + ((s7.length : Nat) : Int)))))], [(1002, .box [.imm (AV.str s3), .imm (AV.str s4)]), (1005, .box [.imm (AV.str s7), .imm (AV.str s6)])]⟩)
          else
            bif !(s7 == ([] : List UInt8)) then
              (need (decide (0 ≤ (0 : Int))) <|
              (s7[Int.toNat 0]?).bind fun c3 =>
              bif ((c3.toNat : Int) : Int) == 38 then
                (bif !(s6 == ([] : List UInt8)) then
                  ((fun (i17 : Int) (b5 : Bool) (s44 : List UInt8) (s45 : List UInt8) => K .ret ⟨[(2, .ptr 1002 0 0), (3, .imm (AV.int .i64 i17)), (4, .imm (AV.bool b5))], [(1002, .box [.imm (AV.str s44), .imm (AV.str s45)])]⟩) 0 false [] [])
                else
                  need (decide (0 ≤ (1 : Int)) && decide ((1 : Int) ≤ ((s7.length : Nat) : Int))) <|
                  (R id_ref01Name [AV.str ((s7.take s7.length).drop (Int.toNat 1))]).bind fun r3 =>
                  asB r3.v fun b2 =>
                  bif !b2 then
                    ((fun (i17 : Int) (b5 : Bool) (s44 : List UInt8) (s45 : List UInt8) => K .ret ⟨[(2, .ptr 1002 0 0), (3, .imm (AV.int .i64 i17)), (4, .imm (AV.bool b5))], [(1002, .box [.imm (AV.str s44), .imm (AV.str s45)])]⟩) 0 false [] [])
                  else
                    need (decide (0 ≤ (1 : Int)) && decide ((1 : Int) ≤ ((s7.length : Nat) : Int))) <|
                    rounds [0, 2, 5, 6, 7] [1002, 1005] (evC gl R N ref08TakeProps_c0) (Kblock 3 (Kblock 1 (Kseq (fun st' => W (prune [0, 2, 5, 6, 7] [1002, 1005] st')) K))) N ⟨[(0, .imm (AV.bytes s2)), (2, .ptr 1002 0 0), (5, .ptr 1005 0 0), (6, .imm (AV.int .i64 (IntKind.i64.wrap (i2 + ((s7.length : Nat) : Int))))), (7, .imm (AV.int .i64 (IntKind.i64.wrap (i2 + ((s7.length : Nat) : Int)))))], [(1002, .box [.imm (AV.str s3), .imm (AV.str s4)]), (1005, .box [.imm (AV.str s5), .imm (AV.str ((s7.take s7.length).drop (Int.toNat 1)))])]⟩)
              else
                (fun (i17 : Int) (b5 : Bool) (s44 : List UInt8) (s45 : List UInt8) => K .ret ⟨[(2, .ptr 1002 0 0), (3, .imm (AV.int .i64 i17)), (4, .imm (AV.bool b5))], [(1002, .box [.imm (AV.str s44), .imm (AV.str s45)])]⟩) i1 true s5 s6)
            else
              (fun (i17 : Int) (b5 : Bool) (s44 : List UInt8) (s45 : List UInt8) => K .ret ⟨[(2, .ptr 1002 0 0), (3, .imm (AV.int .i64 i17)), (4, .imm (AV.bool b5))], [(1002, .box [.imm (AV.str s44), .imm (AV.str s45)])]⟩) i1 true s5 s6)
        else
          bif !(s7 == ([] : List UInt8)) then
            (need (decide (0 ≤ (0 : Int))) <|
            (s7[Int.toNat 0]?).bind fun c4 =>
            bif ((c4.toNat : Int) : Int) == 38 then
              (bif !(s6 == ([] : List UInt8)) then
                ((fun (i17 : Int) (b5 : Bool) (s44 : List UInt8) (s45 : List UInt8) => K .ret ⟨[(2, .ptr 1002 0 0), (3, .imm (AV.int .i64 i17)), (4, .imm (AV.bool b5))], [(1002, .box [.imm (AV.str s44), .imm (AV.str s45)])]⟩) 0 false [] [])
              else
                need (decide (0 ≤ (1 : Int)) && decide ((1 : Int) ≤ ((s7.length : Nat) : Int))) <|
                (R id_ref01Name [AV.str ((s7.take s7.length).drop (Int.toNat 1))]).bind fun r4 =>
                asB r4.v fun b3 =>
                bif !b3 then
                  ((fun (i17 : Int) (b5 : Bool) (s44 : List UInt8) (s45 : List UInt8) => K .ret ⟨[(2, .ptr 1002 0 0), (3, .imm (AV.int .i64 i17)), (4, .imm (AV.bool b5))], [(1002, .box [.imm (AV.str s44), .imm (AV.str s45)])]⟩) 0 false [] [])
                else
                  need (decide (0 ≤ (1 : Int)) && decide ((1 : Int) ≤ ((s7.length : Nat) : Int))) <|
                  rounds [0, 2, 5, 6, 7] [1002, 1005] (evC gl R N ref08TakeProps_c0) (Kblock 3 (Kblock 1 (Kseq (fun st' => W (prune [0, 2, 5, 6, 7] [1002, 1005] st')) K))) N ⟨[(0, .imm (AV.bytes s2)), (2, .ptr 1002 0 0), (5, .ptr 1005 0 0), (6, .imm (AV.int .i64 (IntKind.i64.wrap (i2 + ((s7.length : Nat) : Int))))), (7, .imm (AV.int .i64 (IntKind.i64.wrap (i2 + ((s7.length : Nat) : Int)))))], [(1002, .box [.imm (AV.str s3), .imm (AV.str s4)]), (1005, .box [.imm (AV.str s5), .imm (AV.str ((s7.take s7.length).drop (Int.toNat 1)))])]⟩)
            else
              (fun (i17 : Int) (b5 : Bool) (s44 : List UInt8) (s45 : List UInt8) => K .ret ⟨[(2, .ptr 1002 0 0), (3, .imm (AV.int .i64 i17)), (4, .imm (AV.bool b5))], [(1002, .box [.imm (AV.str s44), .imm (AV.str s45)])]⟩) i1 true s5 s6)
          else
            (fun (i17 : Int) (b5 : Bool) (s44 : List UInt8) (s45 : List UInt8) => K .ret ⟨[(2, .ptr 1002 0 0), (3, .imm (AV.int .i64 i17)), (4, .imm (AV.bool b5))], [(1002, .box [.imm (AV.str s44), .imm (AV.str s45)])]⟩) i1 true s5 s6)
      else
        (fun (i18 : Int) (s46 : List UInt8) (s47 : List UInt8) (s48 : List UInt8) (s49 : List UInt8) => K (.exit 0) ⟨[(2, .ptr 1002 0 0), (5, .ptr 1005 0 0), (6, .imm (AV.int .i64 i18))], [(1002, .box [.imm (AV.str s46), .imm (AV.str s47)]), (1005, .box [.imm (AV.str s48), .imm (AV.str s49)])]⟩) i1 s3 s4 s5 s6) (by kernel_rfl) ?_
  simp (config := { maxSteps := 100000000 }) only [ref08TakeProps_L2_eq]
  kernel_rfl
theorem ref08TakeProps_L1_eq (R : Nat → List AV → Option Res) (N : Nat) (K : Ex → St → Option Res) : ∀ (n : Nat) (s2 : List UInt8) (i1 : Int) (i2 : Int) (s3 : List UInt8) (s4 : List UInt8) (s5 : List UInt8) (s6 : List UInt8),
    rounds [0, 2, 5, 6, 7] [1002, 1005] (evC gl R N ref08TakeProps_c1) K n ⟨[(0, .imm (AV.bytes s2)), (2, .ptr 1002 0 0), (5, .ptr 1005 0 0), (6, .imm (AV.int .i64 i1)), (7, .imm (AV.int .i64 i2))], [(1002, .box [.imm (AV.str s3), .imm (AV.str s4)]), (1005, .box [.imm (AV.str s5), .imm (AV.str s6)])]⟩ = ref08TakeProps_L1 R N (fun (i15 : Int) (b4 : Bool) (s38 : List UInt8) (s39 : List UInt8) => K .ret ⟨[(2, .ptr 1002 0 0), (3, .imm (AV.int .i64 i15)), (4, .imm (AV.bool b4))], [(1002, .box [.imm (AV.str s38), .imm (AV.str s39)])]⟩) (fun (i16 : Int) (s40 : List UInt8) (s41 : List UInt8) (s42 : List UInt8) (s43 : List UInt8) => K (.exit 0) ⟨[(2, .ptr 1002 0 0), (5, .ptr 1005 0 0), (6, .imm (AV.int .i64 i16))], [(1002, .box [.imm (AV.str s40), .imm (AV.str s41)]), (1005, .box [.imm (AV.str s42), .imm (AV.str s43)])]⟩) n s2 i1 i2 s3 s4 s5 s6
  | 0, _, _, _, _, _, _, _ => rfl
  | n + 1, s2, i1, i2, s3, s4, s5, s6 => (ref08TakeProps_L1s_eq R N K (rounds [0, 2, 5, 6, 7] [1002, 1005] (evC gl R N ref08TakeProps_c1) K n) s2 i1 i2 s3 s4 s5 s6).trans
      (congrArg (fun go => ref08TakeProps_L1s R N go (fun (i15 : Int) (b4 : Bool) (s38 : List UInt8) (s39 : List UInt8) => K .ret ⟨[(2, .ptr 1002 0 0), (3, .imm (AV.int .i64 i15)), (4, .imm (AV.bool b4))], [(1002, .box [.imm (AV.str s38), .imm (AV.str s39)])]⟩) (fun (i16 : Int) (s40 : List UInt8) (s41 : List UInt8) (s42 : List UInt8) (s43 : List UInt8) => K (.exit 0) ⟨[(2, .ptr 1002 0 0), (5, .ptr 1005 0 0), (6, .imm (AV.int .i64 i16))], [(1002, .box [.imm (AV.str s40), .imm (AV.str s41)]), (1005, .box [.imm (AV.str s42), .imm (AV.str s43)])]⟩) s2 i1 i2 s3 s4 s5 s6) (funext fun s2 => funext fun i1 => funext fun i2 => funext fun s3 => funext fun s4 => funext fun s5 => funext fun s6 => ref08TakeProps_L1_eq R N K n s2 i1 i2 s3 s4 s5 s6))
def ref08TakeProps_c2 : AC := .seq (.region [.op (some 77) none (.load (.t 5) (some 2) (.agg [.str, .str])), .op (some 78) none (.mv (.t 6)), .op none none (.store (.t 2) (.t 77) 2), .op (some 3) none (.mv (.t 78)), .op (some 4) none (.mv (.k (AV.bool true)))]) (.ret [2, 3, 4] [1002])
def ref08TakeProps_c3 : AC := .seq (.region [.op (some 2) none (.alloc 1002 [AV.str [], AV.str []]), .op (some 3) none (.mv (.k (AV.int .i64 0))), .op (some 4) none (.mv (.k (AV.bool false)))]) (.seq (.region [.op (some 5) none (.alloc 1005 [AV.str [], AV.str []])]) (.seq (.region [.op (some 6) none (.mv (.k (AV.int .i64 0))), .op (some 7) none (.mv (.k (AV.int .i64 0)))]) (.seq (.block 0 (.loop [0, 2, 5, 6, 7] [1002, 1005] (ref08TakeProps_c1))) (ref08TakeProps_c2))))
def ref08TakeProps : AFunc := ⟨1, 79, [.cell 2 2, .tmp 3, .tmp 4], ref08TakeProps_c3⟩
def ref08TakePropsr (R : Nat → List AV → Option Res) (N : Nat) (s1 : List UInt8) : Option Res :=
  ref08TakeProps_L1 R N
    (fun i19 b6 s50 s51 =>
      some ⟨AV.tup [AV.agg [AV.str s50, AV.str s51], AV.int .i64 i19, AV.bool b6], false, []⟩)
    (fun i20 s52 s53 s54 s55 =>
      some ⟨AV.tup [AV.agg [AV.str s54, AV.str s55], AV.int .i64 i20, AV.bool true], false, []⟩)
    N s1 0 0 [] [] [] []
theorem ref08TakeProps_eq (R : Nat → List AV → Option Res) (N : Nat) (s1 : List UInt8) : runF gl R N ref08TakeProps [AV.bytes s1] = ref08TakePropsr R N s1 := by
  refine Eq.trans (b :=
      rounds [0, 2, 5, 6, 7] [1002, 1005] (evC gl R N ref08TakeProps_c1) (Kblock 0 (Kthen gl R N ref08TakeProps_c2 (Kret ref08TakeProps.rets []))) N ⟨[(0, .imm (AV.bytes s1)), (2, .ptr 1002 0 0), (5, .ptr 1005 0 0), (6, .imm (AV.int .i64 0)), (7, .imm (AV.int .i64 0))], [(1002, .box [.imm (AV.str []), .imm (AV.str [])]), (1005, .box [.imm (AV.str []), .imm (AV.str [])])]⟩) (by kernel_rfl) ?_
  simp (config := { maxSteps := 100000000 }) only [ref08TakeProps_L1_eq]
  kernel_rfl
theorem ref08TakeProps_fit : fitF Tryd.prog ref08TakeProps Tryd.f39 = true := by
  kernel_rfl

def ref08TakeAlias_L1s (R : Nat → List AV → Option Res) (N : Nat) (go : List UInt8 → Int → Option Res) (k0 : List UInt8 → Int → Option Res) (s2 : List UInt8) (i1 : Int) : Option Res :=
  bif decide ((i1 : Int) < ((s2.length : Nat) : Int)) then
    (need (decide (0 ≤ (i1 : Int))) <|
    (s2[Int.toNat i1]?).bind fun c2 =>
    (R id_ref01Letter [AV.int .u8 (c2.toNat : Int)]).bind fun r1 =>
    asB r1.v fun b1 =>
    bif b1 then
      (go s2 (IntKind.i64.wrap (i1 + 1)))
    else
      k0 s2 i1)
  else
    k0 s2 i1
def ref08TakeAlias_L1 (R : Nat → List AV → Option Res) (N : Nat) (k0 : List UInt8 → Int → Option Res) : Nat → List UInt8 → Int → Option Res
  | 0, _, _ => none
  | n + 1, s2, i1 => ref08TakeAlias_L1s R N (ref08TakeAlias_L1 R N k0 n) k0 s2 i1
def ref08TakeAlias_c0 : AC := .seq (.seq (.region [.op (some 15) none (.mv (.t 5)), .op (some 16) none (.mv (.t 0)), .op (some 17) none (.len (.t 16) false), .op (some 18) none (.bin .lss (.t 15) (.t 17)), .op (some 19) none (.mv (.t 18)), .split 19, .op (some 20) (some (19, true)) (.mv (.t 0)), .op (some 21) (some (19, true)) (.mv (.t 5)), .op (some 22) (some (19, true)) (.iaddr (.t 20) (.t 21) 1 (.int .u8)), .op (some 23) (some (19, true)) (.load (.t 22) none (.int .u8)), .op (some 24) (some (19, true)) (.call id_ref01Letter [.t 23] (.bool)), .op (some 25) none (.pick (.t 19) (.t 24) (.k (AV.bool false)))]) (.cond (.t 25) (.skip) (.exit 0 [0, 5] []))) (.block 1 (.region [.op (some 26) none (.mv (.t 5)), .op (some 27) none (.bin .add (.t 26) (.k (AV.int .i64 1))), .op (some 5) none (.mv (.t 27))]))
theorem ref08TakeAlias_L1s_eq (R : Nat → List AV → Option Res) (N : Nat) (K : Ex → St → Option Res) (W : St → Option Res) (s2 : List UInt8) (i1 : Int) :
    evC gl R N ref08TakeAlias_c0 (Kseq (fun st' => W (prune [0, 5] [] st')) K) ⟨[(0, .imm (AV.bytes s2)), (5, .imm (AV.int .i64 i1))], []⟩ =
    ref08TakeAlias_L1s R N (fun (s2 : List UInt8) (i1 : Int) => W ⟨[(0, .imm (AV.bytes s2)), (5, .imm (AV.int .i64 i1))], []⟩) (fun (s3 : List UInt8) (i2 : Int) => K (.exit 0) ⟨[(0, .imm (AV.bytes s3)), (5, .imm (AV.int .i64 i2))], []⟩) s2 i1 := by
  kernel_rfl
theorem ref08TakeAlias_L1_eq (R : Nat → List AV → Option Res) (N : Nat) (K : Ex → St → Option Res) : ∀ (n : Nat) (s2 : List UInt8) (i1 : Int),
    rounds [0, 5] [] (evC gl R N ref08TakeAlias_c0) K n ⟨[(0, .imm (AV.bytes s2)), (5, .imm (AV.int .i64 i1))], []⟩ = ref08TakeAlias_L1 R N (fun (s3 : List UInt8) (i2 : Int) => K (.exit 0) ⟨[(0, .imm (AV.bytes s3)), (5, .imm (AV.int .i64 i2))], []⟩) n s2 i1
  | 0, _, _ => rfl
  | n + 1, s2, i1 => (ref08TakeAlias_L1s_eq R N K (rounds [0, 5] [] (evC gl R N ref08TakeAlias_c0) K n) s2 i1).trans
      (congrArg (fun go => ref08TakeAlias_L1s R N go (fun (s3 : List UInt8) (i2 : Int) => K (.exit 0) ⟨[(0, .imm (AV.bytes s3)), (5, .imm (AV.int .i64 i2))], []⟩) s2 i1) (funext fun s2 => funext fun i1 => ref08TakeAlias_L1_eq R N K n s2 i1))
def ref08TakeAlias_c1 : AC := .seq (.seq (.region [.op (some 28) none (.mv (.t 0)), .op (some 29) none (.mv (.t 5)), .op (some 30) none (.slice (.t 28) (some (.k (AV.int .i64 1))) (some (.t 29)) 1), .op (some 31) none (.cvStr (.t 30)), .op (some 32) none (.call id_ref01Name [.t 31] (.bool)), .op (some 33) none (.un .not (.t 32))]) (.cond (.t 33) (.seq (.region [.op (some 2) none (.mv (.k (AV.str ([] : List UInt8)))), .op (some 3) none (.mv (.k (AV.int .i64 0))), .op (some 4) none (.mv (.k (AV.bool false)))]) (.ret [2, 3, 4] [])) (.skip))) (.seq (.region [.op (some 34) none (.mv (.t 0)), .op (some 35) none (.mv (.t 5)), .op (some 36) none (.slice (.t 34) (some (.k (AV.int .i64 1))) (some (.t 35)) 1), .op (some 37) none (.cvStr (.t 36)), .op (some 38) none (.mv (.t 5)), .op (some 2) none (.mv (.t 37)), .op (some 3) none (.mv (.t 38)), .op (some 4) none (.mv (.k (AV.bool true)))]) (.ret [2, 3, 4] []))
def ref08TakeAlias_c2 : AC := .seq (.region [.op (some 2) none (.mv (.k (AV.str ([] : List UInt8)))), .op (some 3) none (.mv (.k (AV.int .i64 0))), .op (some 4) none (.mv (.k (AV.bool false)))]) (.seq (.seq (.region [.op (some 6) none (.mv (.t 0)), .op (some 7) none (.len (.t 6) false), .op (some 8) none (.bin .eql (.t 7) (.k (AV.int .i64 0))), .op (some 9) none (.mv (.t 8)), .split 9, .op (some 10) (some (9, false)) (.mv (.t 0)), .op (some 11) (some (9, false)) (.iaddr (.t 10) (.k (AV.int .i64 0)) 1 (.int .u8)), .op (some 12) (some (9, false)) (.load (.t 11) none (.int .u8)), .op (some 13) (some (9, false)) (.bin .neq (.t 12) (.k (AV.int .u8 42))), .op (some 14) none (.pick (.t 9) (.k (AV.bool true)) (.t 13))]) (.cond (.t 14) (.seq (.region [.op (some 2) none (.mv (.k (AV.str ([] : List UInt8)))), .op (some 3) none (.mv (.k (AV.int .i64 0))), .op (some 4) none (.mv (.k (AV.bool false)))]) (.ret [2, 3, 4] [])) (.skip))) (.seq (.region [.op (some 5) none (.mv (.k (AV.int .i64 1)))]) (.seq (.block 0 (.loop [0, 5] [] (ref08TakeAlias_c0))) (ref08TakeAlias_c1))))
def ref08TakeAlias : AFunc := ⟨1, 39, [.tmp 2, .tmp 3, .tmp 4], ref08TakeAlias_c2⟩
def ref08TakeAliasr (R : Nat → List AV → Option Res) (N : Nat) (s1 : List UInt8) : Option Res :=
  bif (((s1.length : Nat) : Int) : Int) == 0 then
    (some ⟨AV.tup [AV.str ([] : List UInt8), AV.int .i64 0, AV.bool false], false, []⟩)
  else
    need (decide (0 ≤ (0 : Int))) <|
    (s1[Int.toNat 0]?).bind fun c1 =>
    bif ((c1.toNat : Int) : Int) != 42 then
      (some ⟨AV.tup [AV.str ([] : List UInt8), AV.int .i64 0, AV.bool false], false, []⟩)
    else
      ref08TakeAlias_L1 R N
        (fun s5 i4 =>
          need (decide (0 ≤ (i4 : Int)) && decide ((i4 : Int) ≤ ((s5.length : Nat) : Int))) <|
          need (decide (0 ≤ (1 : Int)) && decide ((1 : Int) ≤ ((Int.toNat i4 : Nat) : Int))) <|
          (R id_ref01Name [AV.str ((s5.take (Int.toNat i4)).drop (Int.toNat 1))]).bind fun r2 =>
          asB r2.v fun b2 =>
          bif !b2 then
            (some ⟨AV.tup [AV.str ([] : List UInt8), AV.int .i64 0, AV.bool false], false, []⟩)
          else
            need (decide (0 ≤ (i4 : Int)) && decide ((i4 : Int) ≤ ((s5.length : Nat) : Int))) <|
            need (decide (0 ≤ (1 : Int)) && decide ((1 : Int) ≤ ((Int.toNat i4 : Nat) : Int))) <|
            some ⟨AV.tup [AV.str ((s5.take (Int.toNat i4)).drop (Int.toNat 1)), AV.int .i64 i4, AV.bool true], false, []⟩)
        N s1 1
theorem ref08TakeAlias_eq (R : Nat → List AV → Option Res) (N : Nat) (s1 : List UInt8) : runF gl R N ref08TakeAlias [AV.bytes s1] = ref08TakeAliasr R N s1 := by
  refine Eq.trans (b :=
      bif (((s1.length : Nat) : Int) : Int) == 0 then
        (some ⟨AV.tup [AV.str ([] : List UInt8), AV.int .i64 0, AV.bool false], false, []⟩)
      else
        need (decide (0 ≤ (0 : Int))) <|
        (s1[Int.toNat 0]?).bind fun c1 =>
        bif ((c1.toNat : Int) : Int) != 42 then
          (some ⟨AV.tup [AV.str ([] : List UInt8), AV.int .i64 0, AV.bool false], false, []⟩)
        else
          rounds [0, 5] [] (evC gl R N ref08TakeAlias_c0) (Kblock 0 (Kthen gl R N ref08TakeAlias_c1 (Kret ref08TakeAlias.rets []))) N ⟨[(0, .imm (AV.bytes s1)), (5, .imm (AV.int .i64 1))], []⟩) (by kernel_rfl) ?_
  simp (config := { maxSteps := 100000000 }) only [ref08TakeAlias_L1_eq]
  kernel_rfl
theorem ref08TakeAlias_fit : fitF Tryd.prog ref08TakeAlias Tryd.f40 = true := by
  kernel_rfl

def ref08PutProps_c0 : AC := .seq (.region [.op (some 1) none (.box 1001 (.t 0) 2), .op (some 2) none (.mv (.k (AV.str ([] : List UInt8))))]) (.seq (.region [.op (some 3) none (.mv (.k (AV.str ([] : List UInt8))))]) (.seq (.seq (.region [.op (some 4) none (.faddr (.t 1) 1), .op (some 5) none (.load (.t 4) none (.str)), .op (some 6) none (.bin .neq (.t 5) (.k (AV.str ([] : List UInt8))))]) (.cond (.t 6) (.region [.op (some 7) none (.faddr (.t 1) 1), .op (some 8) none (.load (.t 7) none (.str)), .op (some 9) none (.bin .add (.k (AV.str ([38] : List UInt8))) (.t 8)), .op (some 3) none (.mv (.t 9))]) (.skip))) (.seq (.seq (.region [.op (some 10) none (.faddr (.t 1) 0), .op (some 11) none (.load (.t 10) none (.str)), .op (some 12) none (.bin .neq (.t 11) (.k (AV.str ([] : List UInt8))))]) (.cond (.t 12) (.seq (.seq (.region [.op (some 13) none (.mv (.t 3)), .op (some 14) none (.bin .neq (.t 13) (.k (AV.str ([] : List UInt8))))]) (.cond (.t 14) (.region [.op (some 15) none (.mv (.t 3)), .op (some 16) none (.bin .add (.t 15) (.k (AV.str ([32] : List UInt8)))), .op (some 3) none (.mv (.t 16))]) (.skip))) (.region [.op (some 17) none (.mv (.t 3)), .op (some 18) none (.faddr (.t 1) 0), .op (some 19) none (.load (.t 18) none (.str)), .op (some 20) none (.bin .add (.t 17) (.t 19)), .op (some 3) none (.mv (.t 20))])) (.skip))) (.seq (.region [.op (some 21) none (.mv (.t 3)), .op (some 2) none (.mv (.t 21))]) (.ret [2] [])))))
def ref08PutProps : AFunc := ⟨1, 22, [.tmp 2], ref08PutProps_c0⟩
def ref08PutPropsr (R : Nat → List AV → Option Res) (N : Nat) (s1 : List UInt8) (s2 : List UInt8) : Option Res :=
  bif !(s2 == ([] : List UInt8)) then
    (need (decide ((([38] : List UInt8) : List UInt8).length + s2.length ≤ 9223372036854775807)) <|
    bif !(s1 == ([] : List UInt8)) then
      (bif !((([38] : List UInt8) ++ s2) == ([] : List UInt8)) then
        (need (decide ((([38] : List UInt8) ++ s2 : List UInt8).length + (([32] : List UInt8) : List UInt8).length ≤ 9223372036854775807)) <|
        need (decide (((([38] : List UInt8) ++ s2) ++ ([32] : List UInt8) : List UInt8).length + s1.length ≤ 9223372036854775807)) <|
        some ⟨AV.str (((([38] : List UInt8) ++ s2) ++ ([32] : List UInt8)) ++ s1), false, []⟩)
      else
        need (decide ((([38] : List UInt8) ++ s2 : List UInt8).length + s1.length ≤ 9223372036854775807)) <|
        some ⟨AV.str ((([38] : List UInt8) ++ s2) ++ s1), false, []⟩)
    else
      some ⟨AV.str (([38] : List UInt8) ++ s2), false, []⟩)
  else
    bif !(s1 == ([] : List UInt8)) then
      (bif !(([] : List UInt8) == ([] : List UInt8)) then
        (need (decide ((([] : List UInt8) : List UInt8).length + (([32] : List UInt8) : List UInt8).length ≤ 9223372036854775807)) <|
        need (decide ((([] : List UInt8) ++ ([32] : List UInt8) : List UInt8).length + s1.length ≤ 9223372036854775807)) <|
        some ⟨AV.str ((([] : List UInt8) ++ ([32] : List UInt8)) ++ s1), false, []⟩)
      else
        need (decide ((([] : List UInt8) : List UInt8).length + s1.length ≤ 9223372036854775807)) <|
        some ⟨AV.str (([] : List UInt8) ++ s1), false, []⟩)
    else
      some ⟨AV.str ([] : List UInt8), false, []⟩
theorem ref08PutProps_eq (R : Nat → List AV → Option Res) (N : Nat) (s1 : List UInt8) (s2 : List UInt8) : runF gl R N ref08PutProps [AV.agg [AV.str s1, AV.str s2]] = ref08PutPropsr R N s1 s2 := by
  kernel_rfl
theorem ref08PutProps_fit : fitF Tryd.prog ref08PutProps Tryd.f42 = true := by
  kernel_rfl

def keepIntact_L1s (R : Nat → List AV → Option Res) (N : Nat) (go : List UInt8 → List UInt8 → Int → Int → Option Res) (k0 : Bool → Option Res) (k1 : Option Res) (s3 : List UInt8) (s4 : List UInt8) (i1 : Int) (i2 : Int) : Option Res :=
  bif decide ((i2 : Int) < i1) then
    (bif decide ((i2 : Int) < ((s3.length : Nat) : Int)) then
      (need (decide (0 ≤ (i2 : Int))) <|
      (s4[Int.toNat i2]?).bind fun c1 =>
      need (decide (0 ≤ (i2 : Int))) <|
      (s3[Int.toNat i2]?).bind fun c2 =>
      bif ((c1.toNat : Int) : Int) != (c2.toNat : Int) then
        (k0 false)
      else
        bif decide ((i2 : Int) ≥ ((s3.length : Nat) : Int)) then
          (need (decide (0 ≤ (i2 : Int))) <|
          (s4[Int.toNat i2]?).bind fun c3 =>
          bif ((c3.toNat : Int) : Int) != 85 then
            (k0 false)
          else
            go s3 s4 i1 (IntKind.i64.wrap (i2 + 1)))
        else
          go s3 s4 i1 (IntKind.i64.wrap (i2 + 1)))
    else
      bif decide ((i2 : Int) ≥ ((s3.length : Nat) : Int)) then
        (need (decide (0 ≤ (i2 : Int))) <|
        (s4[Int.toNat i2]?).bind fun c4 =>
        bif ((c4.toNat : Int) : Int) != 85 then
          (k0 false)
        else
          go s3 s4 i1 (IntKind.i64.wrap (i2 + 1)))
      else
        go s3 s4 i1 (IntKind.i64.wrap (i2 + 1)))
  else
    k1
def keepIntact_L1 (R : Nat → List AV → Option Res) (N : Nat) (k0 : Bool → Option Res) (k1 : Option Res) : Nat → List UInt8 → List UInt8 → Int → Int → Option Res
  | 0, _, _, _, _ => none
  | n + 1, s3, s4, i1, i2 => keepIntact_L1s R N (keepIntact_L1 R N k0 k1 n) k0 k1 s3 s4 i1 i2
def keepIntact_c0 : AC := .seq (.region [.op (some 28) none (.bin .lss (.t 27) (.t 26))]) (.seq (.cond (.t 28) (.skip) (.exit 0 [] [])) (.seq (.block 1 (.seq (.region [.op (some 29) none (.mv (.t 27)), .op (some 6) none (.mv (.t 29))]) (.seq (.regionD [1, 5, 26, 27, 57] [] [.op (some 30) none (.mv (.t 6)), .op (some 31) none (.mv (.t 1)), .op (some 32) none (.len (.t 31) false), .op (some 33) none (.bin .lss (.t 30) (.t 32)), .op (some 34) none (.mv (.t 33)), .split 34, .op (some 35) (some (34, true)) (.mv (.t 5)), .op (some 36) (some (34, true)) (.mv (.t 6)), .op (some 37) (some (34, true)) (.iaddr (.t 35) (.t 36) 1 (.int .u8)), .op (some 38) (some (34, true)) (.load (.t 37) none (.int .u8)), .op (some 39) (some (34, true)) (.mv (.t 1)), .op (some 40) (some (34, true)) (.mv (.t 6)), .op (some 41) (some (34, true)) (.iaddr (.t 39) (.t 40) 1 (.int .u8)), .op (some 42) (some (34, true)) (.load (.t 41) none (.int .u8)), .op (some 43) (some (34, true)) (.bin .neq (.t 38) (.t 42)), .op (some 44) none (.pick (.t 34) (.t 43) (.k (AV.bool false))), .op (some 45) none (.mv (.t 44)), .split 45, .op (some 46) (some (45, false)) (.mv (.t 6)), .op (some 47) (some (45, false)) (.mv (.t 1)), .op (some 48) (some (45, false)) (.len (.t 47) false), .op (some 49) (some (45, false)) (.bin .geq (.t 46) (.t 48)), .op (some 50) (some (45, false)) (.mv (.t 49)), .split 50, .op (some 51) (some (50, true)) (.mv (.t 5)), .op (some 52) (some (50, true)) (.mv (.t 6)), .op (some 53) (some (50, true)) (.iaddr (.t 51) (.t 52) 1 (.int .u8)), .op (some 54) (some (50, true)) (.load (.t 53) none (.int .u8)), .op (some 55) (some (50, true)) (.bin .neq (.t 54) (.k (AV.int .u8 85))), .op (some 56) (some (45, false)) (.pick (.t 50) (.t 55) (.k (AV.bool false))), .op (some 57) none (.pick (.t 45) (.k (AV.bool true)) (.t 56))] []) (.cond (.t 57) (.seq (.region [.op (some 4) none (.mv (.k (AV.bool false)))]) (.ret [4] [])) (.skip))))) (.region [.op (some 58) none (.bin .add (.t 27) (.k (AV.int .i64 1))), .op (some 27) none (.mv (.t 58))])))
theorem keepIntact_L1s_eq (R : Nat → List AV → Option Res) (N : Nat) (K : Ex → St → Option Res) (W : St → Option Res) (s3 : List UInt8) (s4 : List UInt8) (i1 : Int) (i2 : Int) :
    evC gl R N keepIntact_c0 (Kseq (fun st' => W (prune [1, 5, 26, 27] [] st')) K) ⟨[(1, .imm (AV.bytes s3)), (5, .imm (AV.bytes s4)), (26, .imm (AV.int .i64 i1)), (27, .imm (AV.int .i64 i2))], []⟩ =
    keepIntact_L1s R N (fun (s3 : List UInt8) (s4 : List UInt8) (i1 : Int) (i2 : Int) => W ⟨[(1, .imm (AV.bytes s3)), (5, .imm (AV.bytes s4)), (26, .imm (AV.int .i64 i1)), (27, .imm (AV.int .i64 i2))], []⟩) (fun (b1 : Bool) => K .ret ⟨[(4, .imm (AV.bool b1))], []⟩) (K (.exit 0) ⟨[], []⟩) s3 s4 i1 i2 := by
  kernel_rfl
theorem keepIntact_L1_eq (R : Nat → List AV → Option Res) (N : Nat) (K : Ex → St → Option Res) : ∀ (n : Nat) (s3 : List UInt8) (s4 : List UInt8) (i1 : Int) (i2 : Int),
    rounds [1, 5, 26, 27] [] (evC gl R N keepIntact_c0) K n ⟨[(1, .imm (AV.bytes s3)), (5, .imm (AV.bytes s4)), (26, .imm (AV.int .i64 i1)), (27, .imm (AV.int .i64 i2))], []⟩ = keepIntact_L1 R N (fun (b1 : Bool) => K .ret ⟨[(4, .imm (AV.bool b1))], []⟩) (K (.exit 0) ⟨[], []⟩) n s3 s4 i1 i2
  | 0, _, _, _, _ => rfl
  | n + 1, s3, s4, i1, i2 => (keepIntact_L1s_eq R N K (rounds [1, 5, 26, 27] [] (evC gl R N keepIntact_c0) K n) s3 s4 i1 i2).trans
      (congrArg (fun go => keepIntact_L1s R N go (fun (b1 : Bool) => K .ret ⟨[(4, .imm (AV.bool b1))], []⟩) (K (.exit 0) ⟨[], []⟩) s3 s4 i1 i2) (funext fun s3 => funext fun s4 => funext fun i1 => funext fun i2 => keepIntact_L1_eq R N K n s3 s4 i1 i2))
def keepIntact_c1 : AC := .seq (.region [.op (some 4) none (.mv (.k (AV.bool true)))]) (.ret [4] [])
def keepIntact_c2 : AC := .seq (.region [.op (some 4) none (.mv (.k (AV.bool false)))]) (.seq (.seq (.region [.op (some 7) none (.mv (.t 0)), .op (some 8) none (.len (.t 7) false), .op (some 9) none (.mv (.t 1)), .op (some 10) none (.len (.t 9) false), .op (some 11) none (.bin .neq (.t 8) (.t 10)), .op (some 12) none (.mv (.t 11)), .split 12, .op (some 13) (some (12, false)) (.mv (.t 0)), .op (some 14) (some (12, false)) (.capL (.t 13)), .op (some 15) (some (12, false)) (.mv (.t 1)), .op (some 16) (some (12, false)) (.len (.t 15) false), .op (some 17) (some (12, false)) (.bin .add (.t 16) (.k (AV.int .i64 3))), .op (some 18) (some (12, false)) (.bin .neq (.t 14) (.t 17)), .op (some 19) none (.pick (.t 12) (.k (AV.bool true)) (.t 18))]) (.cond (.t 19) (.seq (.region [.op (some 4) none (.mv (.k (AV.bool false)))]) (.ret [4] [])) (.skip))) (.seq (.region [.op (some 20) none (.mv (.t 0)), .op (some 21) none (.mv (.t 1)), .op (some 22) none (.len (.t 21) false), .op (some 23) none (.bin .add (.t 22) (.k (AV.int .i64 3))), .op (some 24) none (.sliceL (.t 20) (.t 23)), .op (some 5) none (.mv (.t 24))]) (.seq (.seq (.region [.op (some 25) none (.mv (.t 5)), .op (some 26) none (.len (.t 25) false), .op (some 27) none (.mv (.k (AV.int .i64 0)))]) (.block 0 (.loop [1, 5, 26, 27] [] (keepIntact_c0)))) (keepIntact_c1))))
def keepIntact : AFunc := ⟨2, 59, [.tmp 4], keepIntact_c2⟩
def keepIntactr (R : Nat → List AV → Option Res) (N : Nat) (s1 : List UInt8) (s2 : List UInt8) : Option Res :=
  bif (((s1.length : Nat) : Int) : Int) != ((s2.length : Nat) : Int) then
    (some ⟨AV.bool false, false, []⟩)
  else
    bif ((((s1.length : Nat) : Int) + 3) : Int) != (IntKind.i64.wrap (((s2.length : Nat) : Int) + 3)) then
      (some ⟨AV.bool false, false, []⟩)
    else
      need (decide (IntKind.i64.wrap (((s2.length : Nat) : Int) + 3) = ((s1.length : Nat) : Int) + 3)) <|
      keepIntact_L1 R N
        (fun b3 =>
          some ⟨AV.bool b3, false, []⟩)
        (
          some ⟨AV.bool true, false, []⟩)
        N s2 (s1 ++ [85, 85, 85]) (((s1 ++ [85, 85, 85]).length : Nat) : Int) 0
theorem keepIntact_eq (R : Nat → List AV → Option Res) (N : Nat) (s1 : List UInt8) (s2 : List UInt8) : runF gl R N keepIntact [AV.lent s1, AV.bytes s2] = keepIntactr R N s1 s2 := by
  refine Eq.trans (b :=
      bif (((s1.length : Nat) : Int) : Int) != ((s2.length : Nat) : Int) then
        (some ⟨AV.bool false, false, []⟩)
      else
        bif ((((s1.length : Nat) : Int) + 3) : Int) != (IntKind.i64.wrap (((s2.length : Nat) : Int) + 3)) then
          (some ⟨AV.bool false, false, []⟩)
        else
          need (decide (IntKind.i64.wrap (((s2.length : Nat) : Int) + 3) = ((s1.length : Nat) : Int) + 3)) <|
          rounds [1, 5, 26, 27] [] (evC gl R N keepIntact_c0) (Kblock 0 (Kthen gl R N keepIntact_c1 (Kret keepIntact.rets []))) N ⟨[(1, .imm (AV.bytes s2)), (5, .imm (AV.bytes (s1 ++ [85, 85, 85]))), (26, .imm (AV.int .i64 (((s1 ++ [85, 85, 85]).length : Nat) : Int))), (27, .imm (AV.int .i64 0))], []⟩) (by kernel_rfl) ?_
  simp (config := { maxSteps := 100000000 }) only [keepIntact_L1_eq]
  kernel_rfl
theorem keepIntact_fit : fitF Tryd.prog keepIntact Tryd.f43 = true := by
  kernel_rfl

def law10PropsTell_c0 : AC := .seq (.region [.op (some 10) none (.mv (.k (AV.bool false)))]) (.seq (.region [.op (some 26) none (.mv (.t 0)), .op (some 27) none (.mv (.t 1)), .op (some 28) none (.mv (.t 2)), .op (some 29) none (.call id_law10Text [.t 26, .t 27, .t 28] (.str)), .op (some 11) none (.mv (.t 29))]) (.seq (.region [.op (some 30) none (.mv (.t 11)), .op (some 31) none (.cvBytes (.t 30)), .op (some 12) none (.mv (.t 31))]) (.seq (.region [.op (some 32) none (.mv (.t 12)), .op (some 33) none (.call id_keepLend [.t 32] (.lent)), .op (some 13) none (.mv (.t 33))]) (.seq (.region [.op (some 35) none (.weak (.t 13)), .op (some 36) none (.call id_propsTake [.t 35] (.tup [.agg [.str, .str], .int .i64, .bool])), .op (some 34) none (.mv (.t 36)), .op (some 37) none (.extract (.t 34) 0), .op (some 38) none (.extract (.t 34) 1), .op (some 39) none (.extract (.t 34) 2), .op (some 14) none (.alloc 1014 [AV.str [], AV.str []]), .op none none (.store (.t 14) (.t 37) 2), .op (some 15) none (.mv (.t 38)), .op (some 16) none (.mv (.t 39))]) (.seq (.region [.op (some 41) none (.mv (.t 12)), .op (some 42) none (.call id_ref08TakeProps [.t 41] (.tup [.agg [.str, .str], .int .i64, .bool])), .op (some 40) none (.mv (.t 42)), .op (some 43) none (.extract (.t 40) 0), .op (some 44) none (.extract (.t 40) 1), .op (some 45) none (.extract (.t 40) 2), .op (some 17) none (.alloc 1017 [AV.str [], AV.str []]), .op none none (.store (.t 17) (.t 43) 2), .op (some 18) none (.mv (.t 44)), .op (some 19) none (.mv (.t 45))]) (.seq (.region [.op (some 47) none (.weak (.t 13)), .op (some 48) none (.call id_propsTakeAlias [.t 47] (.tup [.str, .int .i64, .bool])), .op (some 46) none (.mv (.t 48)), .op (some 49) none (.extract (.t 46) 0), .op (some 50) none (.extract (.t 46) 1), .op (some 51) none (.extract (.t 46) 2), .op (some 20) none (.mv (.t 49)), .op (some 21) none (.mv (.t 50)), .op (some 22) none (.mv (.t 51))]) (.seq (.region [.op (some 53) none (.mv (.t 12)), .op (some 54) none (.call id_ref08TakeAlias [.t 53] (.tup [.str, .int .i64, .bool])), .op (some 52) none (.mv (.t 54)), .op (some 55) none (.extract (.t 52) 0), .op (some 56) none (.extract (.t 52) 1), .op (some 57) none (.extract (.t 52) 2), .op (some 23) none (.mv (.t 55)), .op (some 24) none (.mv (.t 56)), .op (some 25) none (.mv (.t 57))]) (.seq (.region [.op (some 58) none (.mv (.t 3)), .op (some 59) none (.call id_keepText [.t 58, .k (AV.int .i64 10)] (.str)), .op (some 60) none (.mv (.t 4)), .op (some 61) none (.call id_keepText [.t 60, .k (AV.int .i64 10)] (.str)), .op (some 3) none (.mv (.t 59)), .op (some 4) none (.mv (.t 61))]) (.seq (.region [.op (some 62) none (.load (.t 14) (some 2) (.agg [.str, .str])), .op (some 63) none (.load (.t 17) (some 2) (.agg [.str, .str])), .op (some 64) none (.binA false (.t 62) (.t 63) [2, 2]), .op (some 65) none (.mv (.t 64)), .split 65, .op (some 66) (some (65, true)) (.mv (.t 15)), .op (some 67) (some (65, true)) (.mv (.t 18)), .op (some 68) (some (65, true)) (.bin .eql (.t 66) (.t 67)), .op (some 69) none (.pick (.t 65) (.t 68) (.k (AV.bool false))), .op (some 70) none (.mv (.t 69)), .split 70, .op (some 71) (some (70, true)) (.mv (.t 16)), .op (some 72) (some (70, true)) (.mv (.t 19)), .op (some 73) (some (70, true)) (.binB .eql (.t 71) (.t 72)), .op (some 74) none (.pick (.t 70) (.t 73) (.k (AV.bool false))), .op (some 75) none (.mv (.t 74)), .split 75, .op (some 76) (some (75, true)) (.mv (.t 20)), .op (some 77) (some (75, true)) (.mv (.t 23)), .op (some 78) (some (75, true)) (.bin .eql (.t 76) (.t 77)), .op (some 79) none (.pick (.t 75) (.t 78) (.k (AV.bool false))), .op (some 80) none (.mv (.t 79)), .split 80, .op (some 81) (some (80, true)) (.mv (.t 21)), .op (some 82) (some (80, true)) (.mv (.t 24)), .op (some 83) (some (80, true)) (.bin .eql (.t 81) (.t 82)), .op (some 84) none (.pick (.t 80) (.t 83) (.k (AV.bool false))), .op (some 85) none (.mv (.t 84)), .split 85, .op (some 86) (some (85, true)) (.mv (.t 22)), .op (some 87) (some (85, true)) (.mv (.t 25)), .op (some 88) (some (85, true)) (.binB .eql (.t 86) (.t 87)), .op (some 89) none (.pick (.t 85) (.t 88) (.k (AV.bool false))), .op (some 90) none (.mv (.t 89)), .split 90, .op (some 91) (some (90, true)) (.mv (.t 11)), .op (some 92) (some (90, true)) (.call id_propsValidTag [.t 91] (.bool)), .op (some 93) (some (90, true)) (.mv (.t 11)), .op (some 94) (some (90, true)) (.call id_ref08ValidTag [.t 93] (.bool)), .op (some 95) (some (90, true)) (.binB .eql (.t 92) (.t 94)), .op (some 96) none (.pick (.t 90) (.t 95) (.k (AV.bool false))), .op (some 97) none (.mv (.t 96)), .split 97, .op (some 98) (some (97, true)) (.mv (.t 4)), .op (some 99) (some (97, true)) (.mv (.t 3)), .op (some 100) (some (97, true)) (.build [AV.str [], AV.str []] [(0, 1, .t 98), (1, 1, .t 99)]), .op (some 101) (some (97, true)) (.call id_propsPut [.t 100] (.str)), .op (some 102) (some (97, true)) (.mv (.t 4)), .op (some 103) (some (97, true)) (.mv (.t 3)), .op (some 104) (some (97, true)) (.build [AV.str [], AV.str []] [(0, 1, .t 102), (1, 1, .t 103)]), .op (some 105) (some (97, true)) (.call id_ref08PutProps [.t 104] (.str)), .op (some 106) (some (97, true)) (.bin .eql (.t 101) (.t 105)), .op (some 107) none (.pick (.t 97) (.t 106) (.k (AV.bool false))), .op (some 108) none (.mv (.t 107)), .split 108, .op (some 109) (some (108, true)) (.mv (.t 13)), .op (some 110) (some (108, true)) (.mv (.t 12)), .op (some 111) (some (108, true)) (.call id_keepIntact [.t 109, .t 110] (.bool)), .op (some 112) none (.pick (.t 108) (.t 111) (.k (AV.bool false))), .op (some 113) none (.mv (.t 112)), .split 113, .op (some 114) (some (113, true)) (.call id_law10Wakes [] (.bool)), .op (some 115) none (.pick (.t 113) (.t 114) (.k (AV.bool false))), .op (some 10) none (.mv (.t 115))]) (.ret [10] []))))))))))
def law10PropsTell : AFunc := ⟨5, 116, [.tmp 10], law10PropsTell_c0⟩
def law10PropsTellr (R : Nat → List AV → Option Res) (N : Nat) (s1 : List UInt8) (l1 : List AV) (b1 : Bool) (s2 : List UInt8) (s3 : List UInt8) : Option Res :=
  (R id_law10Text [AV.str s1, AV.row 1 l1, AV.bool b1]).bind fun r1 =>
  asS r1.v fun s4 =>
  (R id_keepLend [AV.bytes s4]).bind fun r2 =>
  asL r2.v fun s5 =>
  (R id_propsTake [AV.bytes s5]).bind fun r3 =>
  asAIBT r3.v fun s6 s7 i1 b2 =>
  (R id_ref08TakeProps [AV.bytes s4]).bind fun r4 =>
  asAIBT r4.v fun s8 s9 i2 b3 =>
  (R id_propsTakeAlias [AV.bytes s5]).bind fun r5 =>
  asSIBT r5.v fun s10 i3 b4 =>
  (R id_ref08TakeAlias [AV.bytes s4]).bind fun r6 =>
  asSIBT r6.v fun s11 i4 b5 =>
  (R id_keepText [AV.str s2, AV.int .i64 10]).bind fun r7 =>
  asS r7.v fun s12 =>
  (R id_keepText [AV.str s3, AV.int .i64 10]).bind fun r8 =>
  asS r8.v fun s13 =>
  bif (s6 == s8) && ((s7 == s9) && (true)) then
    (bif (i1 : Int) == i2 then
      (bif b2 == b3 then
        (bif s10 == s11 then
          (bif (i3 : Int) == i4 then
            (bif b4 == b5 then
              ((R id_propsValidTag [AV.str s4]).bind fun r9 =>
              asB r9.v fun b6 =>
              (R id_ref08ValidTag [AV.str s4]).bind fun r10 =>
              asB r10.v fun b7 =>
              bif b6 == b7 then
                ((R id_propsPut [AV.agg [AV.str s13, AV.str s12]]).bind fun r11 =>
                asS r11.v fun s14 =>
                (R id_ref08PutProps [AV.agg [AV.str s13, AV.str s12]]).bind fun r12 =>
                asS r12.v fun s15 =>
                bif s14 == s15 then
                  ((R id_keepIntact [AV.lent s5, AV.bytes s4]).bind fun r13 =>
                  asB r13.v fun b8 =>
                  bif b8 then
                    ((R id_law10Wakes []).bind fun r14 =>
                    asB r14.v fun b9 =>
                    some ⟨AV.bool b9, false, []⟩)
                  else
                    some ⟨AV.bool false, false, []⟩)
                else
                  some ⟨AV.bool false, false, []⟩)
              else
                some ⟨AV.bool false, false, []⟩)
            else
              some ⟨AV.bool false, false, []⟩)
          else
            some ⟨AV.bool false, false, []⟩)
        else
          some ⟨AV.bool false, false, []⟩)
      else
        some ⟨AV.bool false, false, []⟩)
    else
      some ⟨AV.bool false, false, []⟩)
  else
    some ⟨AV.bool false, false, []⟩
theorem law10PropsTell_eq (R : Nat → List AV → Option Res) (N : Nat) (s1 : List UInt8) (l1 : List AV) (b1 : Bool) (s2 : List UInt8) (s3 : List UInt8) : runF gl R N law10PropsTell [AV.str s1, AV.row 1 l1, AV.bool b1, AV.str s2, AV.str s3] = law10PropsTellr R N s1 l1 b1 s2 s3 := by
  kernel_rfl
theorem law10PropsTell_fit : fitF Tryd.prog law10PropsTell Tryd.f13 = true := by
  kernel_rfl

def table : List (Nat × AFunc) := [(id_keepWithin, keepWithin), (id_bytesIndexByte, bytesIndexByte), (id_internalStringsliteHasPrefix, internalStringsliteHasPrefix), (id_internalStringsliteCutPrefix, internalStringsliteCutPrefix), (id_stringsCutPrefix, stringsCutPrefix), (id_charsDigit, charsDigit), (id_charsLetter, charsLetter), (id_charsName, charsName), (id_internalStringsliteTrimPrefix, internalStringsliteTrimPrefix), (id_stringsTrimPrefix, stringsTrimPrefix), (id_propsValidTag, propsValidTag), (id_propsPropsAdd, propsPropsAdd), (id_bytesTrimLeftByte, bytesTrimLeftByte), (id_bytesMakeASCIISet, bytesMakeASCIISet), (id_unicodeUtf8DecodeRuneSlow, unicodeUtf8DecodeRuneSlow), (id_unicodeUtf8DecodeRune, unicodeUtf8DecodeRune), (id_bytesContainsRune, bytesContainsRune), (id_bytesTrimLeftUnicode, bytesTrimLeftUnicode), (id_bytesTrimLeft, bytesTrimLeft), (id_propsTake, propsTake), (id_law10Wakes, law10Wakes), (id_law10PropsForms, law10PropsForms), (id_law10PropsLong, law10PropsLong), (id_propsTakeAlias, propsTakeAlias), (id_law10PropsAliases, law10PropsAliases), (id_keepText, keepText), (id_ref01Rune, ref01Rune), (id_ref01Printable, ref01Printable), (id_keepCopyInt, keepCopyInt), (id_keepCutInt, keepCutInt), (id_keepSameInt, keepSameInt), (id_ref01Letter, ref01Letter), (id_ref01Name, ref01Name), (id_ref08ValidTag, ref08ValidTag), (id_propsPut, propsPut), (id_law10PropsBack, law10PropsBack), (id_law10Text, law10Text), (id_keepLend, keepLend), (id_ref08Word, ref08Word), (id_ref08TakeProps, ref08TakeProps), (id_ref08TakeAlias, ref08TakeAlias), (id_ref08PutProps, ref08PutProps), (id_keepIntact, keepIntact), (id_law10PropsTell, law10PropsTell)]
theorem table_fits : Fits Tryd.prog table := ⟨⟨_, Tryd.func14, keepWithin_fit⟩, ⟨_, Tryd.func44, bytesIndexByte_fit⟩, ⟨_, Tryd.func92, internalStringsliteHasPrefix_fit⟩, ⟨_, Tryd.func74, internalStringsliteCutPrefix_fit⟩, ⟨_, Tryd.func47, stringsCutPrefix_fit⟩, ⟨_, Tryd.func93, charsDigit_fit⟩, ⟨_, Tryd.func75, charsLetter_fit⟩, ⟨_, Tryd.func48, charsName_fit⟩, ⟨_, Tryd.func76, internalStringsliteTrimPrefix_fit⟩, ⟨_, Tryd.func49, stringsTrimPrefix_fit⟩, ⟨_, Tryd.func17, propsValidTag_fit⟩, ⟨_, Tryd.func45, propsPropsAdd_fit⟩, ⟨_, Tryd.func70, bytesTrimLeftByte_fit⟩, ⟨_, Tryd.func71, bytesMakeASCIISet_fit⟩, ⟨_, Tryd.func97, unicodeUtf8DecodeRuneSlow_fit⟩, ⟨_, Tryd.func90, unicodeUtf8DecodeRune_fit⟩, ⟨_, Tryd.func91, bytesContainsRune_fit⟩, ⟨_, Tryd.func73, bytesTrimLeftUnicode_fit⟩, ⟨_, Tryd.func46, bytesTrimLeft_fit⟩, ⟨_, Tryd.func15, propsTake_fit⟩, ⟨_, Tryd.func16, law10Wakes_fit⟩, ⟨_, Tryd.func3, law10PropsForms_fit⟩, ⟨_, Tryd.func4, law10PropsLong_fit⟩, ⟨_, Tryd.func18, propsTakeAlias_fit⟩, ⟨_, Tryd.func5, law10PropsAliases_fit⟩, ⟨_, Tryd.func35, keepText_fit⟩, ⟨_, Tryd.func80, ref01Rune_fit⟩, ⟨_, Tryd.func82, ref01Printable_fit⟩, ⟨_, Tryd.func84, keepCopyInt_fit⟩, ⟨_, Tryd.func54, keepCutInt_fit⟩, ⟨_, Tryd.func33, keepSameInt_fit⟩, ⟨_, Tryd.func68, ref01Letter_fit⟩, ⟨_, Tryd.func67, ref01Name_fit⟩, ⟨_, Tryd.func41, ref08ValidTag_fit⟩, ⟨_, Tryd.func36, propsPut_fit⟩, ⟨_, Tryd.func12, law10PropsBack_fit⟩, ⟨_, Tryd.func37, law10Text_fit⟩, ⟨_, Tryd.func38, keepLend_fit⟩, ⟨_, Tryd.func66, ref08Word_fit⟩, ⟨_, Tryd.func39, ref08TakeProps_fit⟩, ⟨_, Tryd.func40, ref08TakeAlias_fit⟩, ⟨_, Tryd.func42, ref08PutProps_fit⟩, ⟨_, Tryd.func43, keepIntact_fit⟩, ⟨_, Tryd.func13, law10PropsTell_fit⟩, trivial⟩
theorem table_fit : ∀ f F, get table f = some F → ∃ fn, Tryd.prog.funcs[f]? = some fn ∧ fitF Tryd.prog F fn = true := table_fits.get
end Go.Proofs.YtmpjohnbddnehaaDoor.Vf
