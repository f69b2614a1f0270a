/- The code of the functions that the statements reach, as our evaluator takes it, and what each of them comes to, readably: printed by a program of ours. No condition. -/
import Derived.Test.YtpgcjcggnfagfaaDoorVfWalk2
namespace Go.Proofs.YtpgcjcggnfagfaaDoor.Vf
set_option linter.unusedVariables false
set_option linter.unusedSimpArgs false
set_option maxRecDepth 100000


def law06DoubleRunes_L1s (R : Nat → List AV → Option Res) (N : Nat) (go : Int → Nat → Int → Int → List UInt8 → Option Res) (k0 : Int → Nat → List UInt8 → Option Res) (i5 : Int) (n1 : Nat) (i6 : Int) (i7 : Int) (s3 : List UInt8) : Option Res :=
  bif decide ((i7 : Int) < i6) then
    (need (decide (0 ≤ (i7 : Int)) && decide ((i7 : Int) < ((n1 : Nat) : Int))) <|
    (s3[0 + Int.toNat i7]?).bind fun c3 =>
    bif decide (((c3.toNat : Int) : Int) ≥ 65) then
      (need (decide (0 ≤ (i7 : Int)) && decide ((i7 : Int) < ((n1 : Nat) : Int))) <|
      (s3[0 + Int.toNat i7]?).bind fun c4 =>
      need (decide (0 ≤ (i7 : Int)) && decide ((i7 : Int) < ((n1 : Nat) : Int))) <|
      need (decide (0 ≤ (IntKind.u8.wrap ((c4.toNat : Int) + 32) : Int)) && decide ((IntKind.u8.wrap ((c4.toNat : Int) + 32) : Int) < 256)) <|
      need (Nat.beq 0 0 && decide (0 + Int.toNat i7 < s3.length) && Nat.beq 1 1) <|
      go i5 n1 i6 (IntKind.i64.wrap (i7 + 1)) (s3.set (0 + Int.toNat i7) (UInt8.ofNat (Int.toNat (IntKind.u8.wrap ((c4.toNat : Int) + 32))))))
    else
      go i5 n1 i6 (IntKind.i64.wrap (i7 + 1)) s3)
  else
    k0 i5 n1 s3
def law06DoubleRunes_L1 (R : Nat → List AV → Option Res) (N : Nat) (k0 : Int → Nat → List UInt8 → Option Res) : Nat → Int → Nat → Int → Int → List UInt8 → Option Res
  | 0, _, _, _, _, _ => none
  | n + 1, i5, n1, i6, i7, s3 => law06DoubleRunes_L1s R N (law06DoubleRunes_L1 R N k0 n) k0 i5 n1 i6 i7 s3
def law06DoubleRunes_c0 : AC := .seq (.region [.op (some 33) none (.bin .lss (.t 32) (.t 31))]) (.seq (.cond (.t 33) (.skip) (.exit 0 [0, 6] [29])) (.seq (.block 1 (.seq (.region [.op (some 34) none (.mv (.t 32)), .op (some 7) none (.mv (.t 34))]) (.seq (.region [.op (some 35) none (.mv (.t 6)), .op (some 36) none (.mv (.t 7)), .op (some 37) none (.iaddr (.t 35) (.t 36) 1 (.int .u8)), .op (some 38) none (.load (.t 37) none (.int .u8)), .op (some 39) none (.bin .geq (.t 38) (.k (AV.int .u8 65)))]) (.cond (.t 39) (.region [.op (some 40) none (.mv (.t 6)), .op (some 41) none (.mv (.t 7)), .op (some 42) none (.iaddr (.t 40) (.t 41) 1 (.int .u8)), .op (some 43) none (.load (.t 42) none (.int .u8)), .op (some 44) none (.bin .add (.t 43) (.k (AV.int .u8 32))), .op (some 45) none (.iaddr (.t 40) (.t 41) 1 (.int .u8)), .op none none (.store (.t 45) (.t 44) 1)]) (.skip))))) (.region [.op (some 46) none (.bin .add (.t 32) (.k (AV.int .i64 1))), .op (some 32) none (.mv (.t 46))])))
theorem law06DoubleRunes_L1s_eq (R : Nat → List AV → Option Res) (N : Nat) (K : Ex → St → Option Res) (W : St → Option Res) (i5 : Int) (n1 : Nat) (i6 : Int) (i7 : Int) (s3 : List UInt8) :
    evC gl R N law06DoubleRunes_c0 (Kseq (fun st' => W (prune [0, 6, 31, 32] [29] st')) K) ⟨[(0, .imm (AV.int .u32 i5)), (6, .own 29 0 n1 none), (31, .imm (AV.int .i64 i6)), (32, .imm (AV.int .i64 i7))], [(29, .bytes s3 false)]⟩ =
    law06DoubleRunes_L1s R N (fun (i5 : Int) (n1 : Nat) (i6 : Int) (i7 : Int) (s3 : List UInt8) => W ⟨[(0, .imm (AV.int .u32 i5)), (6, .own 29 0 n1 none), (31, .imm (AV.int .i64 i6)), (32, .imm (AV.int .i64 i7))], [(29, .bytes s3 false)]⟩) (fun (i8 : Int) (n2 : Nat) (s4 : List UInt8) => K (.exit 0) ⟨[(0, .imm (AV.int .u32 i8)), (6, .own 29 0 n2 none)], [(29, .bytes s4 false)]⟩) i5 n1 i6 i7 s3 := by
  kernel_rfl
theorem law06DoubleRunes_L1_eq (R : Nat → List AV → Option Res) (N : Nat) (K : Ex → St → Option Res) : ∀ (n : Nat) (i5 : Int) (n1 : Nat) (i6 : Int) (i7 : Int) (s3 : List UInt8),
    rounds [0, 6, 31, 32] [29] (evC gl R N law06DoubleRunes_c0) K n ⟨[(0, .imm (AV.int .u32 i5)), (6, .own 29 0 n1 none), (31, .imm (AV.int .i64 i6)), (32, .imm (AV.int .i64 i7))], [(29, .bytes s3 false)]⟩ = law06DoubleRunes_L1 R N (fun (i8 : Int) (n2 : Nat) (s4 : List UInt8) => K (.exit 0) ⟨[(0, .imm (AV.int .u32 i8)), (6, .own 29 0 n2 none)], [(29, .bytes s4 false)]⟩) n i5 n1 i6 i7 s3
  | 0, _, _, _, _, _ => rfl
  | n + 1, i5, n1, i6, i7, s3 => (law06DoubleRunes_L1s_eq R N K (rounds [0, 6, 31, 32] [29] (evC gl R N law06DoubleRunes_c0) K n) i5 n1 i6 i7 s3).trans
      (congrArg (fun go => law06DoubleRunes_L1s R N go (fun (i8 : Int) (n2 : Nat) (s4 : List UInt8) => K (.exit 0) ⟨[(0, .imm (AV.int .u32 i8)), (6, .own 29 0 n2 none)], [(29, .bytes s4 false)]⟩) i5 n1 i6 i7 s3) (funext fun i5 => funext fun n1 => funext fun i6 => funext fun i7 => funext fun s3 => law06DoubleRunes_L1_eq R N K n i5 n1 i6 i7 s3))
def law06DoubleRunes_c1 : AC := .region [.op (some 47) none (.mv (.t 6)), .op (some 48) none (.cvStr (.t 47)), .op (some 5) none (.mv (.t 48))]
def law06DoubleRunes_c2 : AC := .seq (.region [.op (some 50) none (.mv (.t 5)), .op (some 51) none (.bin .add (.k (AV.str ([34, 92, 85] : List UInt8))) (.t 50)), .op (some 52) none (.bin .add (.t 51) (.k (AV.str ([34] : List UInt8)))), .op (some 53) none (.cvBytes (.t 52)), .op (some 54) none (.call id_doubleTake [.t 53] (.tup [.str, .int .i64, .bool])), .op (some 49) none (.mv (.t 54)), .op (some 55) none (.extract (.t 49) 0), .op (some 56) none (.extract (.t 49) 1), .op (some 57) none (.extract (.t 49) 2), .op (some 8) none (.mv (.t 55)), .op (some 9) none (.mv (.t 56)), .op (some 10) none (.mv (.t 57))]) (.seq (.region [.op (some 58) none (.mv (.t 0)), .op (some 59) none (.bin .leq (.t 58) (.k (AV.int .u32 1114111))), .op (some 60) none (.mv (.t 59)), .split 60, .op (some 61) (some (60, true)) (.mv (.t 0)), .op (some 62) (some (60, true)) (.bin .lss (.t 61) (.k (AV.int .u32 55296))), .op (some 63) (some (60, true)) (.mv (.t 62)), .split 63, .op (some 64) (some (63, false)) (.mv (.t 0)), .op (some 65) (some (63, false)) (.bin .gtr (.t 64) (.k (AV.int .u32 57343))), .op (some 66) (some (60, true)) (.pick (.t 63) (.k (AV.bool true)) (.t 65)), .op (some 67) none (.pick (.t 60) (.t 66) (.k (AV.bool false))), .op (some 11) none (.mv (.t 67))]) (.seq (.seq (.region [.op (some 68) none (.mv (.t 10)), .op (some 69) none (.mv (.t 11)), .op (some 70) none (.binB .neq (.t 68) (.t 69)), .op (some 71) none (.mv (.t 70)), .split 71, .op (some 72) (some (71, false)) (.mv (.t 10)), .op (some 73) (some (71, false)) (.mv (.t 72)), .split 73, .op (some 74) (some (73, true)) (.mv (.t 8)), .op (some 75) (some (73, true)) (.mv (.t 0)), .op (some 76) (some (73, true)) (.cvInt .i32 (.t 75)), .op (some 77) (some (73, true)) (.cvRune (.t 76)), .op (some 78) (some (73, true)) (.bin .neq (.t 74) (.t 77)), .op (some 79) (some (73, true)) (.mv (.t 78)), .split 79, .op (some 80) (some (79, false)) (.mv (.t 9)), .op (some 81) (some (79, false)) (.bin .neq (.t 80) (.k (AV.int .i64 12))), .op (some 82) (some (73, true)) (.pick (.t 79) (.k (AV.bool true)) (.t 81)), .op (some 83) (some (71, false)) (.pick (.t 73) (.t 82) (.k (AV.bool false))), .op (some 84) none (.pick (.t 71) (.k (AV.bool true)) (.t 83))]) (.cond (.t 84) (.seq (.region [.op (some 4) none (.mv (.k (AV.bool false)))]) (.ret [4] [])) (.skip))) (.seq (.seq (.region [.op (some 85) none (.mv (.t 0)), .op (some 86) none (.bin .gtr (.t 85) (.k (AV.int .u32 65535)))]) (.cond (.t 86) (.seq (.region [.op (some 87) none (.call id_law06Wakes [] (.bool)), .op (some 4) none (.mv (.t 87))]) (.ret [4] [])) (.skip))) (.seq (.region [.op (some 89) none (.mv (.t 5)), .op (some 90) none (.sliceS (.t 89) (some (.k (AV.int .i64 4))) none), .op (some 91) none (.bin .add (.k (AV.str ([34, 92, 117] : List UInt8))) (.t 90)), .op (some 92) none (.bin .add (.t 91) (.k (AV.str ([34] : List UInt8)))), .op (some 93) none (.cvBytes (.t 92)), .op (some 94) none (.call id_doubleTake [.t 93] (.tup [.str, .int .i64, .bool])), .op (some 88) none (.mv (.t 94)), .op (some 95) none (.extract (.t 88) 0), .op (some 96) none (.extract (.t 88) 1), .op (some 97) none (.extract (.t 88) 2), .op (some 12) none (.mv (.t 95)), .op (some 13) none (.mv (.t 96)), .op (some 10) none (.mv (.t 97))]) (.seq (.seq (.region [.op (some 98) none (.mv (.t 10)), .op (some 99) none (.mv (.t 11)), .op (some 100) none (.binB .neq (.t 98) (.t 99)), .op (some 101) none (.mv (.t 100)), .split 101, .op (some 102) (some (101, false)) (.mv (.t 10)), .op (some 103) (some (101, false)) (.mv (.t 102)), .split 103, .op (some 104) (some (103, true)) (.mv (.t 12)), .op (some 105) (some (103, true)) (.mv (.t 0)), .op (some 106) (some (103, true)) (.cvInt .i32 (.t 105)), .op (some 107) (some (103, true)) (.cvRune (.t 106)), .op (some 108) (some (103, true)) (.bin .neq (.t 104) (.t 107)), .op (some 109) (some (101, false)) (.pick (.t 103) (.t 108) (.k (AV.bool false))), .op (some 110) none (.pick (.t 101) (.k (AV.bool true)) (.t 109))]) (.cond (.t 110) (.seq (.region [.op (some 4) none (.mv (.k (AV.bool false)))]) (.ret [4] [])) (.skip))) (.seq (.seq (.region [.op (some 111) none (.mv (.t 0)), .op (some 112) none (.bin .gtr (.t 111) (.k (AV.int .u32 255)))]) (.cond (.t 112) (.seq (.region [.op (some 113) none (.call id_law06Wakes [] (.bool)), .op (some 4) none (.mv (.t 113))]) (.ret [4] [])) (.skip))) (.seq (.region [.op (some 115) none (.mv (.t 5)), .op (some 116) none (.sliceS (.t 115) (some (.k (AV.int .i64 6))) none), .op (some 117) none (.bin .add (.k (AV.str ([34, 92, 120] : List UInt8))) (.t 116)), .op (some 118) none (.bin .add (.t 117) (.k (AV.str ([34] : List UInt8)))), .op (some 119) none (.cvBytes (.t 118)), .op (some 120) none (.call id_doubleTake [.t 119] (.tup [.str, .int .i64, .bool])), .op (some 114) none (.mv (.t 120)), .op (some 121) none (.extract (.t 114) 0), .op (some 122) none (.extract (.t 114) 1), .op (some 123) none (.extract (.t 114) 2), .op (some 12) none (.mv (.t 121)), .op (some 10) none (.mv (.t 123))]) (.seq (.region [.op (some 125) none (.mv (.t 5)), .op (some 126) none (.sliceS (.t 125) (some (.k (AV.int .i64 7))) none), .op (some 127) none (.bin .add (.k (AV.str ([34, 92, 120] : List UInt8))) (.t 126)), .op (some 128) none (.bin .add (.t 127) (.k (AV.str ([34] : List UInt8)))), .op (some 129) none (.cvBytes (.t 128)), .op (some 130) none (.call id_doubleTake [.t 129] (.tup [.str, .int .i64, .bool])), .op (some 124) none (.mv (.t 130)), .op (some 131) none (.extract (.t 124) 0), .op (some 132) none (.extract (.t 124) 1), .op (some 133) none (.extract (.t 124) 2), .op (some 14) none (.mv (.t 131)), .op (some 15) none (.mv (.t 132)), .op (some 16) none (.mv (.t 133))]) (.seq (.region [.op (some 134) none (.mv (.t 10)), .op (some 135) none (.mv (.t 134)), .split 135, .op (some 136) (some (135, true)) (.mv (.t 12)), .op (some 137) (some (135, true)) (.mv (.t 0)), .op (some 138) (some (135, true)) (.cvInt .i32 (.t 137)), .op (some 139) (some (135, true)) (.cvRune (.t 138)), .op (some 140) (some (135, true)) (.bin .eql (.t 136) (.t 139)), .op (some 141) none (.pick (.t 135) (.t 140) (.k (AV.bool false))), .op (some 142) none (.mv (.t 141)), .split 142, .op (some 143) (some (142, true)) (.mv (.t 16)), .op (some 144) (some (142, true)) (.un .not (.t 143)), .op (some 145) none (.pick (.t 142) (.t 144) (.k (AV.bool false))), .op (some 146) none (.mv (.t 145)), .split 146, .op (some 147) (some (146, true)) (.call id_law06Wakes [] (.bool)), .op (some 148) none (.pick (.t 146) (.t 147) (.k (AV.bool false))), .op (some 4) none (.mv (.t 148))]) (.ret [4] []))))))))))
def law06DoubleRunes_c3 : AC := .seq (.region [.op (some 4) none (.mv (.k (AV.bool false)))]) (.seq (.seq (.region [.op (some 17) none (.mv (.t 0)), .op (some 18) none (.bin .rem (.t 17) (.k (AV.int .u32 4))), .op (some 19) none (.bin .neq (.t 18) (.k (AV.int .u32 3)))]) (.cond (.t 19) (.region [.op (some 20) none (.mv (.t 0)), .op (some 21) none (.bin .rem (.t 20) (.k (AV.int .u32 1118208))), .op (some 0) none (.mv (.t 21))]) (.skip))) (.seq (.region [.op (some 22) none (.mv (.t 0)), .op (some 23) none (.call id_doubleHex [.t 22, .k (AV.int .i64 8)] (.str)), .op (some 5) none (.mv (.t 23))]) (.seq (.seq (.region [.op (some 24) none (.mv (.t 5)), .op (some 25) none (.len (.t 24) true), .op (some 26) none (.bin .neq (.t 25) (.k (AV.int .i64 8)))]) (.cond (.t 26) (.seq (.region [.op (some 4) none (.mv (.k (AV.bool false)))]) (.ret [4] [])) (.skip))) (.seq (.seq (.region [.op (some 27) none (.mv (.t 1))]) (.cond (.t 27) (.seq (.region [.op (some 28) none (.mv (.t 5)), .op (some 29) none (.cvBytesOwn 29 (.t 28)), .op (some 6) none (.mv (.t 29))]) (.seq (.seq (.region [.op (some 30) none (.mv (.t 6)), .op (some 31) none (.len (.t 30) false), .op (some 32) none (.mv (.k (AV.int .i64 0)))]) (.block 0 (.loop [0, 6, 31, 32] [29] (law06DoubleRunes_c0)))) (law06DoubleRunes_c1))) (.skip))) (law06DoubleRunes_c2)))))
def law06DoubleRunes : AFunc := ⟨2, 149, [.tmp 4], law06DoubleRunes_c3⟩
def law06DoubleRunesr (R : Nat → List AV → Option Res) (N : Nat) (i1 : Int) (b1 : Bool) : Option Res :=
  need (!decide (4 = 0)) <|
  bif ((Int.tmod i1 4) : Int) != 3 then
    (need (!decide (1118208 = 0)) <|
    (R id_doubleHex [AV.int .u32 (Int.tmod i1 1118208), AV.int .i64 8]).bind fun r1 =>
    asS r1.v fun s1 =>
    bif (((s1.length : Nat) : Int) : Int) != 8 then
      (some ⟨AV.bool false, false, []⟩)
    else
      bif b1 then
        (law06DoubleRunes_L1 R N
          (fun i10 n4 s6 =>
            need (decide ((([34, 92, 85] : List UInt8) : List UInt8).length + ((s6.drop 0).take n4).length ≤ 9223372036854775807)) <|
            need (decide ((([34, 92, 85] : List UInt8) ++ ((s6.drop 0).take n4) : List UInt8).length + (([34] : List UInt8) : List UInt8).length ≤ 9223372036854775807)) <|
            (R id_doubleTake [AV.bytes ((([34, 92, 85] : List UInt8) ++ ((s6.drop 0).take n4)) ++ ([34] : List UInt8))]).bind fun r2 =>
            asSIBT r2.v fun s7 i11 b2 =>
            bif decide ((i10 : Int) ≤ 1114111) then
              (bif decide ((i10 : Int) < 55296) then
                (bif !(b2 == true) then
                  (some ⟨AV.bool false, false, []⟩)
                else
                  bif b2 then
                    (bif !(s7 == ((Utf8.encode (IntKind.i32.wrap i10)).data.toList)) then
                      (some ⟨AV.bool false, false, []⟩)
                    else
                      bif (i11 : Int) != 12 then
                        (some ⟨AV.bool false, false, []⟩)
                      else
                        bif decide ((i10 : Int) > 65535) then
                          ((R id_law06Wakes []).bind fun r3 =>
                          asB r3.v fun b3 =>
                          some ⟨AV.bool b3, false, []⟩)
                        else
                          need (decide (0 ≤ (4 : Int)) && decide ((4 : Int) ≤ ((((s6.drop 0).take n4).length : Nat) : Int))) <|
                          need (decide ((([34, 92, 117] : List UInt8) : List UInt8).length + ((((s6.drop 0).take n4).take (((s6.drop 0).take n4).length)).drop (Int.toNat 4)).length ≤ 9223372036854775807)) <|
                          need (decide ((([34, 92, 117] : List UInt8) ++ ((((s6.drop 0).take n4).take (((s6.drop 0).take n4).length)).drop (Int.toNat 4)) : List UInt8).length + (([34] : List UInt8) : List UInt8).length ≤ 9223372036854775807)) <|
                          (R id_doubleTake [AV.bytes ((([34, 92, 117] : List UInt8) ++ ((((s6.drop 0).take n4).take (((s6.drop 0).take n4).length)).drop (Int.toNat 4))) ++ ([34] : List UInt8))]).bind fun r4 =>
                          asSIBT r4.v fun s8 i12 b4 =>
                          bif !(b4 == true) then
                            (some ⟨AV.bool false, false, []⟩)
                          else
                            bif b4 then
                              (bif !(s8 == ((Utf8.encode (IntKind.i32.wrap i10)).data.toList)) then
                                (some ⟨AV.bool false, false, []⟩)
                              else
                                bif decide ((i10 : Int) > 255) then
                                  ((R id_law06Wakes []).bind fun r5 =>
                                  asB r5.v fun b5 =>
                                  some ⟨AV.bool b5, false, []⟩)
                                else
                                  need (decide (0 ≤ (6 : Int)) && decide ((6 : Int) ≤ ((((s6.drop 0).take n4).length : Nat) : Int))) <|
                                  need (decide ((([34, 92, 120] : List UInt8) : List UInt8).length + ((((s6.drop 0).take n4).take (((s6.drop 0).take n4).length)).drop (Int.toNat 6)).length ≤ 9223372036854775807)) <|
                                  need (decide ((([34, 92, 120] : List UInt8) ++ ((((s6.drop 0).take n4).take (((s6.drop 0).take n4).length)).drop (Int.toNat 6)) : List UInt8).length + (([34] : List UInt8) : List UInt8).length ≤ 9223372036854775807)) <|
                                  (R id_doubleTake [AV.bytes ((([34, 92, 120] : List UInt8) ++ ((((s6.drop 0).take n4).take (((s6.drop 0).take n4).length)).drop (Int.toNat 6))) ++ ([34] : List UInt8))]).bind fun r6 =>
                                  asSIBT r6.v fun s9 i13 b6 =>
                                  need (decide (0 ≤ (7 : Int)) && decide ((7 : Int) ≤ ((((s6.drop 0).take n4).length : Nat) : Int))) <|
                                  need (decide ((([34, 92, 120] : List UInt8) : List UInt8).length + ((((s6.drop 0).take n4).take (((s6.drop 0).take n4).length)).drop (Int.toNat 7)).length ≤ 9223372036854775807)) <|
                                  need (decide ((([34, 92, 120] : List UInt8) ++ ((((s6.drop 0).take n4).take (((s6.drop 0).take n4).length)).drop (Int.toNat 7)) : List UInt8).length + (([34] : List UInt8) : List UInt8).length ≤ 9223372036854775807)) <|
                                  (R id_doubleTake [AV.bytes ((([34, 92, 120] : List UInt8) ++ ((((s6.drop 0).take n4).take (((s6.drop 0).take n4).length)).drop (Int.toNat 7))) ++ ([34] : List UInt8))]).bind fun r7 =>
                                  asSIBT r7.v fun s10 i14 b7 =>
                                  bif b6 then
                                    (bif s9 == ((Utf8.encode (IntKind.i32.wrap i10)).data.toList) then
                                      (bif !b7 then
                                        ((R id_law06Wakes []).bind fun r8 =>
                                        asB r8.v fun b8 =>
                                        some ⟨AV.bool b8, false, []⟩)
                                      else
                                        some ⟨AV.bool false, false, []⟩)
                                    else
                                      some ⟨AV.bool false, false, []⟩)
                                  else
                                    some ⟨AV.bool false, false, []⟩)
                            else
                              bif decide ((i10 : Int) > 255) then
                                ((R id_law06Wakes []).bind fun r9 =>
                                asB r9.v fun b9 =>
                                some ⟨AV.bool b9, false, []⟩)
                              else
                                need (decide (0 ≤ (6 : Int)) && decide ((6 : Int) ≤ ((((s6.drop 0).take n4).length : Nat) : Int))) <|
                                need (decide ((([34, 92, 120] : List UInt8) : List UInt8).length + ((((s6.drop 0).take n4).take (((s6.drop 0).take n4).length)).drop (Int.toNat 6)).length ≤ 9223372036854775807)) <|
                                need (decide ((([34, 92, 120] : List UInt8) ++ ((((s6.drop 0).take n4).take (((s6.drop 0).take n4).length)).drop (Int.toNat 6)) : List UInt8).length + (([34] : List UInt8) : List UInt8).length ≤ 9223372036854775807)) <|
                                (R id_doubleTake [AV.bytes ((([34, 92, 120] : List UInt8) ++ ((((s6.drop 0).take n4).take (((s6.drop 0).take n4).length)).drop (Int.toNat 6))) ++ ([34] : List UInt8))]).bind fun r10 =>
                                asSIBT r10.v fun s11 i15 b10 =>
                                need (decide (0 ≤ (7 : Int)) && decide ((7 : Int) ≤ ((((s6.drop 0).take n4).length : Nat) : Int))) <|
                                need (decide ((([34, 92, 120] : List UInt8) : List UInt8).length + ((((s6.drop 0).take n4).take (((s6.drop 0).take n4).length)).drop (Int.toNat 7)).length ≤ 9223372036854775807)) <|
                                need (decide ((([34, 92, 120] : List UInt8) ++ ((((s6.drop 0).take n4).take (((s6.drop 0).take n4).length)).drop (Int.toNat 7)) : List UInt8).length + (([34] : List UInt8) : List UInt8).length ≤ 9223372036854775807)) <|
                                (R id_doubleTake [AV.bytes ((([34, 92, 120] : List UInt8) ++ ((((s6.drop 0).take n4).take (((s6.drop 0).take n4).length)).drop (Int.toNat 7))) ++ ([34] : List UInt8))]).bind fun r11 =>
                                asSIBT r11.v fun s12 i16 b11 =>
                                bif b10 then
                                  (bif s11 == ((Utf8.encode (IntKind.i32.wrap i10)).data.toList) then
                                    (bif !b11 then
                                      ((R id_law06Wakes []).bind fun r12 =>
                                      asB r12.v fun b12 =>
                                      some ⟨AV.bool b12, false, []⟩)
                                    else
                                      some ⟨AV.bool false, false, []⟩)
                                  else
                                    some ⟨AV.bool false, false, []⟩)
                                else
                                  some ⟨AV.bool false, false, []⟩)
                  else
                    bif decide ((i10 : Int) > 65535) then
                      ((R id_law06Wakes []).bind fun r13 =>
                      asB r13.v fun b13 =>
                      some ⟨AV.bool b13, false, []⟩)
                    else
                      need (decide (0 ≤ (4 : Int)) && decide ((4 : Int) ≤ ((((s6.drop 0).take n4).length : Nat) : Int))) <|
                      need (decide ((([34, 92, 117] : List UInt8) : List UInt8).length + ((((s6.drop 0).take n4).take (((s6.drop 0).take n4).length)).drop (Int.toNat 4)).length ≤ 9223372036854775807)) <|
                      need (decide ((([34, 92, 117] : List UInt8) ++ ((((s6.drop 0).take n4).take (((s6.drop 0).take n4).length)).drop (Int.toNat 4)) : List UInt8).length + (([34] : List UInt8) : List UInt8).length ≤ 9223372036854775807)) <|
                      (R id_doubleTake [AV.bytes ((([34, 92, 117] : List UInt8) ++ ((((s6.drop 0).take n4).take (((s6.drop 0).take n4).length)).drop (Int.toNat 4))) ++ ([34] : List UInt8))]).bind fun r14 =>
                      asSIBT r14.v fun s13 i17 b14 =>
                      bif !(b14 == true) then
                        (some ⟨AV.bool false, false, []⟩)
                      else
                        bif b14 then
                          (bif !(s13 == ((Utf8.encode (IntKind.i32.wrap i10)).data.toList)) then
                            (some ⟨AV.bool false, false, []⟩)
                          else
                            bif decide ((i10 : Int) > 255) then
                              ((R id_law06Wakes []).bind fun r15 =>
                              asB r15.v fun b15 =>
                              some ⟨AV.bool b15, false, []⟩)
                            else
                              need (decide (0 ≤ (6 : Int)) && decide ((6 : Int) ≤ ((((s6.drop 0).take n4).length : Nat) : Int))) <|
                              need (decide ((([34, 92, 120] : List UInt8) : List UInt8).length + ((((s6.drop 0).take n4).take (((s6.drop 0).take n4).length)).drop (Int.toNat 6)).length ≤ 9223372036854775807)) <|
                              need (decide ((([34, 92, 120] : List UInt8) ++ ((((s6.drop 0).take n4).take (((s6.drop 0).take n4).length)).drop (Int.toNat 6)) : List UInt8).length + (([34] : List UInt8) : List UInt8).length ≤ 9223372036854775807)) <|
                              (R id_doubleTake [AV.bytes ((([34, 92, 120] : List UInt8) ++ ((((s6.drop 0).take n4).take (((s6.drop 0).take n4).length)).drop (Int.toNat 6))) ++ ([34] : List UInt8))]).bind fun r16 =>
                              asSIBT r16.v fun s14 i18 b16 =>
                              need (decide (0 ≤ (7 : Int)) && decide ((7 : Int) ≤ ((((s6.drop 0).take n4).length : Nat) : Int))) <|
                              need (decide ((([34, 92, 120] : List UInt8) : List UInt8).length + ((((s6.drop 0).take n4).take (((s6.drop 0).take n4).length)).drop (Int.toNat 7)).length ≤ 9223372036854775807)) <|
                              need (decide ((([34, 92, 120] : List UInt8) ++ ((((s6.drop 0).take n4).take (((s6.drop 0).take n4).length)).drop (Int.toNat 7)) : List UInt8).length + (([34] : List UInt8) : List UInt8).length ≤ 9223372036854775807)) <|
                              (R id_doubleTake [AV.bytes ((([34, 92, 120] : List UInt8) ++ ((((s6.drop 0).take n4).take (((s6.drop 0).take n4).length)).drop (Int.toNat 7))) ++ ([34] : List UInt8))]).bind fun r17 =>
                              asSIBT r17.v fun s15 i19 b17 =>
                              bif b16 then
                                (bif s14 == ((Utf8.encode (IntKind.i32.wrap i10)).data.toList) then
                                  (bif !b17 then
                                    ((R id_law06Wakes []).bind fun r18 =>
                                    asB r18.v fun b18 =>
                                    some ⟨AV.bool b18, false, []⟩)
                                  else
                                    some ⟨AV.bool false, false, []⟩)
                                else
                                  some ⟨AV.bool false, false, []⟩)
                              else
                                some ⟨AV.bool false, false, []⟩)
                        else
                          bif decide ((i10 : Int) > 255) then
                            ((R id_law06Wakes []).bind fun r19 =>
                            asB r19.v fun b19 =>
                            some ⟨AV.bool b19, false, []⟩)
                          else
                            need (decide (0 ≤ (6 : Int)) && decide ((6 : Int) ≤ ((((s6.drop 0).take n4).length : Nat) : Int))) <|
                            need (decide ((([34, 92, 120] : List UInt8) : List UInt8).length + ((((s6.drop 0).take n4).take (((s6.drop 0).take n4).length)).drop (Int.toNat 6)).length ≤ 9223372036854775807)) <|
                            need (decide ((([34, 92, 120] : List UInt8) ++ ((((s6.drop 0).take n4).take (((s6.drop 0).take n4).length)).drop (Int.toNat 6)) : List UInt8).length + (([34] : List UInt8) : List UInt8).length ≤ 9223372036854775807)) <|
                            (R id_doubleTake [AV.bytes ((([34, 92, 120] : List UInt8) ++ ((((s6.drop 0).take n4).take (((s6.drop 0).take n4).length)).drop (Int.toNat 6))) ++ ([34] : List UInt8))]).bind fun r20 =>
                            asSIBT r20.v fun s16 i20 b20 =>
                            need (decide (0 ≤ (7 : Int)) && decide ((7 : Int) ≤ ((((s6.drop 0).take n4).length : Nat) : Int))) <|
                            need (decide ((([34, 92, 120] : List UInt8) : List UInt8).length + ((((s6.drop 0).take n4).take (((s6.drop 0).take n4).length)).drop (Int.toNat 7)).length ≤ 9223372036854775807)) <|
                            need (decide ((([34, 92, 120] : List UInt8) ++ ((((s6.drop 0).take n4).take (((s6.drop 0).take n4).length)).drop (Int.toNat 7)) : List UInt8).length + (([34] : List UInt8) : List UInt8).length ≤ 9223372036854775807)) <|
                            (R id_doubleTake [AV.bytes ((([34, 92, 120] : List UInt8) ++ ((((s6.drop 0).take n4).take (((s6.drop 0).take n4).length)).drop (Int.toNat 7))) ++ ([34] : List UInt8))]).bind fun r21 =>
                            asSIBT r21.v fun s17 i21 b21 =>
                            bif b20 then
                              (bif s16 == ((Utf8.encode (IntKind.i32.wrap i10)).data.toList) then
                                (bif !b21 then
                                  ((R id_law06Wakes []).bind fun r22 =>
                                  asB r22.v fun b22 =>
                                  some ⟨AV.bool b22, false, []⟩)
                                else
                                  some ⟨AV.bool false, false, []⟩)
                              else
                                some ⟨AV.bool false, false, []⟩)
                            else
                              some ⟨AV.bool false, false, []⟩)
              else
                bif !(b2 == (decide ((i10 : Int) > 57343))) then
                  (some ⟨AV.bool false, false, []⟩)
                else
                  bif b2 then
                    (bif !(s7 == ((Utf8.encode (IntKind.i32.wrap i10)).data.toList)) then
                      (some ⟨AV.bool false, false, []⟩)
                    else
                      bif (i11 : Int) != 12 then
                        (some ⟨AV.bool false, false, []⟩)
                      else
                        bif decide ((i10 : Int) > 65535) then
                          ((R id_law06Wakes []).bind fun r23 =>
                          asB r23.v fun b23 =>
                          some ⟨AV.bool b23, false, []⟩)
                        else
                          need (decide (0 ≤ (4 : Int)) && decide ((4 : Int) ≤ ((((s6.drop 0).take n4).length : Nat) : Int))) <|
                          need (decide ((([34, 92, 117] : List UInt8) : List UInt8).length + ((((s6.drop 0).take n4).take (((s6.drop 0).take n4).length)).drop (Int.toNat 4)).length ≤ 9223372036854775807)) <|
                          need (decide ((([34, 92, 117] : List UInt8) ++ ((((s6.drop 0).take n4).take (((s6.drop 0).take n4).length)).drop (Int.toNat 4)) : List UInt8).length + (([34] : List UInt8) : List UInt8).length ≤ 9223372036854775807)) <|
                          (R id_doubleTake [AV.bytes ((([34, 92, 117] : List UInt8) ++ ((((s6.drop 0).take n4).take (((s6.drop 0).take n4).length)).drop (Int.toNat 4))) ++ ([34] : List UInt8))]).bind fun r24 =>
                          asSIBT r24.v fun s18 i22 b24 =>
                          bif !(b24 == (decide ((i10 : Int) > 57343))) then
                            (some ⟨AV.bool false, false, []⟩)
                          else
                            bif b24 then
                              (bif !(s18 == ((Utf8.encode (IntKind.i32.wrap i10)).data.toList)) then
                                (some ⟨AV.bool false, false, []⟩)
                              else
                                bif decide ((i10 : Int) > 255) then
                                  ((R id_law06Wakes []).bind fun r25 =>
                                  asB r25.v fun b25 =>
                                  some ⟨AV.bool b25, false, []⟩)
                                else
                                  need (decide (0 ≤ (6 : Int)) && decide ((6 : Int) ≤ ((((s6.drop 0).take n4).length : Nat) : Int))) <|
                                  need (decide ((([34, 92, 120] : List UInt8) : List UInt8).length + ((((s6.drop 0).take n4).take (((s6.drop 0).take n4).length)).drop (Int.toNat 6)).length ≤ 9223372036854775807)) <|
                                  need (decide ((([34, 92, 120] : List UInt8) ++ ((((s6.drop 0).take n4).take (((s6.drop 0).take n4).length)).drop (Int.toNat 6)) : List UInt8).length + (([34] : List UInt8) : List UInt8).length ≤ 9223372036854775807)) <|
                                  (R id_doubleTake [AV.bytes ((([34, 92, 120] : List UInt8) ++ ((((s6.drop 0).take n4).take (((s6.drop 0).take n4).length)).drop (Int.toNat 6))) ++ ([34] : List UInt8))]).bind fun r26 =>
                                  asSIBT r26.v fun s19 i23 b26 =>
                                  need (decide (0 ≤ (7 : Int)) && decide ((7 : Int) ≤ ((((s6.drop 0).take n4).length : Nat) : Int))) <|
                                  need (decide ((([34, 92, 120] : List UInt8) : List UInt8).length + ((((s6.drop 0).take n4).take (((s6.drop 0).take n4).length)).drop (Int.toNat 7)).length ≤ 9223372036854775807)) <|
                                  need (decide ((([34, 92, 120] : List UInt8) ++ ((((s6.drop 0).take n4).take (((s6.drop 0).take n4).length)).drop (Int.toNat 7)) : List UInt8).length + (([34] : List UInt8) : List UInt8).length ≤ 9223372036854775807)) <|
                                  (R id_doubleTake [AV.bytes ((([34, 92, 120] : List UInt8) ++ ((((s6.drop 0).take n4).take (((s6.drop 0).take n4).length)).drop (Int.toNat 7))) ++ ([34] : List UInt8))]).bind fun r27 =>
                                  asSIBT r27.v fun s20 i24 b27 =>
                                  bif b26 then
                                    (bif s19 == ((Utf8.encode (IntKind.i32.wrap i10)).data.toList) then
                                      (bif !b27 then
                                        ((R id_law06Wakes []).bind fun r28 =>
                                        asB r28.v fun b28 =>
                                        some ⟨AV.bool b28, false, []⟩)
                                      else
                                        some ⟨AV.bool false, false, []⟩)
                                    else
                                      some ⟨AV.bool false, false, []⟩)
                                  else
                                    some ⟨AV.bool false, false, []⟩)
                            else
                              bif decide ((i10 : Int) > 255) then
                                ((R id_law06Wakes []).bind fun r29 =>
                                asB r29.v fun b29 =>
                                some ⟨AV.bool b29, false, []⟩)
                              else
                                need (decide (0 ≤ (6 : Int)) && decide ((6 : Int) ≤ ((((s6.drop 0).take n4).length : Nat) : Int))) <|
                                need (decide ((([34, 92, 120] : List UInt8) : List UInt8).length + ((((s6.drop 0).take n4).take (((s6.drop 0).take n4).length)).drop (Int.toNat 6)).length ≤ 9223372036854775807)) <|
                                need (decide ((([34, 92, 120] : List UInt8) ++ ((((s6.drop 0).take n4).take (((s6.drop 0).take n4).length)).drop (Int.toNat 6)) : List UInt8).length + (([34] : List UInt8) : List UInt8).length ≤ 9223372036854775807)) <|
                                (R id_doubleTake [AV.bytes ((([34, 92, 120] : List UInt8) ++ ((((s6.drop 0).take n4).take (((s6.drop 0).take n4).length)).drop (Int.toNat 6))) ++ ([34] : List UInt8))]).bind fun r30 =>
                                asSIBT r30.v fun s21 i25 b30 =>
                                need (decide (0 ≤ (7 : Int)) && decide ((7 : Int) ≤ ((((s6.drop 0).take n4).length : Nat) : Int))) <|
                                need (decide ((([34, 92, 120] : List UInt8) : List UInt8).length + ((((s6.drop 0).take n4).take (((s6.drop 0).take n4).length)).drop (Int.toNat 7)).length ≤ 9223372036854775807)) <|
                                need (decide ((([34, 92, 120] : List UInt8) ++ ((((s6.drop 0).take n4).take (((s6.drop 0).take n4).length)).drop (Int.toNat 7)) : List UInt8).length + (([34] : List UInt8) : List UInt8).length ≤ 9223372036854775807)) <|
                                (R id_doubleTake [AV.bytes ((([34, 92, 120] : List UInt8) ++ ((((s6.drop 0).take n4).take (((s6.drop 0).take n4).length)).drop (Int.toNat 7))) ++ ([34] : List UInt8))]).bind fun r31 =>
                                asSIBT r31.v fun s22 i26 b31 =>
                                bif b30 then
                                  (bif s21 == ((Utf8.encode (IntKind.i32.wrap i10)).data.toList) then
                                    (bif !b31 then
                                      ((R id_law06Wakes []).bind fun r32 =>
                                      asB r32.v fun b32 =>
                                      some ⟨AV.bool b32, false, []⟩)
                                    else
                                      some ⟨AV.bool false, false, []⟩)
                                  else
                                    some ⟨AV.bool false, false, []⟩)
                                else
                                  some ⟨AV.bool false, false, []⟩)
                  else
                    bif decide ((i10 : Int) > 65535) then
                      ((R id_law06Wakes []).bind fun r33 =>
                      asB r33.v fun b33 =>
                      some ⟨AV.bool b33, false, []⟩)
                    else
                      need (decide (0 ≤ (4 : Int)) && decide ((4 : Int) ≤ ((((s6.drop 0).take n4).length : Nat) : Int))) <|
                      need (decide ((([34, 92, 117] : List UInt8) : List UInt8).length + ((((s6.drop 0).take n4).take (((s6.drop 0).take n4).length)).drop (Int.toNat 4)).length ≤ 9223372036854775807)) <|
                      need (decide ((([34, 92, 117] : List UInt8) ++ ((((s6.drop 0).take n4).take (((s6.drop 0).take n4).length)).drop (Int.toNat 4)) : List UInt8).length + (([34] : List UInt8) : List UInt8).length ≤ 9223372036854775807)) <|
                      (R id_doubleTake [AV.bytes ((([34, 92, 117] : List UInt8) ++ ((((s6.drop 0).take n4).take (((s6.drop 0).take n4).length)).drop (Int.toNat 4))) ++ ([34] : List UInt8))]).bind fun r34 =>
                      asSIBT r34.v fun s23 i27 b34 =>
                      bif !(b34 == (decide ((i10 : Int) > 57343))) then
                        (some ⟨AV.bool false, false, []⟩)
                      else
                        bif b34 then
                          (bif !(s23 == ((Utf8.encode (IntKind.i32.wrap i10)).data.toList)) then
                            (some ⟨AV.bool false, false, []⟩)
                          else
                            bif decide ((i10 : Int) > 255) then
                              ((R id_law06Wakes []).bind fun r35 =>
                              asB r35.v fun b35 =>
                              some ⟨AV.bool b35, false, []⟩)
                            else
                              need (decide (0 ≤ (6 : Int)) && decide ((6 : Int) ≤ ((((s6.drop 0).take n4).length : Nat) : Int))) <|
                              need (decide ((([34, 92, 120] : List UInt8) : List UInt8).length + ((((s6.drop 0).take n4).take (((s6.drop 0).take n4).length)).drop (Int.toNat 6)).length ≤ 9223372036854775807)) <|
                              need (decide ((([34, 92, 120] : List UInt8) ++ ((((s6.drop 0).take n4).take (((s6.drop 0).take n4).length)).drop (Int.toNat 6)) : List UInt8).length + (([34] : List UInt8) : List UInt8).length ≤ 9223372036854775807)) <|
                              (R id_doubleTake [AV.bytes ((([34, 92, 120] : List UInt8) ++ ((((s6.drop 0).take n4).take (((s6.drop 0).take n4).length)).drop (Int.toNat 6))) ++ ([34] : List UInt8))]).bind fun r36 =>
                              asSIBT r36.v fun s24 i28 b36 =>
                              need (decide (0 ≤ (7 : Int)) && decide ((7 : Int) ≤ ((((s6.drop 0).take n4).length : Nat) : Int))) <|
                              need (decide ((([34, 92, 120] : List UInt8) : List UInt8).length + ((((s6.drop 0).take n4).take (((s6.drop 0).take n4).length)).drop (Int.toNat 7)).length ≤ 9223372036854775807)) <|
                              need (decide ((([34, 92, 120] : List UInt8) ++ ((((s6.drop 0).take n4).take (((s6.drop 0).take n4).length)).drop (Int.toNat 7)) : List UInt8).length + (([34] : List UInt8) : List UInt8).length ≤ 9223372036854775807)) <|
                              (R id_doubleTake [AV.bytes ((([34, 92, 120] : List UInt8) ++ ((((s6.drop 0).take n4).take (((s6.drop 0).take n4).length)).drop (Int.toNat 7))) ++ ([34] : List UInt8))]).bind fun r37 =>
                              asSIBT r37.v fun s25 i29 b37 =>
                              bif b36 then
                                (bif s24 == ((Utf8.encode (IntKind.i32.wrap i10)).data.toList) then
                                  (bif !b37 then
                                    ((R id_law06Wakes []).bind fun r38 =>
                                    asB r38.v fun b38 =>
                                    some ⟨AV.bool b38, false, []⟩)
                                  else
                                    some ⟨AV.bool false, false, []⟩)
                                else
                                  some ⟨AV.bool false, false, []⟩)
                              else
                                some ⟨AV.bool false, false, []⟩)
                        else
                          bif decide ((i10 : Int) > 255) then
                            ((R id_law06Wakes []).bind fun r39 =>
                            asB r39.v fun b39 =>
                            some ⟨AV.bool b39, false, []⟩)
                          else
                            need (decide (0 ≤ (6 : Int)) && decide ((6 : Int) ≤ ((((s6.drop 0).take n4).length : Nat) : Int))) <|
                            need (decide ((([34, 92, 120] : List UInt8) : List UInt8).length + ((((s6.drop 0).take n4).take (((s6.drop 0).take n4).length)).drop (Int.toNat 6)).length ≤ 9223372036854775807)) <|
                            need (decide ((([34, 92, 120] : List UInt8) ++ ((((s6.drop 0).take n4).take (((s6.drop 0).take n4).length)).drop (Int.toNat 6)) : List UInt8).length + (([34] : List UInt8) : List UInt8).length ≤ 9223372036854775807)) <|
                            (R id_doubleTake [AV.bytes ((([34, 92, 120] : List UInt8) ++ ((((s6.drop 0).take n4).take (((s6.drop 0).take n4).length)).drop (Int.toNat 6))) ++ ([34] : List UInt8))]).bind fun r40 =>
                            asSIBT r40.v fun s26 i30 b40 =>
                            need (decide (0 ≤ (7 : Int)) && decide ((7 : Int) ≤ ((((s6.drop 0).take n4).length : Nat) : Int))) <|
                            need (decide ((([34, 92, 120] : List UInt8) : List UInt8).length + ((((s6.drop 0).take n4).take (((s6.drop 0).take n4).length)).drop (Int.toNat 7)).length ≤ 9223372036854775807)) <|
                            need (decide ((([34, 92, 120] : List UInt8) ++ ((((s6.drop 0).take n4).take (((s6.drop 0).take n4).length)).drop (Int.toNat 7)) : List UInt8).length + (([34] : List UInt8) : List UInt8).length ≤ 9223372036854775807)) <|
                            (R id_doubleTake [AV.bytes ((([34, 92, 120] : List UInt8) ++ ((((s6.drop 0).take n4).take (((s6.drop 0).take n4).length)).drop (Int.toNat 7))) ++ ([34] : List UInt8))]).bind fun r41 =>
                            asSIBT r41.v fun s27 i31 b41 =>
                            bif b40 then
                              (bif s26 == ((Utf8.encode (IntKind.i32.wrap i10)).data.toList) then
                                (bif !b41 then
                                  ((R id_law06Wakes []).bind fun r42 =>
                                  asB r42.v fun b42 =>
                                  some ⟨AV.bool b42, false, []⟩)
                                else
                                  some ⟨AV.bool false, false, []⟩)
                              else
                                some ⟨AV.bool false, false, []⟩)
                            else
                              some ⟨AV.bool false, false, []⟩)
            else
              bif !(b2 == false) then
                (some ⟨AV.bool false, false, []⟩)
              else
                bif b2 then
                  (bif !(s7 == ((Utf8.encode (IntKind.i32.wrap i10)).data.toList)) then
                    (some ⟨AV.bool false, false, []⟩)
                  else
                    bif (i11 : Int) != 12 then
                      (some ⟨AV.bool false, false, []⟩)
                    else
                      bif decide ((i10 : Int) > 65535) then
                        ((R id_law06Wakes []).bind fun r43 =>
                        asB r43.v fun b43 =>
                        some ⟨AV.bool b43, false, []⟩)
                      else
                        need (decide (0 ≤ (4 : Int)) && decide ((4 : Int) ≤ ((((s6.drop 0).take n4).length : Nat) : Int))) <|
                        need (decide ((([34, 92, 117] : List UInt8) : List UInt8).length + ((((s6.drop 0).take n4).take (((s6.drop 0).take n4).length)).drop (Int.toNat 4)).length ≤ 9223372036854775807)) <|
                        need (decide ((([34, 92, 117] : List UInt8) ++ ((((s6.drop 0).take n4).take (((s6.drop 0).take n4).length)).drop (Int.toNat 4)) : List UInt8).length + (([34] : List UInt8) : List UInt8).length ≤ 9223372036854775807)) <|
                        (R id_doubleTake [AV.bytes ((([34, 92, 117] : List UInt8) ++ ((((s6.drop 0).take n4).take (((s6.drop 0).take n4).length)).drop (Int.toNat 4))) ++ ([34] : List UInt8))]).bind fun r44 =>
                        asSIBT r44.v fun s28 i32 b44 =>
                        bif !(b44 == false) then
                          (some ⟨AV.bool false, false, []⟩)
                        else
                          bif b44 then
                            (bif !(s28 == ((Utf8.encode (IntKind.i32.wrap i10)).data.toList)) then
                              (some ⟨AV.bool false, false, []⟩)
                            else
                              bif decide ((i10 : Int) > 255) then
                                ((R id_law06Wakes []).bind fun r45 =>
                                asB r45.v fun b45 =>
                                some ⟨AV.bool b45, false, []⟩)
                              else
                                need (decide (0 ≤ (6 : Int)) && decide ((6 : Int) ≤ ((((s6.drop 0).take n4).length : Nat) : Int))) <|
                                need (decide ((([34, 92, 120] : List UInt8) : List UInt8).length + ((((s6.drop 0).take n4).take (((s6.drop 0).take n4).length)).drop (Int.toNat 6)).length ≤ 9223372036854775807)) <|
                                need (decide ((([34, 92, 120] : List UInt8) ++ ((((s6.drop 0).take n4).take (((s6.drop 0).take n4).length)).drop (Int.toNat 6)) : List UInt8).length + (([34] : List UInt8) : List UInt8).length ≤ 9223372036854775807)) <|
                                (R id_doubleTake [AV.bytes ((([34, 92, 120] : List UInt8) ++ ((((s6.drop 0).take n4).take (((s6.drop 0).take n4).length)).drop (Int.toNat 6))) ++ ([34] : List UInt8))]).bind fun r46 =>
                                asSIBT r46.v fun s29 i33 b46 =>
                                need (decide (0 ≤ (7 : Int)) && decide ((7 : Int) ≤ ((((s6.drop 0).take n4).length : Nat) : Int))) <|
                                need (decide ((([34, 92, 120] : List UInt8) : List UInt8).length + ((((s6.drop 0).take n4).take (((s6.drop 0).take n4).length)).drop (Int.toNat 7)).length ≤ 9223372036854775807)) <|
                                need (decide ((([34, 92, 120] : List UInt8) ++ ((((s6.drop 0).take n4).take (((s6.drop 0).take n4).length)).drop (Int.toNat 7)) : List UInt8).length + (([34] : List UInt8) : List UInt8).length ≤ 9223372036854775807)) <|
                                (R id_doubleTake [AV.bytes ((([34, 92, 120] : List UInt8) ++ ((((s6.drop 0).take n4).take (((s6.drop 0).take n4).length)).drop (Int.toNat 7))) ++ ([34] : List UInt8))]).bind fun r47 =>
                                asSIBT r47.v fun s30 i34 b47 =>
                                bif b46 then
                                  (bif s29 == ((Utf8.encode (IntKind.i32.wrap i10)).data.toList) then
                                    (bif !b47 then
                                      ((R id_law06Wakes []).bind fun r48 =>
                                      asB r48.v fun b48 =>
                                      some ⟨AV.bool b48, false, []⟩)
                                    else
                                      some ⟨AV.bool false, false, []⟩)
                                  else
                                    some ⟨AV.bool false, false, []⟩)
                                else
                                  some ⟨AV.bool false, false, []⟩)
                          else
                            bif decide ((i10 : Int) > 255) then
                              ((R id_law06Wakes []).bind fun r49 =>
                              asB r49.v fun b49 =>
                              some ⟨AV.bool b49, false, []⟩)
                            else
                              need (decide (0 ≤ (6 : Int)) && decide ((6 : Int) ≤ ((((s6.drop 0).take n4).length : Nat) : Int))) <|
                              need (decide ((([34, 92, 120] : List UInt8) : List UInt8).length + ((((s6.drop 0).take n4).take (((s6.drop 0).take n4).length)).drop (Int.toNat 6)).length ≤ 9223372036854775807)) <|
                              need (decide ((([34, 92, 120] : List UInt8) ++ ((((s6.drop 0).take n4).take (((s6.drop 0).take n4).length)).drop (Int.toNat 6)) : List UInt8).length + (([34] : List UInt8) : List UInt8).length ≤ 9223372036854775807)) <|
                              (R id_doubleTake [AV.bytes ((([34, 92, 120] : List UInt8) ++ ((((s6.drop 0).take n4).take (((s6.drop 0).take n4).length)).drop (Int.toNat 6))) ++ ([34] : List UInt8))]).bind fun r50 =>
                              asSIBT r50.v fun s31 i35 b50 =>
                              need (decide (0 ≤ (7 : Int)) && decide ((7 : Int) ≤ ((((s6.drop 0).take n4).length : Nat) : Int))) <|
                              need (decide ((([34, 92, 120] : List UInt8) : List UInt8).length + ((((s6.drop 0).take n4).take (((s6.drop 0).take n4).length)).drop (Int.toNat 7)).length ≤ 9223372036854775807)) <|
                              need (decide ((([34, 92, 120] : List UInt8) ++ ((((s6.drop 0).take n4).take (((s6.drop 0).take n4).length)).drop (Int.toNat 7)) : List UInt8).length + (([34] : List UInt8) : List UInt8).length ≤ 9223372036854775807)) <|
                              (R id_doubleTake [AV.bytes ((([34, 92, 120] : List UInt8) ++ ((((s6.drop 0).take n4).take (((s6.drop 0).take n4).length)).drop (Int.toNat 7))) ++ ([34] : List UInt8))]).bind fun r51 =>
                              asSIBT r51.v fun s32 i36 b51 =>
                              bif b50 then
                                (bif s31 == ((Utf8.encode (IntKind.i32.wrap i10)).data.toList) then
                                  (bif !b51 then
                                    ((R id_law06Wakes []).bind fun r52 =>
                                    asB r52.v fun b52 =>
                                    some ⟨AV.bool b52, false, []⟩)
                                  else
                                    some ⟨AV.bool false, false, []⟩)
                                else
                                  some ⟨AV.bool false, false, []⟩)
                              else
                                some ⟨AV.bool false, false, []⟩)
                else
                  bif decide ((i10 : Int) > 65535) then
                    ((R id_law06Wakes []).bind fun r53 =>
                    asB r53.v fun b53 =>
                    some ⟨AV.bool b53, false, []⟩)
                  else
                    need (decide (0 ≤ (4 : Int)) && decide ((4 : Int) ≤ ((((s6.drop 0).take n4).length : Nat) : Int))) <|
                    need (decide ((([34, 92, 117] : List UInt8) : List UInt8).length + ((((s6.drop 0).take n4).take (((s6.drop 0).take n4).length)).drop (Int.toNat 4)).length ≤ 9223372036854775807)) <|
                    need (decide ((([34, 92, 117] : List UInt8) ++ ((((s6.drop 0).take n4).take (((s6.drop 0).take n4).length)).drop (Int.toNat 4)) : List UInt8).length + (([34] : List UInt8) : List UInt8).length ≤ 9223372036854775807)) <|
                    (R id_doubleTake [AV.bytes ((([34, 92, 117] : List UInt8) ++ ((((s6.drop 0).take n4).take (((s6.drop 0).take n4).length)).drop (Int.toNat 4))) ++ ([34] : List UInt8))]).bind fun r54 =>
                    asSIBT r54.v fun s33 i37 b54 =>
                    bif !(b54 == false) then
                      (some ⟨AV.bool false, false, []⟩)
                    else
                      bif b54 then
                        (bif !(s33 == ((Utf8.encode (IntKind.i32.wrap i10)).data.toList)) then
                          (some ⟨AV.bool false, false, []⟩)
                        else
                          bif decide ((i10 : Int) > 255) then
                            ((R id_law06Wakes []).bind fun r55 =>
                            asB r55.v fun b55 =>
                            some ⟨AV.bool b55, false, []⟩)
                          else
                            need (decide (0 ≤ (6 : Int)) && decide ((6 : Int) ≤ ((((s6.drop 0).take n4).length : Nat) : Int))) <|
                            need (decide ((([34, 92, 120] : List UInt8) : List UInt8).length + ((((s6.drop 0).take n4).take (((s6.drop 0).take n4).length)).drop (Int.toNat 6)).length ≤ 9223372036854775807)) <|
                            need (decide ((([34, 92, 120] : List UInt8) ++ ((((s6.drop 0).take n4).take (((s6.drop 0).take n4).length)).drop (Int.toNat 6)) : List UInt8).length + (([34] : List UInt8) : List UInt8).length ≤ 9223372036854775807)) <|
                            (R id_doubleTake [AV.bytes ((([34, 92, 120] : List UInt8) ++ ((((s6.drop 0).take n4).take (((s6.drop 0).take n4).length)).drop (Int.toNat 6))) ++ ([34] : List UInt8))]).bind fun r56 =>
                            asSIBT r56.v fun s34 i38 b56 =>
                            need (decide (0 ≤ (7 : Int)) && decide ((7 : Int) ≤ ((((s6.drop 0).take n4).length : Nat) : Int))) <|
                            need (decide ((([34, 92, 120] : List UInt8) : List UInt8).length + ((((s6.drop 0).take n4).take (((s6.drop 0).take n4).length)).drop (Int.toNat 7)).length ≤ 9223372036854775807)) <|
                            need (decide ((([34, 92, 120] : List UInt8) ++ ((((s6.drop 0).take n4).take (((s6.drop 0).take n4).length)).drop (Int.toNat 7)) : List UInt8).length + (([34] : List UInt8) : List UInt8).length ≤ 9223372036854775807)) <|
                            (R id_doubleTake [AV.bytes ((([34, 92, 120] : List UInt8) ++ ((((s6.drop 0).take n4).take (((s6.drop 0).take n4).length)).drop (Int.toNat 7))) ++ ([34] : List UInt8))]).bind fun r57 =>
                            asSIBT r57.v fun s35 i39 b57 =>
                            bif b56 then
                              (bif s34 == ((Utf8.encode (IntKind.i32.wrap i10)).data.toList) then
                                (bif !b57 then
                                  ((R id_law06Wakes []).bind fun r58 =>
                                  asB r58.v fun b58 =>
                                  some ⟨AV.bool b58, false, []⟩)
                                else
                                  some ⟨AV.bool false, false, []⟩)
                              else
                                some ⟨AV.bool false, false, []⟩)
                            else
                              some ⟨AV.bool false, false, []⟩)
                      else
                        bif decide ((i10 : Int) > 255) then
                          ((R id_law06Wakes []).bind fun r59 =>
                          asB r59.v fun b59 =>
                          some ⟨AV.bool b59, false, []⟩)
                        else
                          need (decide (0 ≤ (6 : Int)) && decide ((6 : Int) ≤ ((((s6.drop 0).take n4).length : Nat) : Int))) <|
                          need (decide ((([34, 92, 120] : List UInt8) : List UInt8).length + ((((s6.drop 0).take n4).take (((s6.drop 0).take n4).length)).drop (Int.toNat 6)).length ≤ 9223372036854775807)) <|
                          need (decide ((([34, 92, 120] : List UInt8) ++ ((((s6.drop 0).take n4).take (((s6.drop 0).take n4).length)).drop (Int.toNat 6)) : List UInt8).length + (([34] : List UInt8) : List UInt8).length ≤ 9223372036854775807)) <|
                          (R id_doubleTake [AV.bytes ((([34, 92, 120] : List UInt8) ++ ((((s6.drop 0).take n4).take (((s6.drop 0).take n4).length)).drop (Int.toNat 6))) ++ ([34] : List UInt8))]).bind fun r60 =>
                          asSIBT r60.v fun s36 i40 b60 =>
                          need (decide (0 ≤ (7 : Int)) && decide ((7 : Int) ≤ ((((s6.drop 0).take n4).length : Nat) : Int))) <|
                          need (decide ((([34, 92, 120] : List UInt8) : List UInt8).length + ((((s6.drop 0).take n4).take (((s6.drop 0).take n4).length)).drop (Int.toNat 7)).length ≤ 9223372036854775807)) <|
                          need (decide ((([34, 92, 120] : List UInt8) ++ ((((s6.drop 0).take n4).take (((s6.drop 0).take n4).length)).drop (Int.toNat 7)) : List UInt8).length + (([34] : List UInt8) : List UInt8).length ≤ 9223372036854775807)) <|
                          (R id_doubleTake [AV.bytes ((([34, 92, 120] : List UInt8) ++ ((((s6.drop 0).take n4).take (((s6.drop 0).take n4).length)).drop (Int.toNat 7))) ++ ([34] : List UInt8))]).bind fun r61 =>
                          asSIBT r61.v fun s37 i41 b61 =>
                          bif b60 then
                            (bif s36 == ((Utf8.encode (IntKind.i32.wrap i10)).data.toList) then
                              (bif !b61 then
                                ((R id_law06Wakes []).bind fun r62 =>
                                asB r62.v fun b62 =>
                                some ⟨AV.bool b62, false, []⟩)
                              else
                                some ⟨AV.bool false, false, []⟩)
                            else
                              some ⟨AV.bool false, false, []⟩)
                          else
                            some ⟨AV.bool false, false, []⟩)
          N (Int.tmod i1 1118208) s1.length ((s1.length : Nat) : Int) 0 s1)
      else
        need (decide ((([34, 92, 85] : List UInt8) : List UInt8).length + s1.length ≤ 9223372036854775807)) <|
        need (decide ((([34, 92, 85] : List UInt8) ++ s1 : List UInt8).length + (([34] : List UInt8) : List UInt8).length ≤ 9223372036854775807)) <|
        (R id_doubleTake [AV.bytes ((([34, 92, 85] : List UInt8) ++ s1) ++ ([34] : List UInt8))]).bind fun r63 =>
        asSIBT r63.v fun s38 i42 b63 =>
        bif decide (((Int.tmod i1 1118208) : Int) ≤ 1114111) then
          (bif decide (((Int.tmod i1 1118208) : Int) < 55296) then
            (bif !(b63 == true) then
              (some ⟨AV.bool false, false, []⟩)
            else
              bif b63 then
                (bif !(s38 == ((Utf8.encode (IntKind.i32.wrap (Int.tmod i1 1118208))).data.toList)) then
                  (some ⟨AV.bool false, false, []⟩)
                else
                  bif (i42 : Int) != 12 then
                    (some ⟨AV.bool false, false, []⟩)
                  else
                    bif decide (((Int.tmod i1 1118208) : Int) > 65535) then
                      ((R id_law06Wakes []).bind fun r64 =>
                      asB r64.v fun b64 =>
                      some ⟨AV.bool b64, false, []⟩)
                    else
                      need (decide (0 ≤ (4 : Int)) && decide ((4 : Int) ≤ ((s1.length : Nat) : Int))) <|
                      need (decide ((([34, 92, 117] : List UInt8) : List UInt8).length + ((s1.take s1.length).drop (Int.toNat 4)).length ≤ 9223372036854775807)) <|
                      need (decide ((([34, 92, 117] : List UInt8) ++ ((s1.take s1.length).drop (Int.toNat 4)) : List UInt8).length + (([34] : List UInt8) : List UInt8).length ≤ 9223372036854775807)) <|
                      (R id_doubleTake [AV.bytes ((([34, 92, 117] : List UInt8) ++ ((s1.take s1.length).drop (Int.toNat 4))) ++ ([34] : List UInt8))]).bind fun r65 =>
                      asSIBT r65.v fun s39 i43 b65 =>
                      bif !(b65 == true) then
                        (some ⟨AV.bool false, false, []⟩)
                      else
                        bif b65 then
                          (bif !(s39 == ((Utf8.encode (IntKind.i32.wrap (Int.tmod i1 1118208))).data.toList)) then
                            (some ⟨AV.bool false, false, []⟩)
                          else
                            bif decide (((Int.tmod i1 1118208) : Int) > 255) then
                              ((R id_law06Wakes []).bind fun r66 =>
                              asB r66.v fun b66 =>
                              some ⟨AV.bool b66, false, []⟩)
                            else
                              need (decide (0 ≤ (6 : Int)) && decide ((6 : Int) ≤ ((s1.length : Nat) : Int))) <|
                              need (decide ((([34, 92, 120] : List UInt8) : List UInt8).length + ((s1.take s1.length).drop (Int.toNat 6)).length ≤ 9223372036854775807)) <|
                              need (decide ((([34, 92, 120] : List UInt8) ++ ((s1.take s1.length).drop (Int.toNat 6)) : List UInt8).length + (([34] : List UInt8) : List UInt8).length ≤ 9223372036854775807)) <|
                              (R id_doubleTake [AV.bytes ((([34, 92, 120] : List UInt8) ++ ((s1.take s1.length).drop (Int.toNat 6))) ++ ([34] : List UInt8))]).bind fun r67 =>
                              asSIBT r67.v fun s40 i44 b67 =>
                              need (decide (0 ≤ (7 : Int)) && decide ((7 : Int) ≤ ((s1.length : Nat) : Int))) <|
                              need (decide ((([34, 92, 120] : List UInt8) : List UInt8).length + ((s1.take s1.length).drop (Int.toNat 7)).length ≤ 9223372036854775807)) <|
                              need (decide ((([34, 92, 120] : List UInt8) ++ ((s1.take s1.length).drop (Int.toNat 7)) : List UInt8).length + (([34] : List UInt8) : List UInt8).length ≤ 9223372036854775807)) <|
                              (R id_doubleTake [AV.bytes ((([34, 92, 120] : List UInt8) ++ ((s1.take s1.length).drop (Int.toNat 7))) ++ ([34] : List UInt8))]).bind fun r68 =>
                              asSIBT r68.v fun s41 i45 b68 =>
                              bif b67 then
                                (bif s40 == ((Utf8.encode (IntKind.i32.wrap (Int.tmod i1 1118208))).data.toList) then
                                  (bif !b68 then
                                    ((R id_law06Wakes []).bind fun r69 =>
                                    asB r69.v fun b69 =>
                                    some ⟨AV.bool b69, false, []⟩)
                                  else
                                    some ⟨AV.bool false, false, []⟩)
                                else
                                  some ⟨AV.bool false, false, []⟩)
                              else
                                some ⟨AV.bool false, false, []⟩)
                        else
                          bif decide (((Int.tmod i1 1118208) : Int) > 255) then
                            ((R id_law06Wakes []).bind fun r70 =>
                            asB r70.v fun b70 =>
                            some ⟨AV.bool b70, false, []⟩)
                          else
                            need (decide (0 ≤ (6 : Int)) && decide ((6 : Int) ≤ ((s1.length : Nat) : Int))) <|
                            need (decide ((([34, 92, 120] : List UInt8) : List UInt8).length + ((s1.take s1.length).drop (Int.toNat 6)).length ≤ 9223372036854775807)) <|
                            need (decide ((([34, 92, 120] : List UInt8) ++ ((s1.take s1.length).drop (Int.toNat 6)) : List UInt8).length + (([34] : List UInt8) : List UInt8).length ≤ 9223372036854775807)) <|
                            (R id_doubleTake [AV.bytes ((([34, 92, 120] : List UInt8) ++ ((s1.take s1.length).drop (Int.toNat 6))) ++ ([34] : List UInt8))]).bind fun r71 =>
                            asSIBT r71.v fun s42 i46 b71 =>
                            need (decide (0 ≤ (7 : Int)) && decide ((7 : Int) ≤ ((s1.length : Nat) : Int))) <|
                            need (decide ((([34, 92, 120] : List UInt8) : List UInt8).length + ((s1.take s1.length).drop (Int.toNat 7)).length ≤ 9223372036854775807)) <|
                            need (decide ((([34, 92, 120] : List UInt8) ++ ((s1.take s1.length).drop (Int.toNat 7)) : List UInt8).length + (([34] : List UInt8) : List UInt8).length ≤ 9223372036854775807)) <|
                            (R id_doubleTake [AV.bytes ((([34, 92, 120] : List UInt8) ++ ((s1.take s1.length).drop (Int.toNat 7))) ++ ([34] : List UInt8))]).bind fun r72 =>
                            asSIBT r72.v fun s43 i47 b72 =>
                            bif b71 then
                              (bif s42 == ((Utf8.encode (IntKind.i32.wrap (Int.tmod i1 1118208))).data.toList) then
                                (bif !b72 then
                                  ((R id_law06Wakes []).bind fun r73 =>
                                  asB r73.v fun b73 =>
                                  some ⟨AV.bool b73, false, []⟩)
                                else
                                  some ⟨AV.bool false, false, []⟩)
                              else
                                some ⟨AV.bool false, false, []⟩)
                            else
                              some ⟨AV.bool false, false, []⟩)
              else
                bif decide (((Int.tmod i1 1118208) : Int) > 65535) then
                  ((R id_law06Wakes []).bind fun r74 =>
                  asB r74.v fun b74 =>
                  some ⟨AV.bool b74, false, []⟩)
                else
                  need (decide (0 ≤ (4 : Int)) && decide ((4 : Int) ≤ ((s1.length : Nat) : Int))) <|
                  need (decide ((([34, 92, 117] : List UInt8) : List UInt8).length + ((s1.take s1.length).drop (Int.toNat 4)).length ≤ 9223372036854775807)) <|
                  need (decide ((([34, 92, 117] : List UInt8) ++ ((s1.take s1.length).drop (Int.toNat 4)) : List UInt8).length + (([34] : List UInt8) : List UInt8).length ≤ 9223372036854775807)) <|
                  (R id_doubleTake [AV.bytes ((([34, 92, 117] : List UInt8) ++ ((s1.take s1.length).drop (Int.toNat 4))) ++ ([34] : List UInt8))]).bind fun r75 =>
                  asSIBT r75.v fun s44 i48 b75 =>
                  bif !(b75 == true) then
                    (some ⟨AV.bool false, false, []⟩)
                  else
                    bif b75 then
                      (bif !(s44 == ((Utf8.encode (IntKind.i32.wrap (Int.tmod i1 1118208))).data.toList)) then
                        (some ⟨AV.bool false, false, []⟩)
                      else
                        bif decide (((Int.tmod i1 1118208) : Int) > 255) then
                          ((R id_law06Wakes []).bind fun r76 =>
                          asB r76.v fun b76 =>
                          some ⟨AV.bool b76, false, []⟩)
                        else
                          need (decide (0 ≤ (6 : Int)) && decide ((6 : Int) ≤ ((s1.length : Nat) : Int))) <|
                          need (decide ((([34, 92, 120] : List UInt8) : List UInt8).length + ((s1.take s1.length).drop (Int.toNat 6)).length ≤ 9223372036854775807)) <|
                          need (decide ((([34, 92, 120] : List UInt8) ++ ((s1.take s1.length).drop (Int.toNat 6)) : List UInt8).length + (([34] : List UInt8) : List UInt8).length ≤ 9223372036854775807)) <|
                          (R id_doubleTake [AV.bytes ((([34, 92, 120] : List UInt8) ++ ((s1.take s1.length).drop (Int.toNat 6))) ++ ([34] : List UInt8))]).bind fun r77 =>
                          asSIBT r77.v fun s45 i49 b77 =>
                          need (decide (0 ≤ (7 : Int)) && decide ((7 : Int) ≤ ((s1.length : Nat) : Int))) <|
                          need (decide ((([34, 92, 120] : List UInt8) : List UInt8).length + ((s1.take s1.length).drop (Int.toNat 7)).length ≤ 9223372036854775807)) <|
                          need (decide ((([34, 92, 120] : List UInt8) ++ ((s1.take s1.length).drop (Int.toNat 7)) : List UInt8).length + (([34] : List UInt8) : List UInt8).length ≤ 9223372036854775807)) <|
                          (R id_doubleTake [AV.bytes ((([34, 92, 120] : List UInt8) ++ ((s1.take s1.length).drop (Int.toNat 7))) ++ ([34] : List UInt8))]).bind fun r78 =>
                          asSIBT r78.v fun s46 i50 b78 =>
                          bif b77 then
                            (bif s45 == ((Utf8.encode (IntKind.i32.wrap (Int.tmod i1 1118208))).data.toList) then
                              (bif !b78 then
                                ((R id_law06Wakes []).bind fun r79 =>
                                asB r79.v fun b79 =>
                                some ⟨AV.bool b79, false, []⟩)
                              else
                                some ⟨AV.bool false, false, []⟩)
                            else
                              some ⟨AV.bool false, false, []⟩)
                          else
                            some ⟨AV.bool false, false, []⟩)
                    else
                      bif decide (((Int.tmod i1 1118208) : Int) > 255) then
                        ((R id_law06Wakes []).bind fun r80 =>
                        asB r80.v fun b80 =>
                        some ⟨AV.bool b80, false, []⟩)
                      else
                        need (decide (0 ≤ (6 : Int)) && decide ((6 : Int) ≤ ((s1.length : Nat) : Int))) <|
                        need (decide ((([34, 92, 120] : List UInt8) : List UInt8).length + ((s1.take s1.length).drop (Int.toNat 6)).length ≤ 9223372036854775807)) <|
                        need (decide ((([34, 92, 120] : List UInt8) ++ ((s1.take s1.length).drop (Int.toNat 6)) : List UInt8).length + (([34] : List UInt8) : List UInt8).length ≤ 9223372036854775807)) <|
                        (R id_doubleTake [AV.bytes ((([34, 92, 120] : List UInt8) ++ ((s1.take s1.length).drop (Int.toNat 6))) ++ ([34] : List UInt8))]).bind fun r81 =>
                        asSIBT r81.v fun s47 i51 b81 =>
                        need (decide (0 ≤ (7 : Int)) && decide ((7 : Int) ≤ ((s1.length : Nat) : Int))) <|
                        need (decide ((([34, 92, 120] : List UInt8) : List UInt8).length + ((s1.take s1.length).drop (Int.toNat 7)).length ≤ 9223372036854775807)) <|
                        need (decide ((([34, 92, 120] : List UInt8) ++ ((s1.take s1.length).drop (Int.toNat 7)) : List UInt8).length + (([34] : List UInt8) : List UInt8).length ≤ 9223372036854775807)) <|
                        (R id_doubleTake [AV.bytes ((([34, 92, 120] : List UInt8) ++ ((s1.take s1.length).drop (Int.toNat 7))) ++ ([34] : List UInt8))]).bind fun r82 =>
                        asSIBT r82.v fun s48 i52 b82 =>
                        bif b81 then
                          (bif s47 == ((Utf8.encode (IntKind.i32.wrap (Int.tmod i1 1118208))).data.toList) then
                            (bif !b82 then
                              ((R id_law06Wakes []).bind fun r83 =>
                              asB r83.v fun b83 =>
                              some ⟨AV.bool b83, false, []⟩)
                            else
                              some ⟨AV.bool false, false, []⟩)
                          else
                            some ⟨AV.bool false, false, []⟩)
                        else
                          some ⟨AV.bool false, false, []⟩)
          else
            bif !(b63 == (decide (((Int.tmod i1 1118208) : Int) > 57343))) then
              (some ⟨AV.bool false, false, []⟩)
            else
              bif b63 then
                (bif !(s38 == ((Utf8.encode (IntKind.i32.wrap (Int.tmod i1 1118208))).data.toList)) then
                  (some ⟨AV.bool false, false, []⟩)
                else
                  bif (i42 : Int) != 12 then
                    (some ⟨AV.bool false, false, []⟩)
                  else
                    bif decide (((Int.tmod i1 1118208) : Int) > 65535) then
                      ((R id_law06Wakes []).bind fun r84 =>
                      asB r84.v fun b84 =>
                      some ⟨AV.bool b84, false, []⟩)
                    else
                      need (decide (0 ≤ (4 : Int)) && decide ((4 : Int) ≤ ((s1.length : Nat) : Int))) <|
                      need (decide ((([34, 92, 117] : List UInt8) : List UInt8).length + ((s1.take s1.length).drop (Int.toNat 4)).length ≤ 9223372036854775807)) <|
                      need (decide ((([34, 92, 117] : List UInt8) ++ ((s1.take s1.length).drop (Int.toNat 4)) : List UInt8).length + (([34] : List UInt8) : List UInt8).length ≤ 9223372036854775807)) <|
                      (R id_doubleTake [AV.bytes ((([34, 92, 117] : List UInt8) ++ ((s1.take s1.length).drop (Int.toNat 4))) ++ ([34] : List UInt8))]).bind fun r85 =>
                      asSIBT r85.v fun s49 i53 b85 =>
                      bif !(b85 == (decide (((Int.tmod i1 1118208) : Int) > 57343))) then
                        (some ⟨AV.bool false, false, []⟩)
                      else
                        bif b85 then
                          (bif !(s49 == ((Utf8.encode (IntKind.i32.wrap (Int.tmod i1 1118208))).data.toList)) then
                            (some ⟨AV.bool false, false, []⟩)
                          else
                            bif decide (((Int.tmod i1 1118208) : Int) > 255) then
                              ((R id_law06Wakes []).bind fun r86 =>
                              asB r86.v fun b86 =>
                              some ⟨AV.bool b86, false, []⟩)
                            else
                              need (decide (0 ≤ (6 : Int)) && decide ((6 : Int) ≤ ((s1.length : Nat) : Int))) <|
                              need (decide ((([34, 92, 120] : List UInt8) : List UInt8).length + ((s1.take s1.length).drop (Int.toNat 6)).length ≤ 9223372036854775807)) <|
                              need (decide ((([34, 92, 120] : List UInt8) ++ ((s1.take s1.length).drop (Int.toNat 6)) : List UInt8).length + (([34] : List UInt8) : List UInt8).length ≤ 9223372036854775807)) <|
                              (R id_doubleTake [AV.bytes ((([34, 92, 120] : List UInt8) ++ ((s1.take s1.length).drop (Int.toNat 6))) ++ ([34] : List UInt8))]).bind fun r87 =>
                              asSIBT r87.v fun s50 i54 b87 =>
                              need (decide (0 ≤ (7 : Int)) && decide ((7 : Int) ≤ ((s1.length : Nat) : Int))) <|
                              need (decide ((([34, 92, 120] : List UInt8) : List UInt8).length + ((s1.take s1.length).drop (Int.toNat 7)).length ≤ 9223372036854775807)) <|
                              need (decide ((([34, 92, 120] : List UInt8) ++ ((s1.take s1.length).drop (Int.toNat 7)) : List UInt8).length + (([34] : List UInt8) : List UInt8).length ≤ 9223372036854775807)) <|
                              (R id_doubleTake [AV.bytes ((([34, 92, 120] : List UInt8) ++ ((s1.take s1.length).drop (Int.toNat 7))) ++ ([34] : List UInt8))]).bind fun r88 =>
                              asSIBT r88.v fun s51 i55 b88 =>
                              bif b87 then
                                (bif s50 == ((Utf8.encode (IntKind.i32.wrap (Int.tmod i1 1118208))).data.toList) then
                                  (bif !b88 then
                                    ((R id_law06Wakes []).bind fun r89 =>
                                    asB r89.v fun b89 =>
                                    some ⟨AV.bool b89, false, []⟩)
                                  else
                                    some ⟨AV.bool false, false, []⟩)
                                else
                                  some ⟨AV.bool false, false, []⟩)
                              else
                                some ⟨AV.bool false, false, []⟩)
                        else
                          bif decide (((Int.tmod i1 1118208) : Int) > 255) then
                            ((R id_law06Wakes []).bind fun r90 =>
                            asB r90.v fun b90 =>
                            some ⟨AV.bool b90, false, []⟩)
                          else
                            need (decide (0 ≤ (6 : Int)) && decide ((6 : Int) ≤ ((s1.length : Nat) : Int))) <|
                            need (decide ((([34, 92, 120] : List UInt8) : List UInt8).length + ((s1.take s1.length).drop (Int.toNat 6)).length ≤ 9223372036854775807)) <|
                            need (decide ((([34, 92, 120] : List UInt8) ++ ((s1.take s1.length).drop (Int.toNat 6)) : List UInt8).length + (([34] : List UInt8) : List UInt8).length ≤ 9223372036854775807)) <|
                            (R id_doubleTake [AV.bytes ((([34, 92, 120] : List UInt8) ++ ((s1.take s1.length).drop (Int.toNat 6))) ++ ([34] : List UInt8))]).bind fun r91 =>
                            asSIBT r91.v fun s52 i56 b91 =>
                            need (decide (0 ≤ (7 : Int)) && decide ((7 : Int) ≤ ((s1.length : Nat) : Int))) <|
                            need (decide ((([34, 92, 120] : List UInt8) : List UInt8).length + ((s1.take s1.length).drop (Int.toNat 7)).length ≤ 9223372036854775807)) <|
                            need (decide ((([34, 92, 120] : List UInt8) ++ ((s1.take s1.length).drop (Int.toNat 7)) : List UInt8).length + (([34] : List UInt8) : List UInt8).length ≤ 9223372036854775807)) <|
                            (R id_doubleTake [AV.bytes ((([34, 92, 120] : List UInt8) ++ ((s1.take s1.length).drop (Int.toNat 7))) ++ ([34] : List UInt8))]).bind fun r92 =>
                            asSIBT r92.v fun s53 i57 b92 =>
                            bif b91 then
                              (bif s52 == ((Utf8.encode (IntKind.i32.wrap (Int.tmod i1 1118208))).data.toList) then
                                (bif !b92 then
                                  ((R id_law06Wakes []).bind fun r93 =>
                                  asB r93.v fun b93 =>
                                  some ⟨AV.bool b93, false, []⟩)
                                else
                                  some ⟨AV.bool false, false, []⟩)
                              else
                                some ⟨AV.bool false, false, []⟩)
                            else
                              some ⟨AV.bool false, false, []⟩)
              else
                bif decide (((Int.tmod i1 1118208) : Int) > 65535) then
                  ((R id_law06Wakes []).bind fun r94 =>
                  asB r94.v fun b94 =>
                  some ⟨AV.bool b94, false, []⟩)
                else
                  need (decide (0 ≤ (4 : Int)) && decide ((4 : Int) ≤ ((s1.length : Nat) : Int))) <|
                  need (decide ((([34, 92, 117] : List UInt8) : List UInt8).length + ((s1.take s1.length).drop (Int.toNat 4)).length ≤ 9223372036854775807)) <|
                  need (decide ((([34, 92, 117] : List UInt8) ++ ((s1.take s1.length).drop (Int.toNat 4)) : List UInt8).length + (([34] : List UInt8) : List UInt8).length ≤ 9223372036854775807)) <|
                  (R id_doubleTake [AV.bytes ((([34, 92, 117] : List UInt8) ++ ((s1.take s1.length).drop (Int.toNat 4))) ++ ([34] : List UInt8))]).bind fun r95 =>
                  asSIBT r95.v fun s54 i58 b95 =>
                  bif !(b95 == (decide (((Int.tmod i1 1118208) : Int) > 57343))) then
                    (some ⟨AV.bool false, false, []⟩)
                  else
                    bif b95 then
                      (bif !(s54 == ((Utf8.encode (IntKind.i32.wrap (Int.tmod i1 1118208))).data.toList)) then
                        (some ⟨AV.bool false, false, []⟩)
                      else
                        bif decide (((Int.tmod i1 1118208) : Int) > 255) then
                          ((R id_law06Wakes []).bind fun r96 =>
                          asB r96.v fun b96 =>
                          some ⟨AV.bool b96, false, []⟩)
                        else
                          need (decide (0 ≤ (6 : Int)) && decide ((6 : Int) ≤ ((s1.length : Nat) : Int))) <|
                          need (decide ((([34, 92, 120] : List UInt8) : List UInt8).length + ((s1.take s1.length).drop (Int.toNat 6)).length ≤ 9223372036854775807)) <|
                          need (decide ((([34, 92, 120] : List UInt8) ++ ((s1.take s1.length).drop (Int.toNat 6)) : List UInt8).length + (([34] : List UInt8) : List UInt8).length ≤ 9223372036854775807)) <|
                          (R id_doubleTake [AV.bytes ((([34, 92, 120] : List UInt8) ++ ((s1.take s1.length).drop (Int.toNat 6))) ++ ([34] : List UInt8))]).bind fun r97 =>
                          asSIBT r97.v fun s55 i59 b97 =>
                          need (decide (0 ≤ (7 : Int)) && decide ((7 : Int) ≤ ((s1.length : Nat) : Int))) <|
                          need (decide ((([34, 92, 120] : List UInt8) : List UInt8).length + ((s1.take s1.length).drop (Int.toNat 7)).length ≤ 9223372036854775807)) <|
                          need (decide ((([34, 92, 120] : List UInt8) ++ ((s1.take s1.length).drop (Int.toNat 7)) : List UInt8).length + (([34] : List UInt8) : List UInt8).length ≤ 9223372036854775807)) <|
                          (R id_doubleTake [AV.bytes ((([34, 92, 120] : List UInt8) ++ ((s1.take s1.length).drop (Int.toNat 7))) ++ ([34] : List UInt8))]).bind fun r98 =>
                          asSIBT r98.v fun s56 i60 b98 =>
                          bif b97 then
                            (bif s55 == ((Utf8.encode (IntKind.i32.wrap (Int.tmod i1 1118208))).data.toList) then
                              (bif !b98 then
                                ((R id_law06Wakes []).bind fun r99 =>
                                asB r99.v fun b99 =>
                                some ⟨AV.bool b99, false, []⟩)
                              else
                                some ⟨AV.bool false, false, []⟩)
                            else
                              some ⟨AV.bool false, false, []⟩)
                          else
                            some ⟨AV.bool false, false, []⟩)
                    else
                      bif decide (((Int.tmod i1 1118208) : Int) > 255) then
                        ((R id_law06Wakes []).bind fun r100 =>
                        asB r100.v fun b100 =>
                        some ⟨AV.bool b100, false, []⟩)
                      else
                        need (decide (0 ≤ (6 : Int)) && decide ((6 : Int) ≤ ((s1.length : Nat) : Int))) <|
                        need (decide ((([34, 92, 120] : List UInt8) : List UInt8).length + ((s1.take s1.length).drop (Int.toNat 6)).length ≤ 9223372036854775807)) <|
                        need (decide ((([34, 92, 120] : List UInt8) ++ ((s1.take s1.length).drop (Int.toNat 6)) : List UInt8).length + (([34] : List UInt8) : List UInt8).length ≤ 9223372036854775807)) <|
                        (R id_doubleTake [AV.bytes ((([34, 92, 120] : List UInt8) ++ ((s1.take s1.length).drop (Int.toNat 6))) ++ ([34] : List UInt8))]).bind fun r101 =>
                        asSIBT r101.v fun s57 i61 b101 =>
                        need (decide (0 ≤ (7 : Int)) && decide ((7 : Int) ≤ ((s1.length : Nat) : Int))) <|
                        need (decide ((([34, 92, 120] : List UInt8) : List UInt8).length + ((s1.take s1.length).drop (Int.toNat 7)).length ≤ 9223372036854775807)) <|
                        need (decide ((([34, 92, 120] : List UInt8) ++ ((s1.take s1.length).drop (Int.toNat 7)) : List UInt8).length + (([34] : List UInt8) : List UInt8).length ≤ 9223372036854775807)) <|
                        (R id_doubleTake [AV.bytes ((([34, 92, 120] : List UInt8) ++ ((s1.take s1.length).drop (Int.toNat 7))) ++ ([34] : List UInt8))]).bind fun r102 =>
                        asSIBT r102.v fun s58 i62 b102 =>
                        bif b101 then
                          (bif s57 == ((Utf8.encode (IntKind.i32.wrap (Int.tmod i1 1118208))).data.toList) then
                            (bif !b102 then
                              ((R id_law06Wakes []).bind fun r103 =>
                              asB r103.v fun b103 =>
                              some ⟨AV.bool b103, false, []⟩)
                            else
                              some ⟨AV.bool false, false, []⟩)
                          else
                            some ⟨AV.bool false, false, []⟩)
                        else
                          some ⟨AV.bool false, false, []⟩)
        else
          bif !(b63 == false) then
            (some ⟨AV.bool false, false, []⟩)
          else
            bif b63 then
              (bif !(s38 == ((Utf8.encode (IntKind.i32.wrap (Int.tmod i1 1118208))).data.toList)) then
                (some ⟨AV.bool false, false, []⟩)
              else
                bif (i42 : Int) != 12 then
                  (some ⟨AV.bool false, false, []⟩)
                else
                  bif decide (((Int.tmod i1 1118208) : Int) > 65535) then
                    ((R id_law06Wakes []).bind fun r104 =>
                    asB r104.v fun b104 =>
                    some ⟨AV.bool b104, false, []⟩)
                  else
                    need (decide (0 ≤ (4 : Int)) && decide ((4 : Int) ≤ ((s1.length : Nat) : Int))) <|
                    need (decide ((([34, 92, 117] : List UInt8) : List UInt8).length + ((s1.take s1.length).drop (Int.toNat 4)).length ≤ 9223372036854775807)) <|
                    need (decide ((([34, 92, 117] : List UInt8) ++ ((s1.take s1.length).drop (Int.toNat 4)) : List UInt8).length + (([34] : List UInt8) : List UInt8).length ≤ 9223372036854775807)) <|
                    (R id_doubleTake [AV.bytes ((([34, 92, 117] : List UInt8) ++ ((s1.take s1.length).drop (Int.toNat 4))) ++ ([34] : List UInt8))]).bind fun r105 =>
                    asSIBT r105.v fun s59 i63 b105 =>
                    bif !(b105 == false) then
                      (some ⟨AV.bool false, false, []⟩)
                    else
                      bif b105 then
                        (bif !(s59 == ((Utf8.encode (IntKind.i32.wrap (Int.tmod i1 1118208))).data.toList)) then
                          (some ⟨AV.bool false, false, []⟩)
                        else
                          bif decide (((Int.tmod i1 1118208) : Int) > 255) then
                            ((R id_law06Wakes []).bind fun r106 =>
                            asB r106.v fun b106 =>
                            some ⟨AV.bool b106, false, []⟩)
                          else
                            need (decide (0 ≤ (6 : Int)) && decide ((6 : Int) ≤ ((s1.length : Nat) : Int))) <|
                            need (decide ((([34, 92, 120] : List UInt8) : List UInt8).length + ((s1.take s1.length).drop (Int.toNat 6)).length ≤ 9223372036854775807)) <|
                            need (decide ((([34, 92, 120] : List UInt8) ++ ((s1.take s1.length).drop (Int.toNat 6)) : List UInt8).length + (([34] : List UInt8) : List UInt8).length ≤ 9223372036854775807)) <|
                            (R id_doubleTake [AV.bytes ((([34, 92, 120] : List UInt8) ++ ((s1.take s1.length).drop (Int.toNat 6))) ++ ([34] : List UInt8))]).bind fun r107 =>
                            asSIBT r107.v fun s60 i64 b107 =>
                            need (decide (0 ≤ (7 : Int)) && decide ((7 : Int) ≤ ((s1.length : Nat) : Int))) <|
                            need (decide ((([34, 92, 120] : List UInt8) : List UInt8).length + ((s1.take s1.length).drop (Int.toNat 7)).length ≤ 9223372036854775807)) <|
                            need (decide ((([34, 92, 120] : List UInt8) ++ ((s1.take s1.length).drop (Int.toNat 7)) : List UInt8).length + (([34] : List UInt8) : List UInt8).length ≤ 9223372036854775807)) <|
                            (R id_doubleTake [AV.bytes ((([34, 92, 120] : List UInt8) ++ ((s1.take s1.length).drop (Int.toNat 7))) ++ ([34] : List UInt8))]).bind fun r108 =>
                            asSIBT r108.v fun s61 i65 b108 =>
                            bif b107 then
                              (bif s60 == ((Utf8.encode (IntKind.i32.wrap (Int.tmod i1 1118208))).data.toList) then
                                (bif !b108 then
                                  ((R id_law06Wakes []).bind fun r109 =>
                                  asB r109.v fun b109 =>
                                  some ⟨AV.bool b109, false, []⟩)
                                else
                                  some ⟨AV.bool false, false, []⟩)
                              else
                                some ⟨AV.bool false, false, []⟩)
                            else
                              some ⟨AV.bool false, false, []⟩)
                      else
                        bif decide (((Int.tmod i1 1118208) : Int) > 255) then
                          ((R id_law06Wakes []).bind fun r110 =>
                          asB r110.v fun b110 =>
                          some ⟨AV.bool b110, false, []⟩)
                        else
                          need (decide (0 ≤ (6 : Int)) && decide ((6 : Int) ≤ ((s1.length : Nat) : Int))) <|
                          need (decide ((([34, 92, 120] : List UInt8) : List UInt8).length + ((s1.take s1.length).drop (Int.toNat 6)).length ≤ 9223372036854775807)) <|
                          need (decide ((([34, 92, 120] : List UInt8) ++ ((s1.take s1.length).drop (Int.toNat 6)) : List UInt8).length + (([34] : List UInt8) : List UInt8).length ≤ 9223372036854775807)) <|
                          (R id_doubleTake [AV.bytes ((([34, 92, 120] : List UInt8) ++ ((s1.take s1.length).drop (Int.toNat 6))) ++ ([34] : List UInt8))]).bind fun r111 =>
                          asSIBT r111.v fun s62 i66 b111 =>
                          need (decide (0 ≤ (7 : Int)) && decide ((7 : Int) ≤ ((s1.length : Nat) : Int))) <|
                          need (decide ((([34, 92, 120] : List UInt8) : List UInt8).length + ((s1.take s1.length).drop (Int.toNat 7)).length ≤ 9223372036854775807)) <|
                          need (decide ((([34, 92, 120] : List UInt8) ++ ((s1.take s1.length).drop (Int.toNat 7)) : List UInt8).length + (([34] : List UInt8) : List UInt8).length ≤ 9223372036854775807)) <|
                          (R id_doubleTake [AV.bytes ((([34, 92, 120] : List UInt8) ++ ((s1.take s1.length).drop (Int.toNat 7))) ++ ([34] : List UInt8))]).bind fun r112 =>
                          asSIBT r112.v fun s63 i67 b112 =>
                          bif b111 then
                            (bif s62 == ((Utf8.encode (IntKind.i32.wrap (Int.tmod i1 1118208))).data.toList) then
                              (bif !b112 then
                                ((R id_law06Wakes []).bind fun r113 =>
                                asB r113.v fun b113 =>
                                some ⟨AV.bool b113, false, []⟩)
                              else
                                some ⟨AV.bool false, false, []⟩)
                            else
                              some ⟨AV.bool false, false, []⟩)
                          else
                            some ⟨AV.bool false, false, []⟩)
            else
              bif decide (((Int.tmod i1 1118208) : Int) > 65535) then
                ((R id_law06Wakes []).bind fun r114 =>
                asB r114.v fun b114 =>
                some ⟨AV.bool b114, false, []⟩)
              else
                need (decide (0 ≤ (4 : Int)) && decide ((4 : Int) ≤ ((s1.length : Nat) : Int))) <|
                need (decide ((([34, 92, 117] : List UInt8) : List UInt8).length + ((s1.take s1.length).drop (Int.toNat 4)).length ≤ 9223372036854775807)) <|
                need (decide ((([34, 92, 117] : List UInt8) ++ ((s1.take s1.length).drop (Int.toNat 4)) : List UInt8).length + (([34] : List UInt8) : List UInt8).length ≤ 9223372036854775807)) <|
                (R id_doubleTake [AV.bytes ((([34, 92, 117] : List UInt8) ++ ((s1.take s1.length).drop (Int.toNat 4))) ++ ([34] : List UInt8))]).bind fun r115 =>
                asSIBT r115.v fun s64 i68 b115 =>
                bif !(b115 == false) then
                  (some ⟨AV.bool false, false, []⟩)
                else
                  bif b115 then
                    (bif !(s64 == ((Utf8.encode (IntKind.i32.wrap (Int.tmod i1 1118208))).data.toList)) then
                      (some ⟨AV.bool false, false, []⟩)
                    else
                      bif decide (((Int.tmod i1 1118208) : Int) > 255) then
                        ((R id_law06Wakes []).bind fun r116 =>
                        asB r116.v fun b116 =>
                        some ⟨AV.bool b116, false, []⟩)
                      else
                        need (decide (0 ≤ (6 : Int)) && decide ((6 : Int) ≤ ((s1.length : Nat) : Int))) <|
                        need (decide ((([34, 92, 120] : List UInt8) : List UInt8).length + ((s1.take s1.length).drop (Int.toNat 6)).length ≤ 9223372036854775807)) <|
                        need (decide ((([34, 92, 120] : List UInt8) ++ ((s1.take s1.length).drop (Int.toNat 6)) : List UInt8).length + (([34] : List UInt8) : List UInt8).length ≤ 9223372036854775807)) <|
                        (R id_doubleTake [AV.bytes ((([34, 92, 120] : List UInt8) ++ ((s1.take s1.length).drop (Int.toNat 6))) ++ ([34] : List UInt8))]).bind fun r117 =>
                        asSIBT r117.v fun s65 i69 b117 =>
                        need (decide (0 ≤ (7 : Int)) && decide ((7 : Int) ≤ ((s1.length : Nat) : Int))) <|
                        need (decide ((([34, 92, 120] : List UInt8) : List UInt8).length + ((s1.take s1.length).drop (Int.toNat 7)).length ≤ 9223372036854775807)) <|
                        need (decide ((([34, 92, 120] : List UInt8) ++ ((s1.take s1.length).drop (Int.toNat 7)) : List UInt8).length + (([34] : List UInt8) : List UInt8).length ≤ 9223372036854775807)) <|
                        (R id_doubleTake [AV.bytes ((([34, 92, 120] : List UInt8) ++ ((s1.take s1.length).drop (Int.toNat 7))) ++ ([34] : List UInt8))]).bind fun r118 =>
                        asSIBT r118.v fun s66 i70 b118 =>
                        bif b117 then
                          (bif s65 == ((Utf8.encode (IntKind.i32.wrap (Int.tmod i1 1118208))).data.toList) then
                            (bif !b118 then
                              ((R id_law06Wakes []).bind fun r119 =>
                              asB r119.v fun b119 =>
                              some ⟨AV.bool b119, false, []⟩)
                            else
                              some ⟨AV.bool false, false, []⟩)
                          else
                            some ⟨AV.bool false, false, []⟩)
                        else
                          some ⟨AV.bool false, false, []⟩)
                  else
                    bif decide (((Int.tmod i1 1118208) : Int) > 255) then
                      ((R id_law06Wakes []).bind fun r120 =>
                      asB r120.v fun b120 =>
                      some ⟨AV.bool b120, false, []⟩)
                    else
                      need (decide (0 ≤ (6 : Int)) && decide ((6 : Int) ≤ ((s1.length : Nat) : Int))) <|
                      need (decide ((([34, 92, 120] : List UInt8) : List UInt8).length + ((s1.take s1.length).drop (Int.toNat 6)).length ≤ 9223372036854775807)) <|
                      need (decide ((([34, 92, 120] : List UInt8) ++ ((s1.take s1.length).drop (Int.toNat 6)) : List UInt8).length + (([34] : List UInt8) : List UInt8).length ≤ 9223372036854775807)) <|
                      (R id_doubleTake [AV.bytes ((([34, 92, 120] : List UInt8) ++ ((s1.take s1.length).drop (Int.toNat 6))) ++ ([34] : List UInt8))]).bind fun r121 =>
                      asSIBT r121.v fun s67 i71 b121 =>
                      need (decide (0 ≤ (7 : Int)) && decide ((7 : Int) ≤ ((s1.length : Nat) : Int))) <|
                      need (decide ((([34, 92, 120] : List UInt8) : List UInt8).length + ((s1.take s1.length).drop (Int.toNat 7)).length ≤ 9223372036854775807)) <|
                      need (decide ((([34, 92, 120] : List UInt8) ++ ((s1.take s1.length).drop (Int.toNat 7)) : List UInt8).length + (([34] : List UInt8) : List UInt8).length ≤ 9223372036854775807)) <|
                      (R id_doubleTake [AV.bytes ((([34, 92, 120] : List UInt8) ++ ((s1.take s1.length).drop (Int.toNat 7))) ++ ([34] : List UInt8))]).bind fun r122 =>
                      asSIBT r122.v fun s68 i72 b122 =>
                      bif b121 then
                        (bif s67 == ((Utf8.encode (IntKind.i32.wrap (Int.tmod i1 1118208))).data.toList) then
                          (bif !b122 then
                            ((R id_law06Wakes []).bind fun r123 =>
                            asB r123.v fun b123 =>
                            some ⟨AV.bool b123, false, []⟩)
                          else
                            some ⟨AV.bool false, false, []⟩)
                        else
                          some ⟨AV.bool false, false, []⟩)
                      else
                        some ⟨AV.bool false, false, []⟩)
  else
    (R id_doubleHex [AV.int .u32 i1, AV.int .i64 8]).bind fun r124 =>
    asS r124.v fun s69 =>
    bif (((s69.length : Nat) : Int) : Int) != 8 then
      (some ⟨AV.bool false, false, []⟩)
    else
      bif b1 then
        (law06DoubleRunes_L1 R N
          (fun i73 n5 s70 =>
            need (decide ((([34, 92, 85] : List UInt8) : List UInt8).length + ((s70.drop 0).take n5).length ≤ 9223372036854775807)) <|
            need (decide ((([34, 92, 85] : List UInt8) ++ ((s70.drop 0).take n5) : List UInt8).length + (([34] : List UInt8) : List UInt8).length ≤ 9223372036854775807)) <|
            (R id_doubleTake [AV.bytes ((([34, 92, 85] : List UInt8) ++ ((s70.drop 0).take n5)) ++ ([34] : List UInt8))]).bind fun r125 =>
            asSIBT r125.v fun s71 i74 b124 =>
            bif decide ((i73 : Int) ≤ 1114111) then
              (bif decide ((i73 : Int) < 55296) then
                (bif !(b124 == true) then
                  (some ⟨AV.bool false, false, []⟩)
                else
                  bif b124 then
                    (bif !(s71 == ((Utf8.encode (IntKind.i32.wrap i73)).data.toList)) then
                      (some ⟨AV.bool false, false, []⟩)
                    else
                      bif (i74 : Int) != 12 then
                        (some ⟨AV.bool false, false, []⟩)
                      else
                        bif decide ((i73 : Int) > 65535) then
                          ((R id_law06Wakes []).bind fun r126 =>
                          asB r126.v fun b125 =>
                          some ⟨AV.bool b125, false, []⟩)
                        else
                          need (decide (0 ≤ (4 : Int)) && decide ((4 : Int) ≤ ((((s70.drop 0).take n5).length : Nat) : Int))) <|
                          need (decide ((([34, 92, 117] : List UInt8) : List UInt8).length + ((((s70.drop 0).take n5).take (((s70.drop 0).take n5).length)).drop (Int.toNat 4)).length ≤ 9223372036854775807)) <|
                          need (decide ((([34, 92, 117] : List UInt8) ++ ((((s70.drop 0).take n5).take (((s70.drop 0).take n5).length)).drop (Int.toNat 4)) : List UInt8).length + (([34] : List UInt8) : List UInt8).length ≤ 9223372036854775807)) <|
                          (R id_doubleTake [AV.bytes ((([34, 92, 117] : List UInt8) ++ ((((s70.drop 0).take n5).take (((s70.drop 0).take n5).length)).drop (Int.toNat 4))) ++ ([34] : List UInt8))]).bind fun r127 =>
                          asSIBT r127.v fun s72 i75 b126 =>
                          bif !(b126 == true) then
                            (some ⟨AV.bool false, false, []⟩)
                          else
                            bif b126 then
                              (bif !(s72 == ((Utf8.encode (IntKind.i32.wrap i73)).data.toList)) then
                                (some ⟨AV.bool false, false, []⟩)
                              else
                                bif decide ((i73 : Int) > 255) then
                                  ((R id_law06Wakes []).bind fun r128 =>
                                  asB r128.v fun b127 =>
                                  some ⟨AV.bool b127, false, []⟩)
                                else
                                  need (decide (0 ≤ (6 : Int)) && decide ((6 : Int) ≤ ((((s70.drop 0).take n5).length : Nat) : Int))) <|
                                  need (decide ((([34, 92, 120] : List UInt8) : List UInt8).length + ((((s70.drop 0).take n5).take (((s70.drop 0).take n5).length)).drop (Int.toNat 6)).length ≤ 9223372036854775807)) <|
                                  need (decide ((([34, 92, 120] : List UInt8) ++ ((((s70.drop 0).take n5).take (((s70.drop 0).take n5).length)).drop (Int.toNat 6)) : List UInt8).length + (([34] : List UInt8) : List UInt8).length ≤ 9223372036854775807)) <|
                                  (R id_doubleTake [AV.bytes ((([34, 92, 120] : List UInt8) ++ ((((s70.drop 0).take n5).take (((s70.drop 0).take n5).length)).drop (Int.toNat 6))) ++ ([34] : List UInt8))]).bind fun r129 =>
                                  asSIBT r129.v fun s73 i76 b128 =>
                                  need (decide (0 ≤ (7 : Int)) && decide ((7 : Int) ≤ ((((s70.drop 0).take n5).length : Nat) : Int))) <|
                                  need (decide ((([34, 92, 120] : List UInt8) : List UInt8).length + ((((s70.drop 0).take n5).take (((s70.drop 0).take n5).length)).drop (Int.toNat 7)).length ≤ 9223372036854775807)) <|
                                  need (decide ((([34, 92, 120] : List UInt8) ++ ((((s70.drop 0).take n5).take (((s70.drop 0).take n5).length)).drop (Int.toNat 7)) : List UInt8).length + (([34] : List UInt8) : List UInt8).length ≤ 9223372036854775807)) <|
                                  (R id_doubleTake [AV.bytes ((([34, 92, 120] : List UInt8) ++ ((((s70.drop 0).take n5).take (((s70.drop 0).take n5).length)).drop (Int.toNat 7))) ++ ([34] : List UInt8))]).bind fun r130 =>
                                  asSIBT r130.v fun s74 i77 b129 =>
                                  bif b128 then
                                    (bif s73 == ((Utf8.encode (IntKind.i32.wrap i73)).data.toList) then
                                      (bif !b129 then
                                        ((R id_law06Wakes []).bind fun r131 =>
                                        asB r131.v fun b130 =>
                                        some ⟨AV.bool b130, false, []⟩)
                                      else
                                        some ⟨AV.bool false, false, []⟩)
                                    else
                                      some ⟨AV.bool false, false, []⟩)
                                  else
                                    some ⟨AV.bool false, false, []⟩)
                            else
                              bif decide ((i73 : Int) > 255) then
                                ((R id_law06Wakes []).bind fun r132 =>
                                asB r132.v fun b131 =>
                                some ⟨AV.bool b131, false, []⟩)
                              else
                                need (decide (0 ≤ (6 : Int)) && decide ((6 : Int) ≤ ((((s70.drop 0).take n5).length : Nat) : Int))) <|
                                need (decide ((([34, 92, 120] : List UInt8) : List UInt8).length + ((((s70.drop 0).take n5).take (((s70.drop 0).take n5).length)).drop (Int.toNat 6)).length ≤ 9223372036854775807)) <|
                                need (decide ((([34, 92, 120] : List UInt8) ++ ((((s70.drop 0).take n5).take (((s70.drop 0).take n5).length)).drop (Int.toNat 6)) : List UInt8).length + (([34] : List UInt8) : List UInt8).length ≤ 9223372036854775807)) <|
                                (R id_doubleTake [AV.bytes ((([34, 92, 120] : List UInt8) ++ ((((s70.drop 0).take n5).take (((s70.drop 0).take n5).length)).drop (Int.toNat 6))) ++ ([34] : List UInt8))]).bind fun r133 =>
                                asSIBT r133.v fun s75 i78 b132 =>
                                need (decide (0 ≤ (7 : Int)) && decide ((7 : Int) ≤ ((((s70.drop 0).take n5).length : Nat) : Int))) <|
                                need (decide ((([34, 92, 120] : List UInt8) : List UInt8).length + ((((s70.drop 0).take n5).take (((s70.drop 0).take n5).length)).drop (Int.toNat 7)).length ≤ 9223372036854775807)) <|
                                need (decide ((([34, 92, 120] : List UInt8) ++ ((((s70.drop 0).take n5).take (((s70.drop 0).take n5).length)).drop (Int.toNat 7)) : List UInt8).length + (([34] : List UInt8) : List UInt8).length ≤ 9223372036854775807)) <|
                                (R id_doubleTake [AV.bytes ((([34, 92, 120] : List UInt8) ++ ((((s70.drop 0).take n5).take (((s70.drop 0).take n5).length)).drop (Int.toNat 7))) ++ ([34] : List UInt8))]).bind fun r134 =>
                                asSIBT r134.v fun s76 i79 b133 =>
                                bif b132 then
                                  (bif s75 == ((Utf8.encode (IntKind.i32.wrap i73)).data.toList) then
                                    (bif !b133 then
                                      ((R id_law06Wakes []).bind fun r135 =>
                                      asB r135.v fun b134 =>
                                      some ⟨AV.bool b134, false, []⟩)
                                    else
                                      some ⟨AV.bool false, false, []⟩)
                                  else
                                    some ⟨AV.bool false, false, []⟩)
                                else
                                  some ⟨AV.bool false, false, []⟩)
                  else
                    bif decide ((i73 : Int) > 65535) then
                      ((R id_law06Wakes []).bind fun r136 =>
                      asB r136.v fun b135 =>
                      some ⟨AV.bool b135, false, []⟩)
                    else
                      need (decide (0 ≤ (4 : Int)) && decide ((4 : Int) ≤ ((((s70.drop 0).take n5).length : Nat) : Int))) <|
                      need (decide ((([34, 92, 117] : List UInt8) : List UInt8).length + ((((s70.drop 0).take n5).take (((s70.drop 0).take n5).length)).drop (Int.toNat 4)).length ≤ 9223372036854775807)) <|
                      need (decide ((([34, 92, 117] : List UInt8) ++ ((((s70.drop 0).take n5).take (((s70.drop 0).take n5).length)).drop (Int.toNat 4)) : List UInt8).length + (([34] : List UInt8) : List UInt8).length ≤ 9223372036854775807)) <|
                      (R id_doubleTake [AV.bytes ((([34, 92, 117] : List UInt8) ++ ((((s70.drop 0).take n5).take (((s70.drop 0).take n5).length)).drop (Int.toNat 4))) ++ ([34] : List UInt8))]).bind fun r137 =>
                      asSIBT r137.v fun s77 i80 b136 =>
                      bif !(b136 == true) then
                        (some ⟨AV.bool false, false, []⟩)
                      else
                        bif b136 then
                          (bif !(s77 == ((Utf8.encode (IntKind.i32.wrap i73)).data.toList)) then
                            (some ⟨AV.bool false, false, []⟩)
                          else
                            bif decide ((i73 : Int) > 255) then
                              ((R id_law06Wakes []).bind fun r138 =>
                              asB r138.v fun b137 =>
                              some ⟨AV.bool b137, false, []⟩)
                            else
                              need (decide (0 ≤ (6 : Int)) && decide ((6 : Int) ≤ ((((s70.drop 0).take n5).length : Nat) : Int))) <|
                              need (decide ((([34, 92, 120] : List UInt8) : List UInt8).length + ((((s70.drop 0).take n5).take (((s70.drop 0).take n5).length)).drop (Int.toNat 6)).length ≤ 9223372036854775807)) <|
                              need (decide ((([34, 92, 120] : List UInt8) ++ ((((s70.drop 0).take n5).take (((s70.drop 0).take n5).length)).drop (Int.toNat 6)) : List UInt8).length + (([34] : List UInt8) : List UInt8).length ≤ 9223372036854775807)) <|
                              (R id_doubleTake [AV.bytes ((([34, 92, 120] : List UInt8) ++ ((((s70.drop 0).take n5).take (((s70.drop 0).take n5).length)).drop (Int.toNat 6))) ++ ([34] : List UInt8))]).bind fun r139 =>
                              asSIBT r139.v fun s78 i81 b138 =>
                              need (decide (0 ≤ (7 : Int)) && decide ((7 : Int) ≤ ((((s70.drop 0).take n5).length : Nat) : Int))) <|
                              need (decide ((([34, 92, 120] : List UInt8) : List UInt8).length + ((((s70.drop 0).take n5).take (((s70.drop 0).take n5).length)).drop (Int.toNat 7)).length ≤ 9223372036854775807)) <|
                              need (decide ((([34, 92, 120] : List UInt8) ++ ((((s70.drop 0).take n5).take (((s70.drop 0).take n5).length)).drop (Int.toNat 7)) : List UInt8).length + (([34] : List UInt8) : List UInt8).length ≤ 9223372036854775807)) <|
                              (R id_doubleTake [AV.bytes ((([34, 92, 120] : List UInt8) ++ ((((s70.drop 0).take n5).take (((s70.drop 0).take n5).length)).drop (Int.toNat 7))) ++ ([34] : List UInt8))]).bind fun r140 =>
                              asSIBT r140.v fun s79 i82 b139 =>
                              bif b138 then
                                (bif s78 == ((Utf8.encode (IntKind.i32.wrap i73)).data.toList) then
                                  (bif !b139 then
                                    ((R id_law06Wakes []).bind fun r141 =>
                                    asB r141.v fun b140 =>
                                    some ⟨AV.bool b140, false, []⟩)
                                  else
                                    some ⟨AV.bool false, false, []⟩)
                                else
                                  some ⟨AV.bool false, false, []⟩)
                              else
                                some ⟨AV.bool false, false, []⟩)
                        else
                          bif decide ((i73 : Int) > 255) then
                            ((R id_law06Wakes []).bind fun r142 =>
                            asB r142.v fun b141 =>
                            some ⟨AV.bool b141, false, []⟩)
                          else
                            need (decide (0 ≤ (6 : Int)) && decide ((6 : Int) ≤ ((((s70.drop 0).take n5).length : Nat) : Int))) <|
                            need (decide ((([34, 92, 120] : List UInt8) : List UInt8).length + ((((s70.drop 0).take n5).take (((s70.drop 0).take n5).length)).drop (Int.toNat 6)).length ≤ 9223372036854775807)) <|
                            need (decide ((([34, 92, 120] : List UInt8) ++ ((((s70.drop 0).take n5).take (((s70.drop 0).take n5).length)).drop (Int.toNat 6)) : List UInt8).length + (([34] : List UInt8) : List UInt8).length ≤ 9223372036854775807)) <|
                            (R id_doubleTake [AV.bytes ((([34, 92, 120] : List UInt8) ++ ((((s70.drop 0).take n5).take (((s70.drop 0).take n5).length)).drop (Int.toNat 6))) ++ ([34] : List UInt8))]).bind fun r143 =>
                            asSIBT r143.v fun s80 i83 b142 =>
                            need (decide (0 ≤ (7 : Int)) && decide ((7 : Int) ≤ ((((s70.drop 0).take n5).length : Nat) : Int))) <|
                            need (decide ((([34, 92, 120] : List UInt8) : List UInt8).length + ((((s70.drop 0).take n5).take (((s70.drop 0).take n5).length)).drop (Int.toNat 7)).length ≤ 9223372036854775807)) <|
                            need (decide ((([34, 92, 120] : List UInt8) ++ ((((s70.drop 0).take n5).take (((s70.drop 0).take n5).length)).drop (Int.toNat 7)) : List UInt8).length + (([34] : List UInt8) : List UInt8).length ≤ 9223372036854775807)) <|
                            (R id_doubleTake [AV.bytes ((([34, 92, 120] : List UInt8) ++ ((((s70.drop 0).take n5).take (((s70.drop 0).take n5).length)).drop (Int.toNat 7))) ++ ([34] : List UInt8))]).bind fun r144 =>
                            asSIBT r144.v fun s81 i84 b143 =>
                            bif b142 then
                              (bif s80 == ((Utf8.encode (IntKind.i32.wrap i73)).data.toList) then
                                (bif !b143 then
                                  ((R id_law06Wakes []).bind fun r145 =>
                                  asB r145.v fun b144 =>
                                  some ⟨AV.bool b144, false, []⟩)
                                else
                                  some ⟨AV.bool false, false, []⟩)
                              else
                                some ⟨AV.bool false, false, []⟩)
                            else
                              some ⟨AV.bool false, false, []⟩)
              else
                bif !(b124 == (decide ((i73 : Int) > 57343))) then
                  (some ⟨AV.bool false, false, []⟩)
                else
                  bif b124 then
                    (bif !(s71 == ((Utf8.encode (IntKind.i32.wrap i73)).data.toList)) then
                      (some ⟨AV.bool false, false, []⟩)
                    else
                      bif (i74 : Int) != 12 then
                        (some ⟨AV.bool false, false, []⟩)
                      else
                        bif decide ((i73 : Int) > 65535) then
                          ((R id_law06Wakes []).bind fun r146 =>
                          asB r146.v fun b145 =>
                          some ⟨AV.bool b145, false, []⟩)
                        else
                          need (decide (0 ≤ (4 : Int)) && decide ((4 : Int) ≤ ((((s70.drop 0).take n5).length : Nat) : Int))) <|
                          need (decide ((([34, 92, 117] : List UInt8) : List UInt8).length + ((((s70.drop 0).take n5).take (((s70.drop 0).take n5).length)).drop (Int.toNat 4)).length ≤ 9223372036854775807)) <|
                          need (decide ((([34, 92, 117] : List UInt8) ++ ((((s70.drop 0).take n5).take (((s70.drop 0).take n5).length)).drop (Int.toNat 4)) : List UInt8).length + (([34] : List UInt8) : List UInt8).length ≤ 9223372036854775807)) <|
                          (R id_doubleTake [AV.bytes ((([34, 92, 117] : List UInt8) ++ ((((s70.drop 0).take n5).take (((s70.drop 0).take n5).length)).drop (Int.toNat 4))) ++ ([34] : List UInt8))]).bind fun r147 =>
                          asSIBT r147.v fun s82 i85 b146 =>
                          bif !(b146 == (decide ((i73 : Int) > 57343))) then
                            (some ⟨AV.bool false, false, []⟩)
                          else
                            bif b146 then
                              (bif !(s82 == ((Utf8.encode (IntKind.i32.wrap i73)).data.toList)) then
                                (some ⟨AV.bool false, false, []⟩)
                              else
                                bif decide ((i73 : Int) > 255) then
                                  ((R id_law06Wakes []).bind fun r148 =>
                                  asB r148.v fun b147 =>
                                  some ⟨AV.bool b147, false, []⟩)
                                else
                                  need (decide (0 ≤ (6 : Int)) && decide ((6 : Int) ≤ ((((s70.drop 0).take n5).length : Nat) : Int))) <|
                                  need (decide ((([34, 92, 120] : List UInt8) : List UInt8).length + ((((s70.drop 0).take n5).take (((s70.drop 0).take n5).length)).drop (Int.toNat 6)).length ≤ 9223372036854775807)) <|
                                  need (decide ((([34, 92, 120] : List UInt8) ++ ((((s70.drop 0).take n5).take (((s70.drop 0).take n5).length)).drop (Int.toNat 6)) : List UInt8).length + (([34] : List UInt8) : List UInt8).length ≤ 9223372036854775807)) <|
                                  (R id_doubleTake [AV.bytes ((([34, 92, 120] : List UInt8) ++ ((((s70.drop 0).take n5).take (((s70.drop 0).take n5).length)).drop (Int.toNat 6))) ++ ([34] : List UInt8))]).bind fun r149 =>
                                  asSIBT r149.v fun s83 i86 b148 =>
                                  need (decide (0 ≤ (7 : Int)) && decide ((7 : Int) ≤ ((((s70.drop 0).take n5).length : Nat) : Int))) <|
                                  need (decide ((([34, 92, 120] : List UInt8) : List UInt8).length + ((((s70.drop 0).take n5).take (((s70.drop 0).take n5).length)).drop (Int.toNat 7)).length ≤ 9223372036854775807)) <|
                                  need (decide ((([34, 92, 120] : List UInt8) ++ ((((s70.drop 0).take n5).take (((s70.drop 0).take n5).length)).drop (Int.toNat 7)) : List UInt8).length + (([34] : List UInt8) : List UInt8).length ≤ 9223372036854775807)) <|
                                  (R id_doubleTake [AV.bytes ((([34, 92, 120] : List UInt8) ++ ((((s70.drop 0).take n5).take (((s70.drop 0).take n5).length)).drop (Int.toNat 7))) ++ ([34] : List UInt8))]).bind fun r150 =>
                                  asSIBT r150.v fun s84 i87 b149 =>
                                  bif b148 then
                                    (bif s83 == ((Utf8.encode (IntKind.i32.wrap i73)).data.toList) then
                                      (bif !b149 then
                                        ((R id_law06Wakes []).bind fun r151 =>
                                        asB r151.v fun b150 =>
                                        some ⟨AV.bool b150, false, []⟩)
                                      else
                                        some ⟨AV.bool false, false, []⟩)
                                    else
                                      some ⟨AV.bool false, false, []⟩)
                                  else
                                    some ⟨AV.bool false, false, []⟩)
                            else
                              bif decide ((i73 : Int) > 255) then
                                ((R id_law06Wakes []).bind fun r152 =>
                                asB r152.v fun b151 =>
                                some ⟨AV.bool b151, false, []⟩)
                              else
                                need (decide (0 ≤ (6 : Int)) && decide ((6 : Int) ≤ ((((s70.drop 0).take n5).length : Nat) : Int))) <|
                                need (decide ((([34, 92, 120] : List UInt8) : List UInt8).length + ((((s70.drop 0).take n5).take (((s70.drop 0).take n5).length)).drop (Int.toNat 6)).length ≤ 9223372036854775807)) <|
                                need (decide ((([34, 92, 120] : List UInt8) ++ ((((s70.drop 0).take n5).take (((s70.drop 0).take n5).length)).drop (Int.toNat 6)) : List UInt8).length + (([34] : List UInt8) : List UInt8).length ≤ 9223372036854775807)) <|
                                (R id_doubleTake [AV.bytes ((([34, 92, 120] : List UInt8) ++ ((((s70.drop 0).take n5).take (((s70.drop 0).take n5).length)).drop (Int.toNat 6))) ++ ([34] : List UInt8))]).bind fun r153 =>
                                asSIBT r153.v fun s85 i88 b152 =>
                                need (decide (0 ≤ (7 : Int)) && decide ((7 : Int) ≤ ((((s70.drop 0).take n5).length : Nat) : Int))) <|
                                need (decide ((([34, 92, 120] : List UInt8) : List UInt8).length + ((((s70.drop 0).take n5).take (((s70.drop 0).take n5).length)).drop (Int.toNat 7)).length ≤ 9223372036854775807)) <|
                                need (decide ((([34, 92, 120] : List UInt8) ++ ((((s70.drop 0).take n5).take (((s70.drop 0).take n5).length)).drop (Int.toNat 7)) : List UInt8).length + (([34] : List UInt8) : List UInt8).length ≤ 9223372036854775807)) <|
                                (R id_doubleTake [AV.bytes ((([34, 92, 120] : List UInt8) ++ ((((s70.drop 0).take n5).take (((s70.drop 0).take n5).length)).drop (Int.toNat 7))) ++ ([34] : List UInt8))]).bind fun r154 =>
                                asSIBT r154.v fun s86 i89 b153 =>
                                bif b152 then
                                  (bif s85 == ((Utf8.encode (IntKind.i32.wrap i73)).data.toList) then
                                    (bif !b153 then
                                      ((R id_law06Wakes []).bind fun r155 =>
                                      asB r155.v fun b154 =>
                                      some ⟨AV.bool b154, false, []⟩)
                                    else
                                      some ⟨AV.bool false, false, []⟩)
                                  else
                                    some ⟨AV.bool false, false, []⟩)
                                else
                                  some ⟨AV.bool false, false, []⟩)
                  else
                    bif decide ((i73 : Int) > 65535) then
                      ((R id_law06Wakes []).bind fun r156 =>
                      asB r156.v fun b155 =>
                      some ⟨AV.bool b155, false, []⟩)
                    else
                      need (decide (0 ≤ (4 : Int)) && decide ((4 : Int) ≤ ((((s70.drop 0).take n5).length : Nat) : Int))) <|
                      need (decide ((([34, 92, 117] : List UInt8) : List UInt8).length + ((((s70.drop 0).take n5).take (((s70.drop 0).take n5).length)).drop (Int.toNat 4)).length ≤ 9223372036854775807)) <|
                      need (decide ((([34, 92, 117] : List UInt8) ++ ((((s70.drop 0).take n5).take (((s70.drop 0).take n5).length)).drop (Int.toNat 4)) : List UInt8).length + (([34] : List UInt8) : List UInt8).length ≤ 9223372036854775807)) <|
                      (R id_doubleTake [AV.bytes ((([34, 92, 117] : List UInt8) ++ ((((s70.drop 0).take n5).take (((s70.drop 0).take n5).length)).drop (Int.toNat 4))) ++ ([34] : List UInt8))]).bind fun r157 =>
                      asSIBT r157.v fun s87 i90 b156 =>
                      bif !(b156 == (decide ((i73 : Int) > 57343))) then
                        (some ⟨AV.bool false, false, []⟩)
                      else
                        bif b156 then
                          (bif !(s87 == ((Utf8.encode (IntKind.i32.wrap i73)).data.toList)) then
                            (some ⟨AV.bool false, false, []⟩)
                          else
                            bif decide ((i73 : Int) > 255) then
                              ((R id_law06Wakes []).bind fun r158 =>
                              asB r158.v fun b157 =>
                              some ⟨AV.bool b157, false, []⟩)
                            else
                              need (decide (0 ≤ (6 : Int)) && decide ((6 : Int) ≤ ((((s70.drop 0).take n5).length : Nat) : Int))) <|
                              need (decide ((([34, 92, 120] : List UInt8) : List UInt8).length + ((((s70.drop 0).take n5).take (((s70.drop 0).take n5).length)).drop (Int.toNat 6)).length ≤ 9223372036854775807)) <|
                              need (decide ((([34, 92, 120] : List UInt8) ++ ((((s70.drop 0).take n5).take (((s70.drop 0).take n5).length)).drop (Int.toNat 6)) : List UInt8).length + (([34] : List UInt8) : List UInt8).length ≤ 9223372036854775807)) <|
                              (R id_doubleTake [AV.bytes ((([34, 92, 120] : List UInt8) ++ ((((s70.drop 0).take n5).take (((s70.drop 0).take n5).length)).drop (Int.toNat 6))) ++ ([34] : List UInt8))]).bind fun r159 =>
                              asSIBT r159.v fun s88 i91 b158 =>
                              need (decide (0 ≤ (7 : Int)) && decide ((7 : Int) ≤ ((((s70.drop 0).take n5).length : Nat) : Int))) <|
                              need (decide ((([34, 92, 120] : List UInt8) : List UInt8).length + ((((s70.drop 0).take n5).take (((s70.drop 0).take n5).length)).drop (Int.toNat 7)).length ≤ 9223372036854775807)) <|
                              need (decide ((([34, 92, 120] : List UInt8) ++ ((((s70.drop 0).take n5).take (((s70.drop 0).take n5).length)).drop (Int.toNat 7)) : List UInt8).length + (([34] : List UInt8) : List UInt8).length ≤ 9223372036854775807)) <|
                              (R id_doubleTake [AV.bytes ((([34, 92, 120] : List UInt8) ++ ((((s70.drop 0).take n5).take (((s70.drop 0).take n5).length)).drop (Int.toNat 7))) ++ ([34] : List UInt8))]).bind fun r160 =>
                              asSIBT r160.v fun s89 i92 b159 =>
                              bif b158 then
                                (bif s88 == ((Utf8.encode (IntKind.i32.wrap i73)).data.toList) then
                                  (bif !b159 then
                                    ((R id_law06Wakes []).bind fun r161 =>
                                    asB r161.v fun b160 =>
                                    some ⟨AV.bool b160, false, []⟩)
                                  else
                                    some ⟨AV.bool false, false, []⟩)
                                else
                                  some ⟨AV.bool false, false, []⟩)
                              else
                                some ⟨AV.bool false, false, []⟩)
                        else
                          bif decide ((i73 : Int) > 255) then
                            ((R id_law06Wakes []).bind fun r162 =>
                            asB r162.v fun b161 =>
                            some ⟨AV.bool b161, false, []⟩)
                          else
                            need (decide (0 ≤ (6 : Int)) && decide ((6 : Int) ≤ ((((s70.drop 0).take n5).length : Nat) : Int))) <|
                            need (decide ((([34, 92, 120] : List UInt8) : List UInt8).length + ((((s70.drop 0).take n5).take (((s70.drop 0).take n5).length)).drop (Int.toNat 6)).length ≤ 9223372036854775807)) <|
                            need (decide ((([34, 92, 120] : List UInt8) ++ ((((s70.drop 0).take n5).take (((s70.drop 0).take n5).length)).drop (Int.toNat 6)) : List UInt8).length + (([34] : List UInt8) : List UInt8).length ≤ 9223372036854775807)) <|
                            (R id_doubleTake [AV.bytes ((([34, 92, 120] : List UInt8) ++ ((((s70.drop 0).take n5).take (((s70.drop 0).take n5).length)).drop (Int.toNat 6))) ++ ([34] : List UInt8))]).bind fun r163 =>
                            asSIBT r163.v fun s90 i93 b162 =>
                            need (decide (0 ≤ (7 : Int)) && decide ((7 : Int) ≤ ((((s70.drop 0).take n5).length : Nat) : Int))) <|
                            need (decide ((([34, 92, 120] : List UInt8) : List UInt8).length + ((((s70.drop 0).take n5).take (((s70.drop 0).take n5).length)).drop (Int.toNat 7)).length ≤ 9223372036854775807)) <|
                            need (decide ((([34, 92, 120] : List UInt8) ++ ((((s70.drop 0).take n5).take (((s70.drop 0).take n5).length)).drop (Int.toNat 7)) : List UInt8).length + (([34] : List UInt8) : List UInt8).length ≤ 9223372036854775807)) <|
                            (R id_doubleTake [AV.bytes ((([34, 92, 120] : List UInt8) ++ ((((s70.drop 0).take n5).take (((s70.drop 0).take n5).length)).drop (Int.toNat 7))) ++ ([34] : List UInt8))]).bind fun r164 =>
                            asSIBT r164.v fun s91 i94 b163 =>
                            bif b162 then
                              (bif s90 == ((Utf8.encode (IntKind.i32.wrap i73)).data.toList) then
                                (bif !b163 then
                                  ((R id_law06Wakes []).bind fun r165 =>
                                  asB r165.v fun b164 =>
                                  some ⟨AV.bool b164, false, []⟩)
                                else
                                  some ⟨AV.bool false, false, []⟩)
                              else
                                some ⟨AV.bool false, false, []⟩)
                            else
                              some ⟨AV.bool false, false, []⟩)
            else
              bif !(b124 == false) then
                (some ⟨AV.bool false, false, []⟩)
              else
                bif b124 then
                  (bif !(s71 == ((Utf8.encode (IntKind.i32.wrap i73)).data.toList)) then
                    (some ⟨AV.bool false, false, []⟩)
                  else
                    bif (i74 : Int) != 12 then
                      (some ⟨AV.bool false, false, []⟩)
                    else
                      bif decide ((i73 : Int) > 65535) then
                        ((R id_law06Wakes []).bind fun r166 =>
                        asB r166.v fun b165 =>
                        some ⟨AV.bool b165, false, []⟩)
                      else
                        need (decide (0 ≤ (4 : Int)) && decide ((4 : Int) ≤ ((((s70.drop 0).take n5).length : Nat) : Int))) <|
                        need (decide ((([34, 92, 117] : List UInt8) : List UInt8).length + ((((s70.drop 0).take n5).take (((s70.drop 0).take n5).length)).drop (Int.toNat 4)).length ≤ 9223372036854775807)) <|
                        need (decide ((([34, 92, 117] : List UInt8) ++ ((((s70.drop 0).take n5).take (((s70.drop 0).take n5).length)).drop (Int.toNat 4)) : List UInt8).length + (([34] : List UInt8) : List UInt8).length ≤ 9223372036854775807)) <|
                        (R id_doubleTake [AV.bytes ((([34, 92, 117] : List UInt8) ++ ((((s70.drop 0).take n5).take (((s70.drop 0).take n5).length)).drop (Int.toNat 4))) ++ ([34] : List UInt8))]).bind fun r167 =>
                        asSIBT r167.v fun s92 i95 b166 =>
                        bif !(b166 == false) then
                          (some ⟨AV.bool false, false, []⟩)
                        else
                          bif b166 then
                            (bif !(s92 == ((Utf8.encode (IntKind.i32.wrap i73)).data.toList)) then
                              (some ⟨AV.bool false, false, []⟩)
                            else
                              bif decide ((i73 : Int) > 255) then
                                ((R id_law06Wakes []).bind fun r168 =>
                                asB r168.v fun b167 =>
                                some ⟨AV.bool b167, false, []⟩)
                              else
                                need (decide (0 ≤ (6 : Int)) && decide ((6 : Int) ≤ ((((s70.drop 0).take n5).length : Nat) : Int))) <|
                                need (decide ((([34, 92, 120] : List UInt8) : List UInt8).length + ((((s70.drop 0).take n5).take (((s70.drop 0).take n5).length)).drop (Int.toNat 6)).length ≤ 9223372036854775807)) <|
                                need (decide ((([34, 92, 120] : List UInt8) ++ ((((s70.drop 0).take n5).take (((s70.drop 0).take n5).length)).drop (Int.toNat 6)) : List UInt8).length + (([34] : List UInt8) : List UInt8).length ≤ 9223372036854775807)) <|
                                (R id_doubleTake [AV.bytes ((([34, 92, 120] : List UInt8) ++ ((((s70.drop 0).take n5).take (((s70.drop 0).take n5).length)).drop (Int.toNat 6))) ++ ([34] : List UInt8))]).bind fun r169 =>
                                asSIBT r169.v fun s93 i96 b168 =>
                                need (decide (0 ≤ (7 : Int)) && decide ((7 : Int) ≤ ((((s70.drop 0).take n5).length : Nat) : Int))) <|
                                need (decide ((([34, 92, 120] : List UInt8) : List UInt8).length + ((((s70.drop 0).take n5).take (((s70.drop 0).take n5).length)).drop (Int.toNat 7)).length ≤ 9223372036854775807)) <|
                                need (decide ((([34, 92, 120] : List UInt8) ++ ((((s70.drop 0).take n5).take (((s70.drop 0).take n5).length)).drop (Int.toNat 7)) : List UInt8).length + (([34] : List UInt8) : List UInt8).length ≤ 9223372036854775807)) <|
                                (R id_doubleTake [AV.bytes ((([34, 92, 120] : List UInt8) ++ ((((s70.drop 0).take n5).take (((s70.drop 0).take n5).length)).drop (Int.toNat 7))) ++ ([34] : List UInt8))]).bind fun r170 =>
                                asSIBT r170.v fun s94 i97 b169 =>
                                bif b168 then
                                  (bif s93 == ((Utf8.encode (IntKind.i32.wrap i73)).data.toList) then
                                    (bif !b169 then
                                      ((R id_law06Wakes []).bind fun r171 =>
                                      asB r171.v fun b170 =>
                                      some ⟨AV.bool b170, false, []⟩)
                                    else
                                      some ⟨AV.bool false, false, []⟩)
                                  else
                                    some ⟨AV.bool false, false, []⟩)
                                else
                                  some ⟨AV.bool false, false, []⟩)
                          else
                            bif decide ((i73 : Int) > 255) then
                              ((R id_law06Wakes []).bind fun r172 =>
                              asB r172.v fun b171 =>
                              some ⟨AV.bool b171, false, []⟩)
                            else
                              need (decide (0 ≤ (6 : Int)) && decide ((6 : Int) ≤ ((((s70.drop 0).take n5).length : Nat) : Int))) <|
                              need (decide ((([34, 92, 120] : List UInt8) : List UInt8).length + ((((s70.drop 0).take n5).take (((s70.drop 0).take n5).length)).drop (Int.toNat 6)).length ≤ 9223372036854775807)) <|
                              need (decide ((([34, 92, 120] : List UInt8) ++ ((((s70.drop 0).take n5).take (((s70.drop 0).take n5).length)).drop (Int.toNat 6)) : List UInt8).length + (([34] : List UInt8) : List UInt8).length ≤ 9223372036854775807)) <|
                              (R id_doubleTake [AV.bytes ((([34, 92, 120] : List UInt8) ++ ((((s70.drop 0).take n5).take (((s70.drop 0).take n5).length)).drop (Int.toNat 6))) ++ ([34] : List UInt8))]).bind fun r173 =>
                              asSIBT r173.v fun s95 i98 b172 =>
                              need (decide (0 ≤ (7 : Int)) && decide ((7 : Int) ≤ ((((s70.drop 0).take n5).length : Nat) : Int))) <|
                              need (decide ((([34, 92, 120] : List UInt8) : List UInt8).length + ((((s70.drop 0).take n5).take (((s70.drop 0).take n5).length)).drop (Int.toNat 7)).length ≤ 9223372036854775807)) <|
                              need (decide ((([34, 92, 120] : List UInt8) ++ ((((s70.drop 0).take n5).take (((s70.drop 0).take n5).length)).drop (Int.toNat 7)) : List UInt8).length + (([34] : List UInt8) : List UInt8).length ≤ 9223372036854775807)) <|
                              (R id_doubleTake [AV.bytes ((([34, 92, 120] : List UInt8) ++ ((((s70.drop 0).take n5).take (((s70.drop 0).take n5).length)).drop (Int.toNat 7))) ++ ([34] : List UInt8))]).bind fun r174 =>
                              asSIBT r174.v fun s96 i99 b173 =>
                              bif b172 then
                                (bif s95 == ((Utf8.encode (IntKind.i32.wrap i73)).data.toList) then
                                  (bif !b173 then
                                    ((R id_law06Wakes []).bind fun r175 =>
                                    asB r175.v fun b174 =>
                                    some ⟨AV.bool b174, false, []⟩)
                                  else
                                    some ⟨AV.bool false, false, []⟩)
                                else
                                  some ⟨AV.bool false, false, []⟩)
                              else
                                some ⟨AV.bool false, false, []⟩)
                else
                  bif decide ((i73 : Int) > 65535) then
                    ((R id_law06Wakes []).bind fun r176 =>
                    asB r176.v fun b175 =>
                    some ⟨AV.bool b175, false, []⟩)
                  else
                    need (decide (0 ≤ (4 : Int)) && decide ((4 : Int) ≤ ((((s70.drop 0).take n5).length : Nat) : Int))) <|
                    need (decide ((([34, 92, 117] : List UInt8) : List UInt8).length + ((((s70.drop 0).take n5).take (((s70.drop 0).take n5).length)).drop (Int.toNat 4)).length ≤ 9223372036854775807)) <|
                    need (decide ((([34, 92, 117] : List UInt8) ++ ((((s70.drop 0).take n5).take (((s70.drop 0).take n5).length)).drop (Int.toNat 4)) : List UInt8).length + (([34] : List UInt8) : List UInt8).length ≤ 9223372036854775807)) <|
                    (R id_doubleTake [AV.bytes ((([34, 92, 117] : List UInt8) ++ ((((s70.drop 0).take n5).take (((s70.drop 0).take n5).length)).drop (Int.toNat 4))) ++ ([34] : List UInt8))]).bind fun r177 =>
                    asSIBT r177.v fun s97 i100 b176 =>
                    bif !(b176 == false) then
                      (some ⟨AV.bool false, false, []⟩)
                    else
                      bif b176 then
                        (bif !(s97 == ((Utf8.encode (IntKind.i32.wrap i73)).data.toList)) then
                          (some ⟨AV.bool false, false, []⟩)
                        else
                          bif decide ((i73 : Int) > 255) then
                            ((R id_law06Wakes []).bind fun r178 =>
                            asB r178.v fun b177 =>
                            some ⟨AV.bool b177, false, []⟩)
                          else
                            need (decide (0 ≤ (6 : Int)) && decide ((6 : Int) ≤ ((((s70.drop 0).take n5).length : Nat) : Int))) <|
                            need (decide ((([34, 92, 120] : List UInt8) : List UInt8).length + ((((s70.drop 0).take n5).take (((s70.drop 0).take n5).length)).drop (Int.toNat 6)).length ≤ 9223372036854775807)) <|
                            need (decide ((([34, 92, 120] : List UInt8) ++ ((((s70.drop 0).take n5).take (((s70.drop 0).take n5).length)).drop (Int.toNat 6)) : List UInt8).length + (([34] : List UInt8) : List UInt8).length ≤ 9223372036854775807)) <|
                            (R id_doubleTake [AV.bytes ((([34, 92, 120] : List UInt8) ++ ((((s70.drop 0).take n5).take (((s70.drop 0).take n5).length)).drop (Int.toNat 6))) ++ ([34] : List UInt8))]).bind fun r179 =>
                            asSIBT r179.v fun s98 i101 b178 =>
                            need (decide (0 ≤ (7 : Int)) && decide ((7 : Int) ≤ ((((s70.drop 0).take n5).length : Nat) : Int))) <|
                            need (decide ((([34, 92, 120] : List UInt8) : List UInt8).length + ((((s70.drop 0).take n5).take (((s70.drop 0).take n5).length)).drop (Int.toNat 7)).length ≤ 9223372036854775807)) <|
                            need (decide ((([34, 92, 120] : List UInt8) ++ ((((s70.drop 0).take n5).take (((s70.drop 0).take n5).length)).drop (Int.toNat 7)) : List UInt8).length + (([34] : List UInt8) : List UInt8).length ≤ 9223372036854775807)) <|
                            (R id_doubleTake [AV.bytes ((([34, 92, 120] : List UInt8) ++ ((((s70.drop 0).take n5).take (((s70.drop 0).take n5).length)).drop (Int.toNat 7))) ++ ([34] : List UInt8))]).bind fun r180 =>
                            asSIBT r180.v fun s99 i102 b179 =>
                            bif b178 then
                              (bif s98 == ((Utf8.encode (IntKind.i32.wrap i73)).data.toList) then
                                (bif !b179 then
                                  ((R id_law06Wakes []).bind fun r181 =>
                                  asB r181.v fun b180 =>
                                  some ⟨AV.bool b180, false, []⟩)
                                else
                                  some ⟨AV.bool false, false, []⟩)
                              else
                                some ⟨AV.bool false, false, []⟩)
                            else
                              some ⟨AV.bool false, false, []⟩)
                      else
                        bif decide ((i73 : Int) > 255) then
                          ((R id_law06Wakes []).bind fun r182 =>
                          asB r182.v fun b181 =>
                          some ⟨AV.bool b181, false, []⟩)
                        else
                          need (decide (0 ≤ (6 : Int)) && decide ((6 : Int) ≤ ((((s70.drop 0).take n5).length : Nat) : Int))) <|
                          need (decide ((([34, 92, 120] : List UInt8) : List UInt8).length + ((((s70.drop 0).take n5).take (((s70.drop 0).take n5).length)).drop (Int.toNat 6)).length ≤ 9223372036854775807)) <|
                          need (decide ((([34, 92, 120] : List UInt8) ++ ((((s70.drop 0).take n5).take (((s70.drop 0).take n5).length)).drop (Int.toNat 6)) : List UInt8).length + (([34] : List UInt8) : List UInt8).length ≤ 9223372036854775807)) <|
                          (R id_doubleTake [AV.bytes ((([34, 92, 120] : List UInt8) ++ ((((s70.drop 0).take n5).take (((s70.drop 0).take n5).length)).drop (Int.toNat 6))) ++ ([34] : List UInt8))]).bind fun r183 =>
                          asSIBT r183.v fun s100 i103 b182 =>
                          need (decide (0 ≤ (7 : Int)) && decide ((7 : Int) ≤ ((((s70.drop 0).take n5).length : Nat) : Int))) <|
                          need (decide ((([34, 92, 120] : List UInt8) : List UInt8).length + ((((s70.drop 0).take n5).take (((s70.drop 0).take n5).length)).drop (Int.toNat 7)).length ≤ 9223372036854775807)) <|
                          need (decide ((([34, 92, 120] : List UInt8) ++ ((((s70.drop 0).take n5).take (((s70.drop 0).take n5).length)).drop (Int.toNat 7)) : List UInt8).length + (([34] : List UInt8) : List UInt8).length ≤ 9223372036854775807)) <|
                          (R id_doubleTake [AV.bytes ((([34, 92, 120] : List UInt8) ++ ((((s70.drop 0).take n5).take (((s70.drop 0).take n5).length)).drop (Int.toNat 7))) ++ ([34] : List UInt8))]).bind fun r184 =>
                          asSIBT r184.v fun s101 i104 b183 =>
                          bif b182 then
                            (bif s100 == ((Utf8.encode (IntKind.i32.wrap i73)).data.toList) then
                              (bif !b183 then
                                ((R id_law06Wakes []).bind fun r185 =>
                                asB r185.v fun b184 =>
                                some ⟨AV.bool b184, false, []⟩)
                              else
                                some ⟨AV.bool false, false, []⟩)
                            else
                              some ⟨AV.bool false, false, []⟩)
                          else
                            some ⟨AV.bool false, false, []⟩)
          N i1 s69.length ((s69.length : Nat) : Int) 0 s69)
      else
        need (decide ((([34, 92, 85] : List UInt8) : List UInt8).length + s69.length ≤ 9223372036854775807)) <|
        need (decide ((([34, 92, 85] : List UInt8) ++ s69 : List UInt8).length + (([34] : List UInt8) : List UInt8).length ≤ 9223372036854775807)) <|
        (R id_doubleTake [AV.bytes ((([34, 92, 85] : List UInt8) ++ s69) ++ ([34] : List UInt8))]).bind fun r186 =>
        asSIBT r186.v fun s102 i105 b185 =>
        bif decide ((i1 : Int) ≤ 1114111) then
          (bif decide ((i1 : Int) < 55296) then
            (bif !(b185 == true) then
              (some ⟨AV.bool false, false, []⟩)
            else
              bif b185 then
                (bif !(s102 == ((Utf8.encode (IntKind.i32.wrap i1)).data.toList)) then
                  (some ⟨AV.bool false, false, []⟩)
                else
                  bif (i105 : Int) != 12 then
                    (some ⟨AV.bool false, false, []⟩)
                  else
                    bif decide ((i1 : Int) > 65535) then
                      ((R id_law06Wakes []).bind fun r187 =>
                      asB r187.v fun b186 =>
                      some ⟨AV.bool b186, false, []⟩)
                    else
                      need (decide (0 ≤ (4 : Int)) && decide ((4 : Int) ≤ ((s69.length : Nat) : Int))) <|
                      need (decide ((([34, 92, 117] : List UInt8) : List UInt8).length + ((s69.take s69.length).drop (Int.toNat 4)).length ≤ 9223372036854775807)) <|
                      need (decide ((([34, 92, 117] : List UInt8) ++ ((s69.take s69.length).drop (Int.toNat 4)) : List UInt8).length + (([34] : List UInt8) : List UInt8).length ≤ 9223372036854775807)) <|
                      (R id_doubleTake [AV.bytes ((([34, 92, 117] : List UInt8) ++ ((s69.take s69.length).drop (Int.toNat 4))) ++ ([34] : List UInt8))]).bind fun r188 =>
                      asSIBT r188.v fun s103 i106 b187 =>
                      bif !(b187 == true) then
                        (some ⟨AV.bool false, false, []⟩)
                      else
                        bif b187 then
                          (bif !(s103 == ((Utf8.encode (IntKind.i32.wrap i1)).data.toList)) then
                            (some ⟨AV.bool false, false, []⟩)
                          else
                            bif decide ((i1 : Int) > 255) then
                              ((R id_law06Wakes []).bind fun r189 =>
                              asB r189.v fun b188 =>
                              some ⟨AV.bool b188, false, []⟩)
                            else
                              need (decide (0 ≤ (6 : Int)) && decide ((6 : Int) ≤ ((s69.length : Nat) : Int))) <|
                              need (decide ((([34, 92, 120] : List UInt8) : List UInt8).length + ((s69.take s69.length).drop (Int.toNat 6)).length ≤ 9223372036854775807)) <|
                              need (decide ((([34, 92, 120] : List UInt8) ++ ((s69.take s69.length).drop (Int.toNat 6)) : List UInt8).length + (([34] : List UInt8) : List UInt8).length ≤ 9223372036854775807)) <|
                              (R id_doubleTake [AV.bytes ((([34, 92, 120] : List UInt8) ++ ((s69.take s69.length).drop (Int.toNat 6))) ++ ([34] : List UInt8))]).bind fun r190 =>
                              asSIBT r190.v fun s104 i107 b189 =>
                              need (decide (0 ≤ (7 : Int)) && decide ((7 : Int) ≤ ((s69.length : Nat) : Int))) <|
                              need (decide ((([34, 92, 120] : List UInt8) : List UInt8).length + ((s69.take s69.length).drop (Int.toNat 7)).length ≤ 9223372036854775807)) <|
                              need (decide ((([34, 92, 120] : List UInt8) ++ ((s69.take s69.length).drop (Int.toNat 7)) : List UInt8).length + (([34] : List UInt8) : List UInt8).length ≤ 9223372036854775807)) <|
                              (R id_doubleTake [AV.bytes ((([34, 92, 120] : List UInt8) ++ ((s69.take s69.length).drop (Int.toNat 7))) ++ ([34] : List UInt8))]).bind fun r191 =>
                              asSIBT r191.v fun s105 i108 b190 =>
                              bif b189 then
                                (bif s104 == ((Utf8.encode (IntKind.i32.wrap i1)).data.toList) then
                                  (bif !b190 then
                                    ((R id_law06Wakes []).bind fun r192 =>
                                    asB r192.v fun b191 =>
                                    some ⟨AV.bool b191, false, []⟩)
                                  else
                                    some ⟨AV.bool false, false, []⟩)
                                else
                                  some ⟨AV.bool false, false, []⟩)
                              else
                                some ⟨AV.bool false, false, []⟩)
                        else
                          bif decide ((i1 : Int) > 255) then
                            ((R id_law06Wakes []).bind fun r193 =>
                            asB r193.v fun b192 =>
                            some ⟨AV.bool b192, false, []⟩)
                          else
                            need (decide (0 ≤ (6 : Int)) && decide ((6 : Int) ≤ ((s69.length : Nat) : Int))) <|
                            need (decide ((([34, 92, 120] : List UInt8) : List UInt8).length + ((s69.take s69.length).drop (Int.toNat 6)).length ≤ 9223372036854775807)) <|
                            need (decide ((([34, 92, 120] : List UInt8) ++ ((s69.take s69.length).drop (Int.toNat 6)) : List UInt8).length + (([34] : List UInt8) : List UInt8).length ≤ 9223372036854775807)) <|
                            (R id_doubleTake [AV.bytes ((([34, 92, 120] : List UInt8) ++ ((s69.take s69.length).drop (Int.toNat 6))) ++ ([34] : List UInt8))]).bind fun r194 =>
                            asSIBT r194.v fun s106 i109 b193 =>
                            need (decide (0 ≤ (7 : Int)) && decide ((7 : Int) ≤ ((s69.length : Nat) : Int))) <|
                            need (decide ((([34, 92, 120] : List UInt8) : List UInt8).length + ((s69.take s69.length).drop (Int.toNat 7)).length ≤ 9223372036854775807)) <|
                            need (decide ((([34, 92, 120] : List UInt8) ++ ((s69.take s69.length).drop (Int.toNat 7)) : List UInt8).length + (([34] : List UInt8) : List UInt8).length ≤ 9223372036854775807)) <|
                            (R id_doubleTake [AV.bytes ((([34, 92, 120] : List UInt8) ++ ((s69.take s69.length).drop (Int.toNat 7))) ++ ([34] : List UInt8))]).bind fun r195 =>
                            asSIBT r195.v fun s107 i110 b194 =>
                            bif b193 then
                              (bif s106 == ((Utf8.encode (IntKind.i32.wrap i1)).data.toList) then
                                (bif !b194 then
                                  ((R id_law06Wakes []).bind fun r196 =>
                                  asB r196.v fun b195 =>
                                  some ⟨AV.bool b195, false, []⟩)
                                else
                                  some ⟨AV.bool false, false, []⟩)
                              else
                                some ⟨AV.bool false, false, []⟩)
                            else
                              some ⟨AV.bool false, false, []⟩)
              else
                bif decide ((i1 : Int) > 65535) then
                  ((R id_law06Wakes []).bind fun r197 =>
                  asB r197.v fun b196 =>
                  some ⟨AV.bool b196, false, []⟩)
                else
                  need (decide (0 ≤ (4 : Int)) && decide ((4 : Int) ≤ ((s69.length : Nat) : Int))) <|
                  need (decide ((([34, 92, 117] : List UInt8) : List UInt8).length + ((s69.take s69.length).drop (Int.toNat 4)).length ≤ 9223372036854775807)) <|
                  need (decide ((([34, 92, 117] : List UInt8) ++ ((s69.take s69.length).drop (Int.toNat 4)) : List UInt8).length + (([34] : List UInt8) : List UInt8).length ≤ 9223372036854775807)) <|
                  (R id_doubleTake [AV.bytes ((([34, 92, 117] : List UInt8) ++ ((s69.take s69.length).drop (Int.toNat 4))) ++ ([34] : List UInt8))]).bind fun r198 =>
                  asSIBT r198.v fun s108 i111 b197 =>
                  bif !(b197 == true) then
                    (some ⟨AV.bool false, false, []⟩)
                  else
                    bif b197 then
                      (bif !(s108 == ((Utf8.encode (IntKind.i32.wrap i1)).data.toList)) then
                        (some ⟨AV.bool false, false, []⟩)
                      else
                        bif decide ((i1 : Int) > 255) then
                          ((R id_law06Wakes []).bind fun r199 =>
                          asB r199.v fun b198 =>
                          some ⟨AV.bool b198, false, []⟩)
                        else
                          need (decide (0 ≤ (6 : Int)) && decide ((6 : Int) ≤ ((s69.length : Nat) : Int))) <|
                          need (decide ((([34, 92, 120] : List UInt8) : List UInt8).length + ((s69.take s69.length).drop (Int.toNat 6)).length ≤ 9223372036854775807)) <|
                          need (decide ((([34, 92, 120] : List UInt8) ++ ((s69.take s69.length).drop (Int.toNat 6)) : List UInt8).length + (([34] : List UInt8) : List UInt8).length ≤ 9223372036854775807)) <|
                          (R id_doubleTake [AV.bytes ((([34, 92, 120] : List UInt8) ++ ((s69.take s69.length).drop (Int.toNat 6))) ++ ([34] : List UInt8))]).bind fun r200 =>
                          asSIBT r200.v fun s109 i112 b199 =>
                          need (decide (0 ≤ (7 : Int)) && decide ((7 : Int) ≤ ((s69.length : Nat) : Int))) <|
                          need (decide ((([34, 92, 120] : List UInt8) : List UInt8).length + ((s69.take s69.length).drop (Int.toNat 7)).length ≤ 9223372036854775807)) <|
                          need (decide ((([34, 92, 120] : List UInt8) ++ ((s69.take s69.length).drop (Int.toNat 7)) : List UInt8).length + (([34] : List UInt8) : List UInt8).length ≤ 9223372036854775807)) <|
                          (R id_doubleTake [AV.bytes ((([34, 92, 120] : List UInt8) ++ ((s69.take s69.length).drop (Int.toNat 7))) ++ ([34] : List UInt8))]).bind fun r201 =>
                          asSIBT r201.v fun s110 i113 b200 =>
                          bif b199 then
                            (bif s109 == ((Utf8.encode (IntKind.i32.wrap i1)).data.toList) then
                              (bif !b200 then
                                ((R id_law06Wakes []).bind fun r202 =>
                                asB r202.v fun b201 =>
                                some ⟨AV.bool b201, false, []⟩)
                              else
                                some ⟨AV.bool false, false, []⟩)
                            else
                              some ⟨AV.bool false, false, []⟩)
                          else
                            some ⟨AV.bool false, false, []⟩)
                    else
                      bif decide ((i1 : Int) > 255) then
                        ((R id_law06Wakes []).bind fun r203 =>
                        asB r203.v fun b202 =>
                        some ⟨AV.bool b202, false, []⟩)
                      else
                        need (decide (0 ≤ (6 : Int)) && decide ((6 : Int) ≤ ((s69.length : Nat) : Int))) <|
                        need (decide ((([34, 92, 120] : List UInt8) : List UInt8).length + ((s69.take s69.length).drop (Int.toNat 6)).length ≤ 9223372036854775807)) <|
                        need (decide ((([34, 92, 120] : List UInt8) ++ ((s69.take s69.length).drop (Int.toNat 6)) : List UInt8).length + (([34] : List UInt8) : List UInt8).length ≤ 9223372036854775807)) <|
                        (R id_doubleTake [AV.bytes ((([34, 92, 120] : List UInt8) ++ ((s69.take s69.length).drop (Int.toNat 6))) ++ ([34] : List UInt8))]).bind fun r204 =>
                        asSIBT r204.v fun s111 i114 b203 =>
                        need (decide (0 ≤ (7 : Int)) && decide ((7 : Int) ≤ ((s69.length : Nat) : Int))) <|
                        need (decide ((([34, 92, 120] : List UInt8) : List UInt8).length + ((s69.take s69.length).drop (Int.toNat 7)).length ≤ 9223372036854775807)) <|
                        need (decide ((([34, 92, 120] : List UInt8) ++ ((s69.take s69.length).drop (Int.toNat 7)) : List UInt8).length + (([34] : List UInt8) : List UInt8).length ≤ 9223372036854775807)) <|
                        (R id_doubleTake [AV.bytes ((([34, 92, 120] : List UInt8) ++ ((s69.take s69.length).drop (Int.toNat 7))) ++ ([34] : List UInt8))]).bind fun r205 =>
                        asSIBT r205.v fun s112 i115 b204 =>
                        bif b203 then
                          (bif s111 == ((Utf8.encode (IntKind.i32.wrap i1)).data.toList) then
                            (bif !b204 then
                              ((R id_law06Wakes []).bind fun r206 =>
                              asB r206.v fun b205 =>
                              some ⟨AV.bool b205, false, []⟩)
                            else
                              some ⟨AV.bool false, false, []⟩)
                          else
                            some ⟨AV.bool false, false, []⟩)
                        else
                          some ⟨AV.bool false, false, []⟩)
          else
            bif !(b185 == (decide ((i1 : Int) > 57343))) then
              (some ⟨AV.bool false, false, []⟩)
            else
              bif b185 then
                (bif !(s102 == ((Utf8.encode (IntKind.i32.wrap i1)).data.toList)) then
                  (some ⟨AV.bool false, false, []⟩)
                else
                  bif (i105 : Int) != 12 then
                    (some ⟨AV.bool false, false, []⟩)
                  else
                    bif decide ((i1 : Int) > 65535) then
                      ((R id_law06Wakes []).bind fun r207 =>
                      asB r207.v fun b206 =>
                      some ⟨AV.bool b206, false, []⟩)
                    else
                      need (decide (0 ≤ (4 : Int)) && decide ((4 : Int) ≤ ((s69.length : Nat) : Int))) <|
                      need (decide ((([34, 92, 117] : List UInt8) : List UInt8).length + ((s69.take s69.length).drop (Int.toNat 4)).length ≤ 9223372036854775807)) <|
                      need (decide ((([34, 92, 117] : List UInt8) ++ ((s69.take s69.length).drop (Int.toNat 4)) : List UInt8).length + (([34] : List UInt8) : List UInt8).length ≤ 9223372036854775807)) <|
                      (R id_doubleTake [AV.bytes ((([34, 92, 117] : List UInt8) ++ ((s69.take s69.length).drop (Int.toNat 4))) ++ ([34] : List UInt8))]).bind fun r208 =>
                      asSIBT r208.v fun s113 i116 b207 =>
                      bif !(b207 == (decide ((i1 : Int) > 57343))) then
                        (some ⟨AV.bool false, false, []⟩)
                      else
                        bif b207 then
                          (bif !(s113 == ((Utf8.encode (IntKind.i32.wrap i1)).data.toList)) then
                            (some ⟨AV.bool false, false, []⟩)
                          else
                            bif decide ((i1 : Int) > 255) then
                              ((R id_law06Wakes []).bind fun r209 =>
                              asB r209.v fun b208 =>
                              some ⟨AV.bool b208, false, []⟩)
                            else
                              need (decide (0 ≤ (6 : Int)) && decide ((6 : Int) ≤ ((s69.length : Nat) : Int))) <|
                              need (decide ((([34, 92, 120] : List UInt8) : List UInt8).length + ((s69.take s69.length).drop (Int.toNat 6)).length ≤ 9223372036854775807)) <|
                              need (decide ((([34, 92, 120] : List UInt8) ++ ((s69.take s69.length).drop (Int.toNat 6)) : List UInt8).length + (([34] : List UInt8) : List UInt8).length ≤ 9223372036854775807)) <|
                              (R id_doubleTake [AV.bytes ((([34, 92, 120] : List UInt8) ++ ((s69.take s69.length).drop (Int.toNat 6))) ++ ([34] : List UInt8))]).bind fun r210 =>
                              asSIBT r210.v fun s114 i117 b209 =>
                              need (decide (0 ≤ (7 : Int)) && decide ((7 : Int) ≤ ((s69.length : Nat) : Int))) <|
                              need (decide ((([34, 92, 120] : List UInt8) : List UInt8).length + ((s69.take s69.length).drop (Int.toNat 7)).length ≤ 9223372036854775807)) <|
                              need (decide ((([34, 92, 120] : List UInt8) ++ ((s69.take s69.length).drop (Int.toNat 7)) : List UInt8).length + (([34] : List UInt8) : List UInt8).length ≤ 9223372036854775807)) <|
                              (R id_doubleTake [AV.bytes ((([34, 92, 120] : List UInt8) ++ ((s69.take s69.length).drop (Int.toNat 7))) ++ ([34] : List UInt8))]).bind fun r211 =>
                              asSIBT r211.v fun s115 i118 b210 =>
                              bif b209 then
                                (bif s114 == ((Utf8.encode (IntKind.i32.wrap i1)).data.toList) then
                                  (bif !b210 then
                                    ((R id_law06Wakes []).bind fun r212 =>
                                    asB r212.v fun b211 =>
                                    some ⟨AV.bool b211, false, []⟩)
                                  else
                                    some ⟨AV.bool false, false, []⟩)
                                else
                                  some ⟨AV.bool false, false, []⟩)
                              else
                                some ⟨AV.bool false, false, []⟩)
                        else
                          bif decide ((i1 : Int) > 255) then
                            ((R id_law06Wakes []).bind fun r213 =>
                            asB r213.v fun b212 =>
                            some ⟨AV.bool b212, false, []⟩)
                          else
                            need (decide (0 ≤ (6 : Int)) && decide ((6 : Int) ≤ ((s69.length : Nat) : Int))) <|
                            need (decide ((([34, 92, 120] : List UInt8) : List UInt8).length + ((s69.take s69.length).drop (Int.toNat 6)).length ≤ 9223372036854775807)) <|
                            need (decide ((([34, 92, 120] : List UInt8) ++ ((s69.take s69.length).drop (Int.toNat 6)) : List UInt8).length + (([34] : List UInt8) : List UInt8).length ≤ 9223372036854775807)) <|
                            (R id_doubleTake [AV.bytes ((([34, 92, 120] : List UInt8) ++ ((s69.take s69.length).drop (Int.toNat 6))) ++ ([34] : List UInt8))]).bind fun r214 =>
                            asSIBT r214.v fun s116 i119 b213 =>
                            need (decide (0 ≤ (7 : Int)) && decide ((7 : Int) ≤ ((s69.length : Nat) : Int))) <|
                            need (decide ((([34, 92, 120] : List UInt8) : List UInt8).length + ((s69.take s69.length).drop (Int.toNat 7)).length ≤ 9223372036854775807)) <|
                            need (decide ((([34, 92, 120] : List UInt8) ++ ((s69.take s69.length).drop (Int.toNat 7)) : List UInt8).length + (([34] : List UInt8) : List UInt8).length ≤ 9223372036854775807)) <|
                            (R id_doubleTake [AV.bytes ((([34, 92, 120] : List UInt8) ++ ((s69.take s69.length).drop (Int.toNat 7))) ++ ([34] : List UInt8))]).bind fun r215 =>
                            asSIBT r215.v fun s117 i120 b214 =>
                            bif b213 then
                              (bif s116 == ((Utf8.encode (IntKind.i32.wrap i1)).data.toList) then
                                (bif !b214 then
                                  ((R id_law06Wakes []).bind fun r216 =>
                                  asB r216.v fun b215 =>
                                  some ⟨AV.bool b215, false, []⟩)
                                else
                                  some ⟨AV.bool false, false, []⟩)
                              else
                                some ⟨AV.bool false, false, []⟩)
                            else
                              some ⟨AV.bool false, false, []⟩)
              else
                bif decide ((i1 : Int) > 65535) then
                  ((R id_law06Wakes []).bind fun r217 =>
                  asB r217.v fun b216 =>
                  some ⟨AV.bool b216, false, []⟩)
                else
                  need (decide (0 ≤ (4 : Int)) && decide ((4 : Int) ≤ ((s69.length : Nat) : Int))) <|
                  need (decide ((([34, 92, 117] : List UInt8) : List UInt8).length + ((s69.take s69.length).drop (Int.toNat 4)).length ≤ 9223372036854775807)) <|
                  need (decide ((([34, 92, 117] : List UInt8) ++ ((s69.take s69.length).drop (Int.toNat 4)) : List UInt8).length + (([34] : List UInt8) : List UInt8).length ≤ 9223372036854775807)) <|
                  (R id_doubleTake [AV.bytes ((([34, 92, 117] : List UInt8) ++ ((s69.take s69.length).drop (Int.toNat 4))) ++ ([34] : List UInt8))]).bind fun r218 =>
                  asSIBT r218.v fun s118 i121 b217 =>
                  bif !(b217 == (decide ((i1 : Int) > 57343))) then
                    (some ⟨AV.bool false, false, []⟩)
                  else
                    bif b217 then
                      (bif !(s118 == ((Utf8.encode (IntKind.i32.wrap i1)).data.toList)) then
                        (some ⟨AV.bool false, false, []⟩)
                      else
                        bif decide ((i1 : Int) > 255) then
                          ((R id_law06Wakes []).bind fun r219 =>
                          asB r219.v fun b218 =>
                          some ⟨AV.bool b218, false, []⟩)
                        else
                          need (decide (0 ≤ (6 : Int)) && decide ((6 : Int) ≤ ((s69.length : Nat) : Int))) <|
                          need (decide ((([34, 92, 120] : List UInt8) : List UInt8).length + ((s69.take s69.length).drop (Int.toNat 6)).length ≤ 9223372036854775807)) <|
                          need (decide ((([34, 92, 120] : List UInt8) ++ ((s69.take s69.length).drop (Int.toNat 6)) : List UInt8).length + (([34] : List UInt8) : List UInt8).length ≤ 9223372036854775807)) <|
                          (R id_doubleTake [AV.bytes ((([34, 92, 120] : List UInt8) ++ ((s69.take s69.length).drop (Int.toNat 6))) ++ ([34] : List UInt8))]).bind fun r220 =>
                          asSIBT r220.v fun s119 i122 b219 =>
                          need (decide (0 ≤ (7 : Int)) && decide ((7 : Int) ≤ ((s69.length : Nat) : Int))) <|
                          need (decide ((([34, 92, 120] : List UInt8) : List UInt8).length + ((s69.take s69.length).drop (Int.toNat 7)).length ≤ 9223372036854775807)) <|
                          need (decide ((([34, 92, 120] : List UInt8) ++ ((s69.take s69.length).drop (Int.toNat 7)) : List UInt8).length + (([34] : List UInt8) : List UInt8).length ≤ 9223372036854775807)) <|
                          (R id_doubleTake [AV.bytes ((([34, 92, 120] : List UInt8) ++ ((s69.take s69.length).drop (Int.toNat 7))) ++ ([34] : List UInt8))]).bind fun r221 =>
                          asSIBT r221.v fun s120 i123 b220 =>
                          bif b219 then
                            (bif s119 == ((Utf8.encode (IntKind.i32.wrap i1)).data.toList) then
                              (bif !b220 then
                                ((R id_law06Wakes []).bind fun r222 =>
                                asB r222.v fun b221 =>
                                some ⟨AV.bool b221, false, []⟩)
                              else
                                some ⟨AV.bool false, false, []⟩)
                            else
                              some ⟨AV.bool false, false, []⟩)
                          else
                            some ⟨AV.bool false, false, []⟩)
                    else
                      bif decide ((i1 : Int) > 255) then
                        ((R id_law06Wakes []).bind fun r223 =>
                        asB r223.v fun b222 =>
                        some ⟨AV.bool b222, false, []⟩)
                      else
                        need (decide (0 ≤ (6 : Int)) && decide ((6 : Int) ≤ ((s69.length : Nat) : Int))) <|
                        need (decide ((([34, 92, 120] : List UInt8) : List UInt8).length + ((s69.take s69.length).drop (Int.toNat 6)).length ≤ 9223372036854775807)) <|
                        need (decide ((([34, 92, 120] : List UInt8) ++ ((s69.take s69.length).drop (Int.toNat 6)) : List UInt8).length + (([34] : List UInt8) : List UInt8).length ≤ 9223372036854775807)) <|
                        (R id_doubleTake [AV.bytes ((([34, 92, 120] : List UInt8) ++ ((s69.take s69.length).drop (Int.toNat 6))) ++ ([34] : List UInt8))]).bind fun r224 =>
                        asSIBT r224.v fun s121 i124 b223 =>
                        need (decide (0 ≤ (7 : Int)) && decide ((7 : Int) ≤ ((s69.length : Nat) : Int))) <|
                        need (decide ((([34, 92, 120] : List UInt8) : List UInt8).length + ((s69.take s69.length).drop (Int.toNat 7)).length ≤ 9223372036854775807)) <|
                        need (decide ((([34, 92, 120] : List UInt8) ++ ((s69.take s69.length).drop (Int.toNat 7)) : List UInt8).length + (([34] : List UInt8) : List UInt8).length ≤ 9223372036854775807)) <|
                        (R id_doubleTake [AV.bytes ((([34, 92, 120] : List UInt8) ++ ((s69.take s69.length).drop (Int.toNat 7))) ++ ([34] : List UInt8))]).bind fun r225 =>
                        asSIBT r225.v fun s122 i125 b224 =>
                        bif b223 then
                          (bif s121 == ((Utf8.encode (IntKind.i32.wrap i1)).data.toList) then
                            (bif !b224 then
                              ((R id_law06Wakes []).bind fun r226 =>
                              asB r226.v fun b225 =>
                              some ⟨AV.bool b225, false, []⟩)
                            else
                              some ⟨AV.bool false, false, []⟩)
                          else
                            some ⟨AV.bool false, false, []⟩)
                        else
                          some ⟨AV.bool false, false, []⟩)
        else
          bif !(b185 == false) then
            (some ⟨AV.bool false, false, []⟩)
          else
            bif b185 then
              (bif !(s102 == ((Utf8.encode (IntKind.i32.wrap i1)).data.toList)) then
                (some ⟨AV.bool false, false, []⟩)
              else
                bif (i105 : Int) != 12 then
                  (some ⟨AV.bool false, false, []⟩)
                else
                  bif decide ((i1 : Int) > 65535) then
                    ((R id_law06Wakes []).bind fun r227 =>
                    asB r227.v fun b226 =>
                    some ⟨AV.bool b226, false, []⟩)
                  else
                    need (decide (0 ≤ (4 : Int)) && decide ((4 : Int) ≤ ((s69.length : Nat) : Int))) <|
                    need (decide ((([34, 92, 117] : List UInt8) : List UInt8).length + ((s69.take s69.length).drop (Int.toNat 4)).length ≤ 9223372036854775807)) <|
                    need (decide ((([34, 92, 117] : List UInt8) ++ ((s69.take s69.length).drop (Int.toNat 4)) : List UInt8).length + (([34] : List UInt8) : List UInt8).length ≤ 9223372036854775807)) <|
                    (R id_doubleTake [AV.bytes ((([34, 92, 117] : List UInt8) ++ ((s69.take s69.length).drop (Int.toNat 4))) ++ ([34] : List UInt8))]).bind fun r228 =>
                    asSIBT r228.v fun s123 i126 b227 =>
                    bif !(b227 == false) then
                      (some ⟨AV.bool false, false, []⟩)
                    else
                      bif b227 then
                        (bif !(s123 == ((Utf8.encode (IntKind.i32.wrap i1)).data.toList)) then
                          (some ⟨AV.bool false, false, []⟩)
                        else
                          bif decide ((i1 : Int) > 255) then
                            ((R id_law06Wakes []).bind fun r229 =>
                            asB r229.v fun b228 =>
                            some ⟨AV.bool b228, false, []⟩)
                          else
                            need (decide (0 ≤ (6 : Int)) && decide ((6 : Int) ≤ ((s69.length : Nat) : Int))) <|
                            need (decide ((([34, 92, 120] : List UInt8) : List UInt8).length + ((s69.take s69.length).drop (Int.toNat 6)).length ≤ 9223372036854775807)) <|
                            need (decide ((([34, 92, 120] : List UInt8) ++ ((s69.take s69.length).drop (Int.toNat 6)) : List UInt8).length + (([34] : List UInt8) : List UInt8).length ≤ 9223372036854775807)) <|
                            (R id_doubleTake [AV.bytes ((([34, 92, 120] : List UInt8) ++ ((s69.take s69.length).drop (Int.toNat 6))) ++ ([34] : List UInt8))]).bind fun r230 =>
                            asSIBT r230.v fun s124 i127 b229 =>
                            need (decide (0 ≤ (7 : Int)) && decide ((7 : Int) ≤ ((s69.length : Nat) : Int))) <|
                            need (decide ((([34, 92, 120] : List UInt8) : List UInt8).length + ((s69.take s69.length).drop (Int.toNat 7)).length ≤ 9223372036854775807)) <|
                            need (decide ((([34, 92, 120] : List UInt8) ++ ((s69.take s69.length).drop (Int.toNat 7)) : List UInt8).length + (([34] : List UInt8) : List UInt8).length ≤ 9223372036854775807)) <|
                            (R id_doubleTake [AV.bytes ((([34, 92, 120] : List UInt8) ++ ((s69.take s69.length).drop (Int.toNat 7))) ++ ([34] : List UInt8))]).bind fun r231 =>
                            asSIBT r231.v fun s125 i128 b230 =>
                            bif b229 then
                              (bif s124 == ((Utf8.encode (IntKind.i32.wrap i1)).data.toList) then
                                (bif !b230 then
                                  ((R id_law06Wakes []).bind fun r232 =>
                                  asB r232.v fun b231 =>
                                  some ⟨AV.bool b231, false, []⟩)
                                else
                                  some ⟨AV.bool false, false, []⟩)
                              else
                                some ⟨AV.bool false, false, []⟩)
                            else
                              some ⟨AV.bool false, false, []⟩)
                      else
                        bif decide ((i1 : Int) > 255) then
                          ((R id_law06Wakes []).bind fun r233 =>
                          asB r233.v fun b232 =>
                          some ⟨AV.bool b232, false, []⟩)
                        else
                          need (decide (0 ≤ (6 : Int)) && decide ((6 : Int) ≤ ((s69.length : Nat) : Int))) <|
                          need (decide ((([34, 92, 120] : List UInt8) : List UInt8).length + ((s69.take s69.length).drop (Int.toNat 6)).length ≤ 9223372036854775807)) <|
                          need (decide ((([34, 92, 120] : List UInt8) ++ ((s69.take s69.length).drop (Int.toNat 6)) : List UInt8).length + (([34] : List UInt8) : List UInt8).length ≤ 9223372036854775807)) <|
                          (R id_doubleTake [AV.bytes ((([34, 92, 120] : List UInt8) ++ ((s69.take s69.length).drop (Int.toNat 6))) ++ ([34] : List UInt8))]).bind fun r234 =>
                          asSIBT r234.v fun s126 i129 b233 =>
                          need (decide (0 ≤ (7 : Int)) && decide ((7 : Int) ≤ ((s69.length : Nat) : Int))) <|
                          need (decide ((([34, 92, 120] : List UInt8) : List UInt8).length + ((s69.take s69.length).drop (Int.toNat 7)).length ≤ 9223372036854775807)) <|
                          need (decide ((([34, 92, 120] : List UInt8) ++ ((s69.take s69.length).drop (Int.toNat 7)) : List UInt8).length + (([34] : List UInt8) : List UInt8).length ≤ 9223372036854775807)) <|
                          (R id_doubleTake [AV.bytes ((([34, 92, 120] : List UInt8) ++ ((s69.take s69.length).drop (Int.toNat 7))) ++ ([34] : List UInt8))]).bind fun r235 =>
                          asSIBT r235.v fun s127 i130 b234 =>
                          bif b233 then
                            (bif s126 == ((Utf8.encode (IntKind.i32.wrap i1)).data.toList) then
                              (bif !b234 then
                                ((R id_law06Wakes []).bind fun r236 =>
                                asB r236.v fun b235 =>
                                some ⟨AV.bool b235, false, []⟩)
                              else
                                some ⟨AV.bool false, false, []⟩)
                            else
                              some ⟨AV.bool false, false, []⟩)
                          else
                            some ⟨AV.bool false, false, []⟩)
            else
              bif decide ((i1 : Int) > 65535) then
                ((R id_law06Wakes []).bind fun r237 =>
                asB r237.v fun b236 =>
                some ⟨AV.bool b236, false, []⟩)
              else
                need (decide (0 ≤ (4 : Int)) && decide ((4 : Int) ≤ ((s69.length : Nat) : Int))) <|
                need (decide ((([34, 92, 117] : List UInt8) : List UInt8).length + ((s69.take s69.length).drop (Int.toNat 4)).length ≤ 9223372036854775807)) <|
                need (decide ((([34, 92, 117] : List UInt8) ++ ((s69.take s69.length).drop (Int.toNat 4)) : List UInt8).length + (([34] : List UInt8) : List UInt8).length ≤ 9223372036854775807)) <|
                (R id_doubleTake [AV.bytes ((([34, 92, 117] : List UInt8) ++ ((s69.take s69.length).drop (Int.toNat 4))) ++ ([34] : List UInt8))]).bind fun r238 =>
                asSIBT r238.v fun s128 i131 b237 =>
                bif !(b237 == false) then
                  (some ⟨AV.bool false, false, []⟩)
                else
                  bif b237 then
                    (bif !(s128 == ((Utf8.encode (IntKind.i32.wrap i1)).data.toList)) then
                      (some ⟨AV.bool false, false, []⟩)
                    else
                      bif decide ((i1 : Int) > 255) then
                        ((R id_law06Wakes []).bind fun r239 =>
                        asB r239.v fun b238 =>
                        some ⟨AV.bool b238, false, []⟩)
                      else
                        need (decide (0 ≤ (6 : Int)) && decide ((6 : Int) ≤ ((s69.length : Nat) : Int))) <|
                        need (decide ((([34, 92, 120] : List UInt8) : List UInt8).length + ((s69.take s69.length).drop (Int.toNat 6)).length ≤ 9223372036854775807)) <|
                        need (decide ((([34, 92, 120] : List UInt8) ++ ((s69.take s69.length).drop (Int.toNat 6)) : List UInt8).length + (([34] : List UInt8) : List UInt8).length ≤ 9223372036854775807)) <|
                        (R id_doubleTake [AV.bytes ((([34, 92, 120] : List UInt8) ++ ((s69.take s69.length).drop (Int.toNat 6))) ++ ([34] : List UInt8))]).bind fun r240 =>
                        asSIBT r240.v fun s129 i132 b239 =>
                        need (decide (0 ≤ (7 : Int)) && decide ((7 : Int) ≤ ((s69.length : Nat) : Int))) <|
                        need (decide ((([34, 92, 120] : List UInt8) : List UInt8).length + ((s69.take s69.length).drop (Int.toNat 7)).length ≤ 9223372036854775807)) <|
                        need (decide ((([34, 92, 120] : List UInt8) ++ ((s69.take s69.length).drop (Int.toNat 7)) : List UInt8).length + (([34] : List UInt8) : List UInt8).length ≤ 9223372036854775807)) <|
                        (R id_doubleTake [AV.bytes ((([34, 92, 120] : List UInt8) ++ ((s69.take s69.length).drop (Int.toNat 7))) ++ ([34] : List UInt8))]).bind fun r241 =>
                        asSIBT r241.v fun s130 i133 b240 =>
                        bif b239 then
                          (bif s129 == ((Utf8.encode (IntKind.i32.wrap i1)).data.toList) then
                            (bif !b240 then
                              ((R id_law06Wakes []).bind fun r242 =>
                              asB r242.v fun b241 =>
                              some ⟨AV.bool b241, false, []⟩)
                            else
                              some ⟨AV.bool false, false, []⟩)
                          else
                            some ⟨AV.bool false, false, []⟩)
                        else
                          some ⟨AV.bool false, false, []⟩)
                  else
                    bif decide ((i1 : Int) > 255) then
                      ((R id_law06Wakes []).bind fun r243 =>
                      asB r243.v fun b242 =>
                      some ⟨AV.bool b242, false, []⟩)
                    else
                      need (decide (0 ≤ (6 : Int)) && decide ((6 : Int) ≤ ((s69.length : Nat) : Int))) <|
                      need (decide ((([34, 92, 120] : List UInt8) : List UInt8).length + ((s69.take s69.length).drop (Int.toNat 6)).length ≤ 9223372036854775807)) <|
                      need (decide ((([34, 92, 120] : List UInt8) ++ ((s69.take s69.length).drop (Int.toNat 6)) : List UInt8).length + (([34] : List UInt8) : List UInt8).length ≤ 9223372036854775807)) <|
                      (R id_doubleTake [AV.bytes ((([34, 92, 120] : List UInt8) ++ ((s69.take s69.length).drop (Int.toNat 6))) ++ ([34] : List UInt8))]).bind fun r244 =>
                      asSIBT r244.v fun s131 i134 b243 =>
                      need (decide (0 ≤ (7 : Int)) && decide ((7 : Int) ≤ ((s69.length : Nat) : Int))) <|
                      need (decide ((([34, 92, 120] : List UInt8) : List UInt8).length + ((s69.take s69.length).drop (Int.toNat 7)).length ≤ 9223372036854775807)) <|
                      need (decide ((([34, 92, 120] : List UInt8) ++ ((s69.take s69.length).drop (Int.toNat 7)) : List UInt8).length + (([34] : List UInt8) : List UInt8).length ≤ 9223372036854775807)) <|
                      (R id_doubleTake [AV.bytes ((([34, 92, 120] : List UInt8) ++ ((s69.take s69.length).drop (Int.toNat 7))) ++ ([34] : List UInt8))]).bind fun r245 =>
                      asSIBT r245.v fun s132 i135 b244 =>
                      bif b243 then
                        (bif s131 == ((Utf8.encode (IntKind.i32.wrap i1)).data.toList) then
                          (bif !b244 then
                            ((R id_law06Wakes []).bind fun r246 =>
                            asB r246.v fun b245 =>
                            some ⟨AV.bool b245, false, []⟩)
                          else
                            some ⟨AV.bool false, false, []⟩)
                        else
                          some ⟨AV.bool false, false, []⟩)
                      else
                        some ⟨AV.bool false, false, []⟩
theorem law06DoubleRunes_eq (R : Nat → List AV → Option Res) (N : Nat) (i1 : Int) (b1 : Bool) : runF gl R N law06DoubleRunes [AV.int .u32 i1, AV.bool b1] = law06DoubleRunesr R N i1 b1 := by
  refine Eq.trans (b :=
      need (!decide (4 = 0)) <|
      bif ((Int.tmod i1 4) : Int) != 3 then
        (need (!decide (1118208 = 0)) <|
        (R id_doubleHex [AV.int .u32 (Int.tmod i1 1118208), AV.int .i64 8]).bind fun r1 =>
        asS r1.v fun s1 =>
        bif (((s1.length : Nat) : Int) : Int) != 8 then
          (some ⟨AV.bool false, false, []⟩)
        else
          bif b1 then
            (rounds [0, 6, 31, 32] [29] (evC gl R N law06DoubleRunes_c0) (Kblock 0 (Kthen gl R N law06DoubleRunes_c1 (Kthen gl R N law06DoubleRunes_c2 (Kret law06DoubleRunes.rets [])))) N ⟨[(0, .imm (AV.int .u32 (Int.tmod i1 1118208))), (6, .own 29 0 s1.length none), (31, .imm (AV.int .i64 ((s1.length : Nat) : Int))), (32, .imm (AV.int .i64 0))], [(29, .bytes s1 false)]⟩)
          else
            need (decide ((([34, 92, 85] : List UInt8) : List UInt8).length + s1.length ≤ 9223372036854775807)) <|
            need (decide ((([34, 92, 85] : List UInt8) ++ s1 : List UInt8).length + (([34] : List UInt8) : List UInt8).length ≤ 9223372036854775807)) <|
            (R id_doubleTake [AV.bytes ((([34, 92, 85] : List UInt8) ++ s1) ++ ([34] : List UInt8))]).bind fun r63 =>
            asSIBT r63.v fun s38 i42 b63 =>
            bif decide (((Int.tmod i1 1118208) : Int) ≤ 1114111) then
              (bif decide (((Int.tmod i1 1118208) : Int) < 55296) then
                (bif !(b63 == true) then
                  (some ⟨AV.bool false, false, []⟩)
                else
                  bif b63 then
                    (bif !(s38 == ((Utf8.encode (IntKind.i32.wrap (Int.tmod i1 1118208))).data.toList)) then
                      (some ⟨AV.bool false, false, []⟩)
                    else
                      bif (i42 : Int) != 12 then
                        (some ⟨AV.bool false, false, []⟩)
                      else
                        bif decide (((Int.tmod i1 1118208) : Int) > 65535) then
                          ((R id_law06Wakes []).bind fun r64 =>
                          asB r64.v fun b64 =>
                          some ⟨AV.bool b64, false, []⟩)
                        else
                          need (decide (0 ≤ (4 : Int)) && decide ((4 : Int) ≤ ((s1.length : Nat) : Int))) <|
                          need (decide ((([34, 92, 117] : List UInt8) : List UInt8).length + ((s1.take s1.length).drop (Int.toNat 4)).length ≤ 9223372036854775807)) <|
                          need (decide ((([34, 92, 117] : List UInt8) ++ ((s1.take s1.length).drop (Int.toNat 4)) : List UInt8).length + (([34] : List UInt8) : List UInt8).length ≤ 9223372036854775807)) <|
                          (R id_doubleTake [AV.bytes ((([34, 92, 117] : List UInt8) ++ ((s1.take s1.length).drop (Int.toNat 4))) ++ ([34] : List UInt8))]).bind fun r65 =>
                          asSIBT r65.v fun s39 i43 b65 =>
                          bif !(b65 == true) then
                            (some ⟨AV.bool false, false, []⟩)
                          else
                            bif b65 then
                              (bif !(s39 == ((Utf8.encode (IntKind.i32.wrap (Int.tmod i1 1118208))).data.toList)) then
                                (some ⟨AV.bool false, false, []⟩)
                              else
                                bif decide (((Int.tmod i1 1118208) : Int) > 255) then
                                  ((R id_law06Wakes []).bind fun r66 =>
                                  asB r66.v fun b66 =>
                                  some ⟨AV.bool b66, false, []⟩)
                                else
                                  need (decide (0 ≤ (6 : Int)) && decide ((6 : Int) ≤ ((s1.length : Nat) : Int))) <|
                                  need (decide ((([34, 92, 120] : List UInt8) : List UInt8).length + ((s1.take s1.length).drop (Int.toNat 6)).length ≤ 9223372036854775807)) <|
                                  need (decide ((([34, 92, 120] : List UInt8) ++ ((s1.take s1.length).drop (Int.toNat 6)) : List UInt8).length + (([34] : List UInt8) : List UInt8).length ≤ 9223372036854775807)) <|
                                  (R id_doubleTake [AV.bytes ((([34, 92, 120] : List UInt8) ++ ((s1.take s1.length).drop (Int.toNat 6))) ++ ([34] : List UInt8))]).bind fun r67 =>
                                  asSIBT r67.v fun s40 i44 b67 =>
                                  need (decide (0 ≤ (7 : Int)) && decide ((7 : Int) ≤ ((s1.length : Nat) : Int))) <|
                                  need (decide ((([34, 92, 120] : List UInt8) : List UInt8).length + ((s1.take s1.length).drop (Int.toNat 7)).length ≤ 9223372036854775807)) <|
                                  need (decide ((([34, 92, 120] : List UInt8) ++ ((s1.take s1.length).drop (Int.toNat 7)) : List UInt8).length + (([34] : List UInt8) : List UInt8).length ≤ 9223372036854775807)) <|
                                  (R id_doubleTake [AV.bytes ((([34, 92, 120] : List UInt8) ++ ((s1.take s1.length).drop (Int.toNat 7))) ++ ([34] : List UInt8))]).bind fun r68 =>
                                  asSIBT r68.v fun s41 i45 b68 =>
                                  bif b67 then
                                    (bif s40 == ((Utf8.encode (IntKind.i32.wrap (Int.tmod i1 1118208))).data.toList) then
                                      (bif !b68 then
                                        ((R id_law06Wakes []).bind fun r69 =>
                                        asB r69.v fun b69 =>
                                        some ⟨AV.bool b69, false, []⟩)
                                      else
                                        some ⟨AV.bool false, false, []⟩)
                                    else
                                      some ⟨AV.bool false, false, []⟩)
                                  else
                                    some ⟨AV.bool false, false, []⟩)
                            else
                              bif decide (((Int.tmod i1 1118208) : Int) > 255) then
                                ((R id_law06Wakes []).bind fun r70 =>
                                asB r70.v fun b70 =>
                                some ⟨AV.bool b70, false, []⟩)
                              else
                                need (decide (0 ≤ (6 : Int)) && decide ((6 : Int) ≤ ((s1.length : Nat) : Int))) <|
                                need (decide ((([34, 92, 120] : List UInt8) : List UInt8).length + ((s1.take s1.length).drop (Int.toNat 6)).length ≤ 9223372036854775807)) <|
                                need (decide ((([34, 92, 120] : List UInt8) ++ ((s1.take s1.length).drop (Int.toNat 6)) : List UInt8).length + (([34] : List UInt8) : List UInt8).length ≤ 9223372036854775807)) <|
                                (R id_doubleTake [AV.bytes ((([34, 92, 120] : List UInt8) ++ ((s1.take s1.length).drop (Int.toNat 6))) ++ ([34] : List UInt8))]).bind fun r71 =>
                                asSIBT r71.v fun s42 i46 b71 =>
                                need (decide (0 ≤ (7 : Int)) && decide ((7 : Int) ≤ ((s1.length : Nat) : Int))) <|
                                need (decide ((([34, 92, 120] : List UInt8) : List UInt8).length + ((s1.take s1.length).drop (Int.toNat 7)).length ≤ 9223372036854775807)) <|
                                need (decide ((([34, 92, 120] : List UInt8) ++ ((s1.take s1.length).drop (Int.toNat 7)) : List UInt8).length + (([34] : List UInt8) : List UInt8).length ≤ 9223372036854775807)) <|
                                (R id_doubleTake [AV.bytes ((([34, 92, 120] : List UInt8) ++ ((s1.take s1.length).drop (Int.toNat 7))) ++ ([34] : List UInt8))]).bind fun r72 =>
                                asSIBT r72.v fun s43 i47 b72 =>
                                bif b71 then
                                  (bif s42 == ((Utf8.encode (IntKind.i32.wrap (Int.tmod i1 1118208))).data.toList) then
                                    (bif !b72 then
                                      ((R id_law06Wakes []).bind fun r73 =>
                                      asB r73.v fun b73 =>
                                      some ⟨AV.bool b73, false, []⟩)
                                    else
                                      some ⟨AV.bool false, false, []⟩)
                                  else
                                    some ⟨AV.bool false, false, []⟩)
                                else
                                  some ⟨AV.bool false, false, []⟩)
                  else
                    bif decide (((Int.tmod i1 1118208) : Int) > 65535) then
                      ((R id_law06Wakes []).bind fun r74 =>
                      asB r74.v fun b74 =>
                      some ⟨AV.bool b74, false, []⟩)
                    else
                      need (decide (0 ≤ (4 : Int)) && decide ((4 : Int) ≤ ((s1.length : Nat) : Int))) <|
                      need (decide ((([34, 92, 117] : List UInt8) : List UInt8).length + ((s1.take s1.length).drop (Int.toNat 4)).length ≤ 9223372036854775807)) <|
                      need (decide ((([34, 92, 117] : List UInt8) ++ ((s1.take s1.length).drop (Int.toNat 4)) : List UInt8).length + (([34] : List UInt8) : List UInt8).length ≤ 9223372036854775807)) <|
                      (R id_doubleTake [AV.bytes ((([34, 92, 117] : List UInt8) ++ ((s1.take s1.length).drop (Int.toNat 4))) ++ ([34] : List UInt8))]).bind fun r75 =>
                      asSIBT r75.v fun s44 i48 b75 =>
                      bif !(b75 == true) then
                        (some ⟨AV.bool false, false, []⟩)
                      else
                        bif b75 then
                          (bif !(s44 == ((Utf8.encode (IntKind.i32.wrap (Int.tmod i1 1118208))).data.toList)) then
                            (some ⟨AV.bool false, false, []⟩)
                          else
                            bif decide (((Int.tmod i1 1118208) : Int) > 255) then
                              ((R id_law06Wakes []).bind fun r76 =>
                              asB r76.v fun b76 =>
                              some ⟨AV.bool b76, false, []⟩)
                            else
                              need (decide (0 ≤ (6 : Int)) && decide ((6 : Int) ≤ ((s1.length : Nat) : Int))) <|
                              need (decide ((([34, 92, 120] : List UInt8) : List UInt8).length + ((s1.take s1.length).drop (Int.toNat 6)).length ≤ 9223372036854775807)) <|
                              need (decide ((([34, 92, 120] : List UInt8) ++ ((s1.take s1.length).drop (Int.toNat 6)) : List UInt8).length + (([34] : List UInt8) : List UInt8).length ≤ 9223372036854775807)) <|
                              (R id_doubleTake [AV.bytes ((([34, 92, 120] : List UInt8) ++ ((s1.take s1.length).drop (Int.toNat 6))) ++ ([34] : List UInt8))]).bind fun r77 =>
                              asSIBT r77.v fun s45 i49 b77 =>
                              need (decide (0 ≤ (7 : Int)) && decide ((7 : Int) ≤ ((s1.length : Nat) : Int))) <|
                              need (decide ((([34, 92, 120] : List UInt8) : List UInt8).length + ((s1.take s1.length).drop (Int.toNat 7)).length ≤ 9223372036854775807)) <|
                              need (decide ((([34, 92, 120] : List UInt8) ++ ((s1.take s1.length).drop (Int.toNat 7)) : List UInt8).length + (([34] : List UInt8) : List UInt8).length ≤ 9223372036854775807)) <|
                              (R id_doubleTake [AV.bytes ((([34, 92, 120] : List UInt8) ++ ((s1.take s1.length).drop (Int.toNat 7))) ++ ([34] : List UInt8))]).bind fun r78 =>
                              asSIBT r78.v fun s46 i50 b78 =>
                              bif b77 then
                                (bif s45 == ((Utf8.encode (IntKind.i32.wrap (Int.tmod i1 1118208))).data.toList) then
                                  (bif !b78 then
                                    ((R id_law06Wakes []).bind fun r79 =>
                                    asB r79.v fun b79 =>
                                    some ⟨AV.bool b79, false, []⟩)
                                  else
                                    some ⟨AV.bool false, false, []⟩)
                                else
                                  some ⟨AV.bool false, false, []⟩)
                              else
                                some ⟨AV.bool false, false, []⟩)
                        else
                          bif decide (((Int.tmod i1 1118208) : Int) > 255) then
                            ((R id_law06Wakes []).bind fun r80 =>
                            asB r80.v fun b80 =>
                            some ⟨AV.bool b80, false, []⟩)
                          else
                            need (decide (0 ≤ (6 : Int)) && decide ((6 : Int) ≤ ((s1.length : Nat) : Int))) <|
                            need (decide ((([34, 92, 120] : List UInt8) : List UInt8).length + ((s1.take s1.length).drop (Int.toNat 6)).length ≤ 9223372036854775807)) <|
                            need (decide ((([34, 92, 120] : List UInt8) ++ ((s1.take s1.length).drop (Int.toNat 6)) : List UInt8).length + (([34] : List UInt8) : List UInt8).length ≤ 9223372036854775807)) <|
                            (R id_doubleTake [AV.bytes ((([34, 92, 120] : List UInt8) ++ ((s1.take s1.length).drop (Int.toNat 6))) ++ ([34] : List UInt8))]).bind fun r81 =>
                            asSIBT r81.v fun s47 i51 b81 =>
                            need (decide (0 ≤ (7 : Int)) && decide ((7 : Int) ≤ ((s1.length : Nat) : Int))) <|
                            need (decide ((([34, 92, 120] : List UInt8) : List UInt8).length + ((s1.take s1.length).drop (Int.toNat 7)).length ≤ 9223372036854775807)) <|
                            need (decide ((([34, 92, 120] : List UInt8) ++ ((s1.take s1.length).drop (Int.toNat 7)) : List UInt8).length + (([34] : List UInt8) : List UInt8).length ≤ 9223372036854775807)) <|
                            (R id_doubleTake [AV.bytes ((([34, 92, 120] : List UInt8) ++ ((s1.take s1.length).drop (Int.toNat 7))) ++ ([34] : List UInt8))]).bind fun r82 =>
                            asSIBT r82.v fun s48 i52 b82 =>
                            bif b81 then
                              (bif s47 == ((Utf8.encode (IntKind.i32.wrap (Int.tmod i1 1118208))).data.toList) then
                                (bif !b82 then
                                  ((R id_law06Wakes []).bind fun r83 =>
                                  asB r83.v fun b83 =>
                                  some ⟨AV.bool b83, false, []⟩)
                                else
                                  some ⟨AV.bool false, false, []⟩)
                              else
                                some ⟨AV.bool false, false, []⟩)
                            else
                              some ⟨AV.bool false, false, []⟩)
              else
                bif !(b63 == (decide (((Int.tmod i1 1118208) : Int) > 57343))) then
                  (some ⟨AV.bool false, false, []⟩)
                else
                  bif b63 then
                    (bif !(s38 == ((Utf8.encode (IntKind.i32.wrap (Int.tmod i1 1118208))).data.toList)) then
                      (some ⟨AV.bool false, false, []⟩)
                    else
                      bif (i42 : Int) != 12 then
                        (some ⟨AV.bool false, false, []⟩)
                      else
                        bif decide (((Int.tmod i1 1118208) : Int) > 65535) then
                          ((R id_law06Wakes []).bind fun r84 =>
                          asB r84.v fun b84 =>
                          some ⟨AV.bool b84, false, []⟩)
                        else
                          need (decide (0 ≤ (4 : Int)) && decide ((4 : Int) ≤ ((s1.length : Nat) : Int))) <|
                          need (decide ((([34, 92, 117] : List UInt8) : List UInt8).length + ((s1.take s1.length).drop (Int.toNat 4)).length ≤ 9223372036854775807)) <|
                          need (decide ((([34, 92, 117] : List UInt8) ++ ((s1.take s1.length).drop (Int.toNat 4)) : List UInt8).length + (([34] : List UInt8) : List UInt8).length ≤ 9223372036854775807)) <|
                          (R id_doubleTake [AV.bytes ((([34, 92, 117] : List UInt8) ++ ((s1.take s1.length).drop (Int.toNat 4))) ++ ([34] : List UInt8))]).bind fun r85 =>
                          asSIBT r85.v fun s49 i53 b85 =>
                          bif !(b85 == (decide (((Int.tmod i1 1118208) : Int) > 57343))) then
                            (some ⟨AV.bool false, false, []⟩)
                          else
                            bif b85 then
                              (bif !(s49 == ((Utf8.encode (IntKind.i32.wrap (Int.tmod i1 1118208))).data.toList)) then
                                (some ⟨AV.bool false, false, []⟩)
                              else
                                bif decide (((Int.tmod i1 1118208) : Int) > 255) then
                                  ((R id_law06Wakes []).bind fun r86 =>
                                  asB r86.v fun b86 =>
                                  some ⟨AV.bool b86, false, []⟩)
                                else
                                  need (decide (0 ≤ (6 : Int)) && decide ((6 : Int) ≤ ((s1.length : Nat) : Int))) <|
                                  need (decide ((([34, 92, 120] : List UInt8) : List UInt8).length + ((s1.take s1.length).drop (Int.toNat 6)).length ≤ 9223372036854775807)) <|
                                  need (decide ((([34, 92, 120] : List UInt8) ++ ((s1.take s1.length).drop (Int.toNat 6)) : List UInt8).length + (([34] : List UInt8) : List UInt8).length ≤ 9223372036854775807)) <|
                                  (R id_doubleTake [AV.bytes ((([34, 92, 120] : List UInt8) ++ ((s1.take s1.length).drop (Int.toNat 6))) ++ ([34] : List UInt8))]).bind fun r87 =>
                                  asSIBT r87.v fun s50 i54 b87 =>
                                  need (decide (0 ≤ (7 : Int)) && decide ((7 : Int) ≤ ((s1.length : Nat) : Int))) <|
                                  need (decide ((([34, 92, 120] : List UInt8) : List UInt8).length + ((s1.take s1.length).drop (Int.toNat 7)).length ≤ 9223372036854775807)) <|
                                  need (decide ((([34, 92, 120] : List UInt8) ++ ((s1.take s1.length).drop (Int.toNat 7)) : List UInt8).length + (([34] : List UInt8) : List UInt8).length ≤ 9223372036854775807)) <|
                                  (R id_doubleTake [AV.bytes ((([34, 92, 120] : List UInt8) ++ ((s1.take s1.length).drop (Int.toNat 7))) ++ ([34] : List UInt8))]).bind fun r88 =>
                                  asSIBT r88.v fun s51 i55 b88 =>
                                  bif b87 then
                                    (bif s50 == ((Utf8.encode (IntKind.i32.wrap (Int.tmod i1 1118208))).data.toList) then
                                      (bif !b88 then
                                        ((R id_law06Wakes []).bind fun r89 =>
                                        asB r89.v fun b89 =>
                                        some ⟨AV.bool b89, false, []⟩)
                                      else
                                        some ⟨AV.bool false, false, []⟩)
                                    else
                                      some ⟨AV.bool false, false, []⟩)
                                  else
                                    some ⟨AV.bool false, false, []⟩)
                            else
                              bif decide (((Int.tmod i1 1118208) : Int) > 255) then
                                ((R id_law06Wakes []).bind fun r90 =>
                                asB r90.v fun b90 =>
                                some ⟨AV.bool b90, false, []⟩)
                              else
                                need (decide (0 ≤ (6 : Int)) && decide ((6 : Int) ≤ ((s1.length : Nat) : Int))) <|
                                need (decide ((([34, 92, 120] : List UInt8) : List UInt8).length + ((s1.take s1.length).drop (Int.toNat 6)).length ≤ 9223372036854775807)) <|
                                need (decide ((([34, 92, 120] : List UInt8) ++ ((s1.take s1.length).drop (Int.toNat 6)) : List UInt8).length + (([34] : List UInt8) : List UInt8).length ≤ 9223372036854775807)) <|
                                (R id_doubleTake [AV.bytes ((([34, 92, 120] : List UInt8) ++ ((s1.take s1.length).drop (Int.toNat 6))) ++ ([34] : List UInt8))]).bind fun r91 =>
                                asSIBT r91.v fun s52 i56 b91 =>
                                need (decide (0 ≤ (7 : Int)) && decide ((7 : Int) ≤ ((s1.length : Nat) : Int))) <|
                                need (decide ((([34, 92, 120] : List UInt8) : List UInt8).length + ((s1.take s1.length).drop (Int.toNat 7)).length ≤ 9223372036854775807)) <|
                                need (decide ((([34, 92, 120] : List UInt8) ++ ((s1.take s1.length).drop (Int.toNat 7)) : List UInt8).length + (([34] : List UInt8) : List UInt8).length ≤ 9223372036854775807)) <|
                                (R id_doubleTake [AV.bytes ((([34, 92, 120] : List UInt8) ++ ((s1.take s1.length).drop (Int.toNat 7))) ++ ([34] : List UInt8))]).bind fun r92 =>
                                asSIBT r92.v fun s53 i57 b92 =>
                                bif b91 then
                                  (bif s52 == ((Utf8.encode (IntKind.i32.wrap (Int.tmod i1 1118208))).data.toList) then
                                    (bif !b92 then
                                      ((R id_law06Wakes []).bind fun r93 =>
                                      asB r93.v fun b93 =>
                                      some ⟨AV.bool b93, false, []⟩)
                                    else
                                      some ⟨AV.bool false, false, []⟩)
                                  else
                                    some ⟨AV.bool false, false, []⟩)
                                else
                                  some ⟨AV.bool false, false, []⟩)
                  else
                    bif decide (((Int.tmod i1 1118208) : Int) > 65535) then
                      ((R id_law06Wakes []).bind fun r94 =>
                      asB r94.v fun b94 =>
                      some ⟨AV.bool b94, false, []⟩)
                    else
                      need (decide (0 ≤ (4 : Int)) && decide ((4 : Int) ≤ ((s1.length : Nat) : Int))) <|
                      need (decide ((([34, 92, 117] : List UInt8) : List UInt8).length + ((s1.take s1.length).drop (Int.toNat 4)).length ≤ 9223372036854775807)) <|
                      need (decide ((([34, 92, 117] : List UInt8) ++ ((s1.take s1.length).drop (Int.toNat 4)) : List UInt8).length + (([34] : List UInt8) : List UInt8).length ≤ 9223372036854775807)) <|
                      (R id_doubleTake [AV.bytes ((([34, 92, 117] : List UInt8) ++ ((s1.take s1.length).drop (Int.toNat 4))) ++ ([34] : List UInt8))]).bind fun r95 =>
                      asSIBT r95.v fun s54 i58 b95 =>
                      bif !(b95 == (decide (((Int.tmod i1 1118208) : Int) > 57343))) then
                        (some ⟨AV.bool false, false, []⟩)
                      else
                        bif b95 then
                          (bif !(s54 == ((Utf8.encode (IntKind.i32.wrap (Int.tmod i1 1118208))).data.toList)) then
                            (some ⟨AV.bool false, false, []⟩)
                          else
                            bif decide (((Int.tmod i1 1118208) : Int) > 255) then
                              ((R id_law06Wakes []).bind fun r96 =>
                              asB r96.v fun b96 =>
                              some ⟨AV.bool b96, false, []⟩)
                            else
                              need (decide (0 ≤ (6 : Int)) && decide ((6 : Int) ≤ ((s1.length : Nat) : Int))) <|
                              need (decide ((([34, 92, 120] : List UInt8) : List UInt8).length + ((s1.take s1.length).drop (Int.toNat 6)).length ≤ 9223372036854775807)) <|
                              need (decide ((([34, 92, 120] : List UInt8) ++ ((s1.take s1.length).drop (Int.toNat 6)) : List UInt8).length + (([34] : List UInt8) : List UInt8).length ≤ 9223372036854775807)) <|
                              (R id_doubleTake [AV.bytes ((([34, 92, 120] : List UInt8) ++ ((s1.take s1.length).drop (Int.toNat 6))) ++ ([34] : List UInt8))]).bind fun r97 =>
                              asSIBT r97.v fun s55 i59 b97 =>
                              need (decide (0 ≤ (7 : Int)) && decide ((7 : Int) ≤ ((s1.length : Nat) : Int))) <|
                              need (decide ((([34, 92, 120] : List UInt8) : List UInt8).length + ((s1.take s1.length).drop (Int.toNat 7)).length ≤ 9223372036854775807)) <|
                              need (decide ((([34, 92, 120] : List UInt8) ++ ((s1.take s1.length).drop (Int.toNat 7)) : List UInt8).length + (([34] : List UInt8) : List UInt8).length ≤ 9223372036854775807)) <|
                              (R id_doubleTake [AV.bytes ((([34, 92, 120] : List UInt8) ++ ((s1.take s1.length).drop (Int.toNat 7))) ++ ([34] : List UInt8))]).bind fun r98 =>
                              asSIBT r98.v fun s56 i60 b98 =>
                              bif b97 then
                                (bif s55 == ((Utf8.encode (IntKind.i32.wrap (Int.tmod i1 1118208))).data.toList) then
                                  (bif !b98 then
                                    ((R id_law06Wakes []).bind fun r99 =>
                                    asB r99.v fun b99 =>
                                    some ⟨AV.bool b99, false, []⟩)
                                  else
                                    some ⟨AV.bool false, false, []⟩)
                                else
                                  some ⟨AV.bool false, false, []⟩)
                              else
                                some ⟨AV.bool false, false, []⟩)
                        else
                          bif decide (((Int.tmod i1 1118208) : Int) > 255) then
                            ((R id_law06Wakes []).bind fun r100 =>
                            asB r100.v fun b100 =>
                            some ⟨AV.bool b100, false, []⟩)
                          else
                            need (decide (0 ≤ (6 : Int)) && decide ((6 : Int) ≤ ((s1.length : Nat) : Int))) <|
                            need (decide ((([34, 92, 120] : List UInt8) : List UInt8).length + ((s1.take s1.length).drop (Int.toNat 6)).length ≤ 9223372036854775807)) <|
                            need (decide ((([34, 92, 120] : List UInt8) ++ ((s1.take s1.length).drop (Int.toNat 6)) : List UInt8).length + (([34] : List UInt8) : List UInt8).length ≤ 9223372036854775807)) <|
                            (R id_doubleTake [AV.bytes ((([34, 92, 120] : List UInt8) ++ ((s1.take s1.length).drop (Int.toNat 6))) ++ ([34] : List UInt8))]).bind fun r101 =>
                            asSIBT r101.v fun s57 i61 b101 =>
                            need (decide (0 ≤ (7 : Int)) && decide ((7 : Int) ≤ ((s1.length : Nat) : Int))) <|
                            need (decide ((([34, 92, 120] : List UInt8) : List UInt8).length + ((s1.take s1.length).drop (Int.toNat 7)).length ≤ 9223372036854775807)) <|
                            need (decide ((([34, 92, 120] : List UInt8) ++ ((s1.take s1.length).drop (Int.toNat 7)) : List UInt8).length + (([34] : List UInt8) : List UInt8).length ≤ 9223372036854775807)) <|
                            (R id_doubleTake [AV.bytes ((([34, 92, 120] : List UInt8) ++ ((s1.take s1.length).drop (Int.toNat 7))) ++ ([34] : List UInt8))]).bind fun r102 =>
                            asSIBT r102.v fun s58 i62 b102 =>
                            bif b101 then
                              (bif s57 == ((Utf8.encode (IntKind.i32.wrap (Int.tmod i1 1118208))).data.toList) then
                                (bif !b102 then
                                  ((R id_law06Wakes []).bind fun r103 =>
                                  asB r103.v fun b103 =>
                                  some ⟨AV.bool b103, false, []⟩)
                                else
                                  some ⟨AV.bool false, false, []⟩)
                              else
                                some ⟨AV.bool false, false, []⟩)
                            else
                              some ⟨AV.bool false, false, []⟩)
            else
              bif !(b63 == false) then
                (some ⟨AV.bool false, false, []⟩)
              else
                bif b63 then
                  (bif !(s38 == ((Utf8.encode (IntKind.i32.wrap (Int.tmod i1 1118208))).data.toList)) then
                    (some ⟨AV.bool false, false, []⟩)
                  else
                    bif (i42 : Int) != 12 then
                      (some ⟨AV.bool false, false, []⟩)
                    else
                      bif decide (((Int.tmod i1 1118208) : Int) > 65535) then
                        ((R id_law06Wakes []).bind fun r104 =>
                        asB r104.v fun b104 =>
                        some ⟨AV.bool b104, false, []⟩)
                      else
                        need (decide (0 ≤ (4 : Int)) && decide ((4 : Int) ≤ ((s1.length : Nat) : Int))) <|
                        need (decide ((([34, 92, 117] : List UInt8) : List UInt8).length + ((s1.take s1.length).drop (Int.toNat 4)).length ≤ 9223372036854775807)) <|
                        need (decide ((([34, 92, 117] : List UInt8) ++ ((s1.take s1.length).drop (Int.toNat 4)) : List UInt8).length + (([34] : List UInt8) : List UInt8).length ≤ 9223372036854775807)) <|
                        (R id_doubleTake [AV.bytes ((([34, 92, 117] : List UInt8) ++ ((s1.take s1.length).drop (Int.toNat 4))) ++ ([34] : List UInt8))]).bind fun r105 =>
                        asSIBT r105.v fun s59 i63 b105 =>
                        bif !(b105 == false) then
                          (some ⟨AV.bool false, false, []⟩)
                        else
                          bif b105 then
                            (bif !(s59 == ((Utf8.encode (IntKind.i32.wrap (Int.tmod i1 1118208))).data.toList)) then
                              (some ⟨AV.bool false, false, []⟩)
                            else
                              bif decide (((Int.tmod i1 1118208) : Int) > 255) then
                                ((R id_law06Wakes []).bind fun r106 =>
                                asB r106.v fun b106 =>
                                some ⟨AV.bool b106, false, []⟩)
                              else
                                need (decide (0 ≤ (6 : Int)) && decide ((6 : Int) ≤ ((s1.length : Nat) : Int))) <|
                                need (decide ((([34, 92, 120] : List UInt8) : List UInt8).length + ((s1.take s1.length).drop (Int.toNat 6)).length ≤ 9223372036854775807)) <|
                                need (decide ((([34, 92, 120] : List UInt8) ++ ((s1.take s1.length).drop (Int.toNat 6)) : List UInt8).length + (([34] : List UInt8) : List UInt8).length ≤ 9223372036854775807)) <|
                                (R id_doubleTake [AV.bytes ((([34, 92, 120] : List UInt8) ++ ((s1.take s1.length).drop (Int.toNat 6))) ++ ([34] : List UInt8))]).bind fun r107 =>
                                asSIBT r107.v fun s60 i64 b107 =>
                                need (decide (0 ≤ (7 : Int)) && decide ((7 : Int) ≤ ((s1.length : Nat) : Int))) <|
                                need (decide ((([34, 92, 120] : List UInt8) : List UInt8).length + ((s1.take s1.length).drop (Int.toNat 7)).length ≤ 9223372036854775807)) <|
                                need (decide ((([34, 92, 120] : List UInt8) ++ ((s1.take s1.length).drop (Int.toNat 7)) : List UInt8).length + (([34] : List UInt8) : List UInt8).length ≤ 9223372036854775807)) <|
                                (R id_doubleTake [AV.bytes ((([34, 92, 120] : List UInt8) ++ ((s1.take s1.length).drop (Int.toNat 7))) ++ ([34] : List UInt8))]).bind fun r108 =>
                                asSIBT r108.v fun s61 i65 b108 =>
                                bif b107 then
                                  (bif s60 == ((Utf8.encode (IntKind.i32.wrap (Int.tmod i1 1118208))).data.toList) then
                                    (bif !b108 then
                                      ((R id_law06Wakes []).bind fun r109 =>
                                      asB r109.v fun b109 =>
                                      some ⟨AV.bool b109, false, []⟩)
                                    else
                                      some ⟨AV.bool false, false, []⟩)
                                  else
                                    some ⟨AV.bool false, false, []⟩)
                                else
                                  some ⟨AV.bool false, false, []⟩)
                          else
                            bif decide (((Int.tmod i1 1118208) : Int) > 255) then
                              ((R id_law06Wakes []).bind fun r110 =>
                              asB r110.v fun b110 =>
                              some ⟨AV.bool b110, false, []⟩)
                            else
                              need (decide (0 ≤ (6 : Int)) && decide ((6 : Int) ≤ ((s1.length : Nat) : Int))) <|
                              need (decide ((([34, 92, 120] : List UInt8) : List UInt8).length + ((s1.take s1.length).drop (Int.toNat 6)).length ≤ 9223372036854775807)) <|
                              need (decide ((([34, 92, 120] : List UInt8) ++ ((s1.take s1.length).drop (Int.toNat 6)) : List UInt8).length + (([34] : List UInt8) : List UInt8).length ≤ 9223372036854775807)) <|
                              (R id_doubleTake [AV.bytes ((([34, 92, 120] : List UInt8) ++ ((s1.take s1.length).drop (Int.toNat 6))) ++ ([34] : List UInt8))]).bind fun r111 =>
                              asSIBT r111.v fun s62 i66 b111 =>
                              need (decide (0 ≤ (7 : Int)) && decide ((7 : Int) ≤ ((s1.length : Nat) : Int))) <|
                              need (decide ((([34, 92, 120] : List UInt8) : List UInt8).length + ((s1.take s1.length).drop (Int.toNat 7)).length ≤ 9223372036854775807)) <|
                              need (decide ((([34, 92, 120] : List UInt8) ++ ((s1.take s1.length).drop (Int.toNat 7)) : List UInt8).length + (([34] : List UInt8) : List UInt8).length ≤ 9223372036854775807)) <|
                              (R id_doubleTake [AV.bytes ((([34, 92, 120] : List UInt8) ++ ((s1.take s1.length).drop (Int.toNat 7))) ++ ([34] : List UInt8))]).bind fun r112 =>
                              asSIBT r112.v fun s63 i67 b112 =>
                              bif b111 then
                                (bif s62 == ((Utf8.encode (IntKind.i32.wrap (Int.tmod i1 1118208))).data.toList) then
                                  (bif !b112 then
                                    ((R id_law06Wakes []).bind fun r113 =>
                                    asB r113.v fun b113 =>
                                    some ⟨AV.bool b113, false, []⟩)
                                  else
                                    some ⟨AV.bool false, false, []⟩)
                                else
                                  some ⟨AV.bool false, false, []⟩)
                              else
                                some ⟨AV.bool false, false, []⟩)
                else
                  bif decide (((Int.tmod i1 1118208) : Int) > 65535) then
                    ((R id_law06Wakes []).bind fun r114 =>
                    asB r114.v fun b114 =>
                    some ⟨AV.bool b114, false, []⟩)
                  else
                    need (decide (0 ≤ (4 : Int)) && decide ((4 : Int) ≤ ((s1.length : Nat) : Int))) <|
                    need (decide ((([34, 92, 117] : List UInt8) : List UInt8).length + ((s1.take s1.length).drop (Int.toNat 4)).length ≤ 9223372036854775807)) <|
                    need (decide ((([34, 92, 117] : List UInt8) ++ ((s1.take s1.length).drop (Int.toNat 4)) : List UInt8).length + (([34] : List UInt8) : List UInt8).length ≤ 9223372036854775807)) <|
                    (R id_doubleTake [AV.bytes ((([34, 92, 117] : List UInt8) ++ ((s1.take s1.length).drop (Int.toNat 4))) ++ ([34] : List UInt8))]).bind fun r115 =>
                    asSIBT r115.v fun s64 i68 b115 =>
                    bif !(b115 == false) then
                      (some ⟨AV.bool false, false, []⟩)
                    else
                      bif b115 then
                        (bif !(s64 == ((Utf8.encode (IntKind.i32.wrap (Int.tmod i1 1118208))).data.toList)) then
                          (some ⟨AV.bool false, false, []⟩)
                        else
                          bif decide (((Int.tmod i1 1118208) : Int) > 255) then
                            ((R id_law06Wakes []).bind fun r116 =>
                            asB r116.v fun b116 =>
                            some ⟨AV.bool b116, false, []⟩)
                          else
                            need (decide (0 ≤ (6 : Int)) && decide ((6 : Int) ≤ ((s1.length : Nat) : Int))) <|
                            need (decide ((([34, 92, 120] : List UInt8) : List UInt8).length + ((s1.take s1.length).drop (Int.toNat 6)).length ≤ 9223372036854775807)) <|
                            need (decide ((([34, 92, 120] : List UInt8) ++ ((s1.take s1.length).drop (Int.toNat 6)) : List UInt8).length + (([34] : List UInt8) : List UInt8).length ≤ 9223372036854775807)) <|
                            (R id_doubleTake [AV.bytes ((([34, 92, 120] : List UInt8) ++ ((s1.take s1.length).drop (Int.toNat 6))) ++ ([34] : List UInt8))]).bind fun r117 =>
                            asSIBT r117.v fun s65 i69 b117 =>
                            need (decide (0 ≤ (7 : Int)) && decide ((7 : Int) ≤ ((s1.length : Nat) : Int))) <|
                            need (decide ((([34, 92, 120] : List UInt8) : List UInt8).length + ((s1.take s1.length).drop (Int.toNat 7)).length ≤ 9223372036854775807)) <|
                            need (decide ((([34, 92, 120] : List UInt8) ++ ((s1.take s1.length).drop (Int.toNat 7)) : List UInt8).length + (([34] : List UInt8) : List UInt8).length ≤ 9223372036854775807)) <|
                            (R id_doubleTake [AV.bytes ((([34, 92, 120] : List UInt8) ++ ((s1.take s1.length).drop (Int.toNat 7))) ++ ([34] : List UInt8))]).bind fun r118 =>
                            asSIBT r118.v fun s66 i70 b118 =>
                            bif b117 then
                              (bif s65 == ((Utf8.encode (IntKind.i32.wrap (Int.tmod i1 1118208))).data.toList) then
                                (bif !b118 then
                                  ((R id_law06Wakes []).bind fun r119 =>
                                  asB r119.v fun b119 =>
                                  some ⟨AV.bool b119, false, []⟩)
                                else
                                  some ⟨AV.bool false, false, []⟩)
                              else
                                some ⟨AV.bool false, false, []⟩)
                            else
                              some ⟨AV.bool false, false, []⟩)
                      else
                        bif decide (((Int.tmod i1 1118208) : Int) > 255) then
                          ((R id_law06Wakes []).bind fun r120 =>
                          asB r120.v fun b120 =>
                          some ⟨AV.bool b120, false, []⟩)
                        else
                          need (decide (0 ≤ (6 : Int)) && decide ((6 : Int) ≤ ((s1.length : Nat) : Int))) <|
                          need (decide ((([34, 92, 120] : List UInt8) : List UInt8).length + ((s1.take s1.length).drop (Int.toNat 6)).length ≤ 9223372036854775807)) <|
                          need (decide ((([34, 92, 120] : List UInt8) ++ ((s1.take s1.length).drop (Int.toNat 6)) : List UInt8).length + (([34] : List UInt8) : List UInt8).length ≤ 9223372036854775807)) <|
                          (R id_doubleTake [AV.bytes ((([34, 92, 120] : List UInt8) ++ ((s1.take s1.length).drop (Int.toNat 6))) ++ ([34] : List UInt8))]).bind fun r121 =>
                          asSIBT r121.v fun s67 i71 b121 =>
                          need (decide (0 ≤ (7 : Int)) && decide ((7 : Int) ≤ ((s1.length : Nat) : Int))) <|
                          need (decide ((([34, 92, 120] : List UInt8) : List UInt8).length + ((s1.take s1.length).drop (Int.toNat 7)).length ≤ 9223372036854775807)) <|
                          need (decide ((([34, 92, 120] : List UInt8) ++ ((s1.take s1.length).drop (Int.toNat 7)) : List UInt8).length + (([34] : List UInt8) : List UInt8).length ≤ 9223372036854775807)) <|
                          (R id_doubleTake [AV.bytes ((([34, 92, 120] : List UInt8) ++ ((s1.take s1.length).drop (Int.toNat 7))) ++ ([34] : List UInt8))]).bind fun r122 =>
                          asSIBT r122.v fun s68 i72 b122 =>
                          bif b121 then
                            (bif s67 == ((Utf8.encode (IntKind.i32.wrap (Int.tmod i1 1118208))).data.toList) then
                              (bif !b122 then
                                ((R id_law06Wakes []).bind fun r123 =>
                                asB r123.v fun b123 =>
                                some ⟨AV.bool b123, false, []⟩)
                              else
                                some ⟨AV.bool false, false, []⟩)
                            else
                              some ⟨AV.bool false, false, []⟩)
                          else
                            some ⟨AV.bool false, false, []⟩)
      else
        (R id_doubleHex [AV.int .u32 i1, AV.int .i64 8]).bind fun r124 =>
        asS r124.v fun s69 =>
        bif (((s69.length : Nat) : Int) : Int) != 8 then
          (some ⟨AV.bool false, false, []⟩)
        else
          bif b1 then
            (rounds [0, 6, 31, 32] [29] (evC gl R N law06DoubleRunes_c0) (Kblock 0 (Kthen gl R N law06DoubleRunes_c1 (Kthen gl R N law06DoubleRunes_c2 (Kret law06DoubleRunes.rets [])))) N ⟨[(0, .imm (AV.int .u32 i1)), (6, .own 29 0 s69.length none), (31, .imm (AV.int .i64 ((s69.length : Nat) : Int))), (32, .imm (AV.int .i64 0))], [(29, .bytes s69 false)]⟩)
          else
            need (decide ((([34, 92, 85] : List UInt8) : List UInt8).length + s69.length ≤ 9223372036854775807)) <|
            need (decide ((([34, 92, 85] : List UInt8) ++ s69 : List UInt8).length + (([34] : List UInt8) : List UInt8).length ≤ 9223372036854775807)) <|
            (R id_doubleTake [AV.bytes ((([34, 92, 85] : List UInt8) ++ s69) ++ ([34] : List UInt8))]).bind fun r186 =>
            asSIBT r186.v fun s102 i105 b185 =>
            bif decide ((i1 : Int) ≤ 1114111) then
              (bif decide ((i1 : Int) < 55296) then
                (bif !(b185 == true) then
                  (some ⟨AV.bool false, false, []⟩)
                else
                  bif b185 then
                    (bif !(s102 == ((Utf8.encode (IntKind.i32.wrap i1)).data.toList)) then
                      (some ⟨AV.bool false, false, []⟩)
                    else
                      bif (i105 : Int) != 12 then
                        (some ⟨AV.bool false, false, []⟩)
                      else
                        bif decide ((i1 : Int) > 65535) then
                          ((R id_law06Wakes []).bind fun r187 =>
                          asB r187.v fun b186 =>
                          some ⟨AV.bool b186, false, []⟩)
                        else
                          need (decide (0 ≤ (4 : Int)) && decide ((4 : Int) ≤ ((s69.length : Nat) : Int))) <|
                          need (decide ((([34, 92, 117] : List UInt8) : List UInt8).length + ((s69.take s69.length).drop (Int.toNat 4)).length ≤ 9223372036854775807)) <|
                          need (decide ((([34, 92, 117] : List UInt8) ++ ((s69.take s69.length).drop (Int.toNat 4)) : List UInt8).length + (([34] : List UInt8) : List UInt8).length ≤ 9223372036854775807)) <|
                          (R id_doubleTake [AV.bytes ((([34, 92, 117] : List UInt8) ++ ((s69.take s69.length).drop (Int.toNat 4))) ++ ([34] : List UInt8))]).bind fun r188 =>
                          asSIBT r188.v fun s103 i106 b187 =>
                          bif !(b187 == true) then
                            (some ⟨AV.bool false, false, []⟩)
                          else
                            bif b187 then
                              (bif !(s103 == ((Utf8.encode (IntKind.i32.wrap i1)).data.toList)) then
                                (some ⟨AV.bool false, false, []⟩)
                              else
                                bif decide ((i1 : Int) > 255) then
                                  ((R id_law06Wakes []).bind fun r189 =>
                                  asB r189.v fun b188 =>
                                  some ⟨AV.bool b188, false, []⟩)
                                else
                                  need (decide (0 ≤ (6 : Int)) && decide ((6 : Int) ≤ ((s69.length : Nat) : Int))) <|
                                  need (decide ((([34, 92, 120] : List UInt8) : List UInt8).length + ((s69.take s69.length).drop (Int.toNat 6)).length ≤ 9223372036854775807)) <|
                                  need (decide ((([34, 92, 120] : List UInt8) ++ ((s69.take s69.length).drop (Int.toNat 6)) : List UInt8).length + (([34] : List UInt8) : List UInt8).length ≤ 9223372036854775807)) <|
                                  (R id_doubleTake [AV.bytes ((([34, 92, 120] : List UInt8) ++ ((s69.take s69.length).drop (Int.toNat 6))) ++ ([34] : List UInt8))]).bind fun r190 =>
                                  asSIBT r190.v fun s104 i107 b189 =>
                                  need (decide (0 ≤ (7 : Int)) && decide ((7 : Int) ≤ ((s69.length : Nat) : Int))) <|
                                  need (decide ((([34, 92, 120] : List UInt8) : List UInt8).length + ((s69.take s69.length).drop (Int.toNat 7)).length ≤ 9223372036854775807)) <|
                                  need (decide ((([34, 92, 120] : List UInt8) ++ ((s69.take s69.length).drop (Int.toNat 7)) : List UInt8).length + (([34] : List UInt8) : List UInt8).length ≤ 9223372036854775807)) <|
                                  (R id_doubleTake [AV.bytes ((([34, 92, 120] : List UInt8) ++ ((s69.take s69.length).drop (Int.toNat 7))) ++ ([34] : List UInt8))]).bind fun r191 =>
                                  asSIBT r191.v fun s105 i108 b190 =>
                                  bif b189 then
                                    (bif s104 == ((Utf8.encode (IntKind.i32.wrap i1)).data.toList) then
                                      (bif !b190 then
                                        ((R id_law06Wakes []).bind fun r192 =>
                                        asB r192.v fun b191 =>
                                        some ⟨AV.bool b191, false, []⟩)
                                      else
                                        some ⟨AV.bool false, false, []⟩)
                                    else
                                      some ⟨AV.bool false, false, []⟩)
                                  else
                                    some ⟨AV.bool false, false, []⟩)
                            else
                              bif decide ((i1 : Int) > 255) then
                                ((R id_law06Wakes []).bind fun r193 =>
                                asB r193.v fun b192 =>
                                some ⟨AV.bool b192, false, []⟩)
                              else
                                need (decide (0 ≤ (6 : Int)) && decide ((6 : Int) ≤ ((s69.length : Nat) : Int))) <|
                                need (decide ((([34, 92, 120] : List UInt8) : List UInt8).length + ((s69.take s69.length).drop (Int.toNat 6)).length ≤ 9223372036854775807)) <|
                                need (decide ((([34, 92, 120] : List UInt8) ++ ((s69.take s69.length).drop (Int.toNat 6)) : List UInt8).length + (([34] : List UInt8) : List UInt8).length ≤ 9223372036854775807)) <|
                                (R id_doubleTake [AV.bytes ((([34, 92, 120] : List UInt8) ++ ((s69.take s69.length).drop (Int.toNat 6))) ++ ([34] : List UInt8))]).bind fun r194 =>
                                asSIBT r194.v fun s106 i109 b193 =>
                                need (decide (0 ≤ (7 : Int)) && decide ((7 : Int) ≤ ((s69.length : Nat) : Int))) <|
                                need (decide ((([34, 92, 120] : List UInt8) : List UInt8).length + ((s69.take s69.length).drop (Int.toNat 7)).length ≤ 9223372036854775807)) <|
                                need (decide ((([34, 92, 120] : List UInt8) ++ ((s69.take s69.length).drop (Int.toNat 7)) : List UInt8).length + (([34] : List UInt8) : List UInt8).length ≤ 9223372036854775807)) <|
                                (R id_doubleTake [AV.bytes ((([34, 92, 120] : List UInt8) ++ ((s69.take s69.length).drop (Int.toNat 7))) ++ ([34] : List UInt8))]).bind fun r195 =>
                                asSIBT r195.v fun s107 i110 b194 =>
                                bif b193 then
                                  (bif s106 == ((Utf8.encode (IntKind.i32.wrap i1)).data.toList) then
                                    (bif !b194 then
                                      ((R id_law06Wakes []).bind fun r196 =>
                                      asB r196.v fun b195 =>
                                      some ⟨AV.bool b195, false, []⟩)
                                    else
                                      some ⟨AV.bool false, false, []⟩)
                                  else
                                    some ⟨AV.bool false, false, []⟩)
                                else
                                  some ⟨AV.bool false, false, []⟩)
                  else
                    bif decide ((i1 : Int) > 65535) then
                      ((R id_law06Wakes []).bind fun r197 =>
                      asB r197.v fun b196 =>
                      some ⟨AV.bool b196, false, []⟩)
                    else
                      need (decide (0 ≤ (4 : Int)) && decide ((4 : Int) ≤ ((s69.length : Nat) : Int))) <|
                      need (decide ((([34, 92, 117] : List UInt8) : List UInt8).length + ((s69.take s69.length).drop (Int.toNat 4)).length ≤ 9223372036854775807)) <|
                      need (decide ((([34, 92, 117] : List UInt8) ++ ((s69.take s69.length).drop (Int.toNat 4)) : List UInt8).length + (([34] : List UInt8) : List UInt8).length ≤ 9223372036854775807)) <|
                      (R id_doubleTake [AV.bytes ((([34, 92, 117] : List UInt8) ++ ((s69.take s69.length).drop (Int.toNat 4))) ++ ([34] : List UInt8))]).bind fun r198 =>
                      asSIBT r198.v fun s108 i111 b197 =>
                      bif !(b197 == true) then
                        (some ⟨AV.bool false, false, []⟩)
                      else
                        bif b197 then
                          (bif !(s108 == ((Utf8.encode (IntKind.i32.wrap i1)).data.toList)) then
                            (some ⟨AV.bool false, false, []⟩)
                          else
                            bif decide ((i1 : Int) > 255) then
                              ((R id_law06Wakes []).bind fun r199 =>
                              asB r199.v fun b198 =>
                              some ⟨AV.bool b198, false, []⟩)
                            else
                              need (decide (0 ≤ (6 : Int)) && decide ((6 : Int) ≤ ((s69.length : Nat) : Int))) <|
                              need (decide ((([34, 92, 120] : List UInt8) : List UInt8).length + ((s69.take s69.length).drop (Int.toNat 6)).length ≤ 9223372036854775807)) <|
                              need (decide ((([34, 92, 120] : List UInt8) ++ ((s69.take s69.length).drop (Int.toNat 6)) : List UInt8).length + (([34] : List UInt8) : List UInt8).length ≤ 9223372036854775807)) <|
                              (R id_doubleTake [AV.bytes ((([34, 92, 120] : List UInt8) ++ ((s69.take s69.length).drop (Int.toNat 6))) ++ ([34] : List UInt8))]).bind fun r200 =>
                              asSIBT r200.v fun s109 i112 b199 =>
                              need (decide (0 ≤ (7 : Int)) && decide ((7 : Int) ≤ ((s69.length : Nat) : Int))) <|
                              need (decide ((([34, 92, 120] : List UInt8) : List UInt8).length + ((s69.take s69.length).drop (Int.toNat 7)).length ≤ 9223372036854775807)) <|
                              need (decide ((([34, 92, 120] : List UInt8) ++ ((s69.take s69.length).drop (Int.toNat 7)) : List UInt8).length + (([34] : List UInt8) : List UInt8).length ≤ 9223372036854775807)) <|
                              (R id_doubleTake [AV.bytes ((([34, 92, 120] : List UInt8) ++ ((s69.take s69.length).drop (Int.toNat 7))) ++ ([34] : List UInt8))]).bind fun r201 =>
                              asSIBT r201.v fun s110 i113 b200 =>
                              bif b199 then
                                (bif s109 == ((Utf8.encode (IntKind.i32.wrap i1)).data.toList) then
                                  (bif !b200 then
                                    ((R id_law06Wakes []).bind fun r202 =>
                                    asB r202.v fun b201 =>
                                    some ⟨AV.bool b201, false, []⟩)
                                  else
                                    some ⟨AV.bool false, false, []⟩)
                                else
                                  some ⟨AV.bool false, false, []⟩)
                              else
                                some ⟨AV.bool false, false, []⟩)
                        else
                          bif decide ((i1 : Int) > 255) then
                            ((R id_law06Wakes []).bind fun r203 =>
                            asB r203.v fun b202 =>
                            some ⟨AV.bool b202, false, []⟩)
                          else
                            need (decide (0 ≤ (6 : Int)) && decide ((6 : Int) ≤ ((s69.length : Nat) : Int))) <|
                            need (decide ((([34, 92, 120] : List UInt8) : List UInt8).length + ((s69.take s69.length).drop (Int.toNat 6)).length ≤ 9223372036854775807)) <|
                            need (decide ((([34, 92, 120] : List UInt8) ++ ((s69.take s69.length).drop (Int.toNat 6)) : List UInt8).length + (([34] : List UInt8) : List UInt8).length ≤ 9223372036854775807)) <|
                            (R id_doubleTake [AV.bytes ((([34, 92, 120] : List UInt8) ++ ((s69.take s69.length).drop (Int.toNat 6))) ++ ([34] : List UInt8))]).bind fun r204 =>
                            asSIBT r204.v fun s111 i114 b203 =>
                            need (decide (0 ≤ (7 : Int)) && decide ((7 : Int) ≤ ((s69.length : Nat) : Int))) <|
                            need (decide ((([34, 92, 120] : List UInt8) : List UInt8).length + ((s69.take s69.length).drop (Int.toNat 7)).length ≤ 9223372036854775807)) <|
                            need (decide ((([34, 92, 120] : List UInt8) ++ ((s69.take s69.length).drop (Int.toNat 7)) : List UInt8).length + (([34] : List UInt8) : List UInt8).length ≤ 9223372036854775807)) <|
                            (R id_doubleTake [AV.bytes ((([34, 92, 120] : List UInt8) ++ ((s69.take s69.length).drop (Int.toNat 7))) ++ ([34] : List UInt8))]).bind fun r205 =>
                            asSIBT r205.v fun s112 i115 b204 =>
                            bif b203 then
                              (bif s111 == ((Utf8.encode (IntKind.i32.wrap i1)).data.toList) then
                                (bif !b204 then
                                  ((R id_law06Wakes []).bind fun r206 =>
                                  asB r206.v fun b205 =>
                                  some ⟨AV.bool b205, false, []⟩)
                                else
                                  some ⟨AV.bool false, false, []⟩)
                              else
                                some ⟨AV.bool false, false, []⟩)
                            else
                              some ⟨AV.bool false, false, []⟩)
              else
                bif !(b185 == (decide ((i1 : Int) > 57343))) then
                  (some ⟨AV.bool false, false, []⟩)
                else
                  bif b185 then
                    (bif !(s102 == ((Utf8.encode (IntKind.i32.wrap i1)).data.toList)) then
                      (some ⟨AV.bool false, false, []⟩)
                    else
                      bif (i105 : Int) != 12 then
                        (some ⟨AV.bool false, false, []⟩)
                      else
                        bif decide ((i1 : Int) > 65535) then
                          ((R id_law06Wakes []).bind fun r207 =>
                          asB r207.v fun b206 =>
                          some ⟨AV.bool b206, false, []⟩)
                        else
                          need (decide (0 ≤ (4 : Int)) && decide ((4 : Int) ≤ ((s69.length : Nat) : Int))) <|
                          need (decide ((([34, 92, 117] : List UInt8) : List UInt8).length + ((s69.take s69.length).drop (Int.toNat 4)).length ≤ 9223372036854775807)) <|
                          need (decide ((([34, 92, 117] : List UInt8) ++ ((s69.take s69.length).drop (Int.toNat 4)) : List UInt8).length + (([34] : List UInt8) : List UInt8).length ≤ 9223372036854775807)) <|
                          (R id_doubleTake [AV.bytes ((([34, 92, 117] : List UInt8) ++ ((s69.take s69.length).drop (Int.toNat 4))) ++ ([34] : List UInt8))]).bind fun r208 =>
                          asSIBT r208.v fun s113 i116 b207 =>
                          bif !(b207 == (decide ((i1 : Int) > 57343))) then
                            (some ⟨AV.bool false, false, []⟩)
                          else
                            bif b207 then
                              (bif !(s113 == ((Utf8.encode (IntKind.i32.wrap i1)).data.toList)) then
                                (some ⟨AV.bool false, false, []⟩)
                              else
                                bif decide ((i1 : Int) > 255) then
                                  ((R id_law06Wakes []).bind fun r209 =>
                                  asB r209.v fun b208 =>
                                  some ⟨AV.bool b208, false, []⟩)
                                else
                                  need (decide (0 ≤ (6 : Int)) && decide ((6 : Int) ≤ ((s69.length : Nat) : Int))) <|
                                  need (decide ((([34, 92, 120] : List UInt8) : List UInt8).length + ((s69.take s69.length).drop (Int.toNat 6)).length ≤ 9223372036854775807)) <|
                                  need (decide ((([34, 92, 120] : List UInt8) ++ ((s69.take s69.length).drop (Int.toNat 6)) : List UInt8).length + (([34] : List UInt8) : List UInt8).length ≤ 9223372036854775807)) <|
                                  (R id_doubleTake [AV.bytes ((([34, 92, 120] : List UInt8) ++ ((s69.take s69.length).drop (Int.toNat 6))) ++ ([34] : List UInt8))]).bind fun r210 =>
                                  asSIBT r210.v fun s114 i117 b209 =>
                                  need (decide (0 ≤ (7 : Int)) && decide ((7 : Int) ≤ ((s69.length : Nat) : Int))) <|
                                  need (decide ((([34, 92, 120] : List UInt8) : List UInt8).length + ((s69.take s69.length).drop (Int.toNat 7)).length ≤ 9223372036854775807)) <|
                                  need (decide ((([34, 92, 120] : List UInt8) ++ ((s69.take s69.length).drop (Int.toNat 7)) : List UInt8).length + (([34] : List UInt8) : List UInt8).length ≤ 9223372036854775807)) <|
                                  (R id_doubleTake [AV.bytes ((([34, 92, 120] : List UInt8) ++ ((s69.take s69.length).drop (Int.toNat 7))) ++ ([34] : List UInt8))]).bind fun r211 =>
                                  asSIBT r211.v fun s115 i118 b210 =>
                                  bif b209 then
                                    (bif s114 == ((Utf8.encode (IntKind.i32.wrap i1)).data.toList) then
                                      (bif !b210 then
                                        ((R id_law06Wakes []).bind fun r212 =>
                                        asB r212.v fun b211 =>
                                        some ⟨AV.bool b211, false, []⟩)
                                      else
                                        some ⟨AV.bool false, false, []⟩)
                                    else
                                      some ⟨AV.bool false, false, []⟩)
                                  else
                                    some ⟨AV.bool false, false, []⟩)
                            else
                              bif decide ((i1 : Int) > 255) then
                                ((R id_law06Wakes []).bind fun r213 =>
                                asB r213.v fun b212 =>
                                some ⟨AV.bool b212, false, []⟩)
                              else
                                need (decide (0 ≤ (6 : Int)) && decide ((6 : Int) ≤ ((s69.length : Nat) : Int))) <|
                                need (decide ((([34, 92, 120] : List UInt8) : List UInt8).length + ((s69.take s69.length).drop (Int.toNat 6)).length ≤ 9223372036854775807)) <|
                                need (decide ((([34, 92, 120] : List UInt8) ++ ((s69.take s69.length).drop (Int.toNat 6)) : List UInt8).length + (([34] : List UInt8) : List UInt8).length ≤ 9223372036854775807)) <|
                                (R id_doubleTake [AV.bytes ((([34, 92, 120] : List UInt8) ++ ((s69.take s69.length).drop (Int.toNat 6))) ++ ([34] : List UInt8))]).bind fun r214 =>
                                asSIBT r214.v fun s116 i119 b213 =>
                                need (decide (0 ≤ (7 : Int)) && decide ((7 : Int) ≤ ((s69.length : Nat) : Int))) <|
                                need (decide ((([34, 92, 120] : List UInt8) : List UInt8).length + ((s69.take s69.length).drop (Int.toNat 7)).length ≤ 9223372036854775807)) <|
                                need (decide ((([34, 92, 120] : List UInt8) ++ ((s69.take s69.length).drop (Int.toNat 7)) : List UInt8).length + (([34] : List UInt8) : List UInt8).length ≤ 9223372036854775807)) <|
                                (R id_doubleTake [AV.bytes ((([34, 92, 120] : List UInt8) ++ ((s69.take s69.length).drop (Int.toNat 7))) ++ ([34] : List UInt8))]).bind fun r215 =>
                                asSIBT r215.v fun s117 i120 b214 =>
                                bif b213 then
                                  (bif s116 == ((Utf8.encode (IntKind.i32.wrap i1)).data.toList) then
                                    (bif !b214 then
                                      ((R id_law06Wakes []).bind fun r216 =>
                                      asB r216.v fun b215 =>
                                      some ⟨AV.bool b215, false, []⟩)
                                    else
                                      some ⟨AV.bool false, false, []⟩)
                                  else
                                    some ⟨AV.bool false, false, []⟩)
                                else
                                  some ⟨AV.bool false, false, []⟩)
                  else
                    bif decide ((i1 : Int) > 65535) then
                      ((R id_law06Wakes []).bind fun r217 =>
                      asB r217.v fun b216 =>
                      some ⟨AV.bool b216, false, []⟩)
                    else
                      need (decide (0 ≤ (4 : Int)) && decide ((4 : Int) ≤ ((s69.length : Nat) : Int))) <|
                      need (decide ((([34, 92, 117] : List UInt8) : List UInt8).length + ((s69.take s69.length).drop (Int.toNat 4)).length ≤ 9223372036854775807)) <|
                      need (decide ((([34, 92, 117] : List UInt8) ++ ((s69.take s69.length).drop (Int.toNat 4)) : List UInt8).length + (([34] : List UInt8) : List UInt8).length ≤ 9223372036854775807)) <|
                      (R id_doubleTake [AV.bytes ((([34, 92, 117] : List UInt8) ++ ((s69.take s69.length).drop (Int.toNat 4))) ++ ([34] : List UInt8))]).bind fun r218 =>
                      asSIBT r218.v fun s118 i121 b217 =>
                      bif !(b217 == (decide ((i1 : Int) > 57343))) then
                        (some ⟨AV.bool false, false, []⟩)
                      else
                        bif b217 then
                          (bif !(s118 == ((Utf8.encode (IntKind.i32.wrap i1)).data.toList)) then
                            (some ⟨AV.bool false, false, []⟩)
                          else
                            bif decide ((i1 : Int) > 255) then
                              ((R id_law06Wakes []).bind fun r219 =>
                              asB r219.v fun b218 =>
                              some ⟨AV.bool b218, false, []⟩)
                            else
                              need (decide (0 ≤ (6 : Int)) && decide ((6 : Int) ≤ ((s69.length : Nat) : Int))) <|
                              need (decide ((([34, 92, 120] : List UInt8) : List UInt8).length + ((s69.take s69.length).drop (Int.toNat 6)).length ≤ 9223372036854775807)) <|
                              need (decide ((([34, 92, 120] : List UInt8) ++ ((s69.take s69.length).drop (Int.toNat 6)) : List UInt8).length + (([34] : List UInt8) : List UInt8).length ≤ 9223372036854775807)) <|
                              (R id_doubleTake [AV.bytes ((([34, 92, 120] : List UInt8) ++ ((s69.take s69.length).drop (Int.toNat 6))) ++ ([34] : List UInt8))]).bind fun r220 =>
                              asSIBT r220.v fun s119 i122 b219 =>
                              need (decide (0 ≤ (7 : Int)) && decide ((7 : Int) ≤ ((s69.length : Nat) : Int))) <|
                              need (decide ((([34, 92, 120] : List UInt8) : List UInt8).length + ((s69.take s69.length).drop (Int.toNat 7)).length ≤ 9223372036854775807)) <|
                              need (decide ((([34, 92, 120] : List UInt8) ++ ((s69.take s69.length).drop (Int.toNat 7)) : List UInt8).length + (([34] : List UInt8) : List UInt8).length ≤ 9223372036854775807)) <|
                              (R id_doubleTake [AV.bytes ((([34, 92, 120] : List UInt8) ++ ((s69.take s69.length).drop (Int.toNat 7))) ++ ([34] : List UInt8))]).bind fun r221 =>
                              asSIBT r221.v fun s120 i123 b220 =>
                              bif b219 then
                                (bif s119 == ((Utf8.encode (IntKind.i32.wrap i1)).data.toList) then
                                  (bif !b220 then
                                    ((R id_law06Wakes []).bind fun r222 =>
                                    asB r222.v fun b221 =>
                                    some ⟨AV.bool b221, false, []⟩)
                                  else
                                    some ⟨AV.bool false, false, []⟩)
                                else
                                  some ⟨AV.bool false, false, []⟩)
                              else
                                some ⟨AV.bool false, false, []⟩)
                        else
                          bif decide ((i1 : Int) > 255) then
                            ((R id_law06Wakes []).bind fun r223 =>
                            asB r223.v fun b222 =>
                            some ⟨AV.bool b222, false, []⟩)
                          else
                            need (decide (0 ≤ (6 : Int)) && decide ((6 : Int) ≤ ((s69.length : Nat) : Int))) <|
                            need (decide ((([34, 92, 120] : List UInt8) : List UInt8).length + ((s69.take s69.length).drop (Int.toNat 6)).length ≤ 9223372036854775807)) <|
                            need (decide ((([34, 92, 120] : List UInt8) ++ ((s69.take s69.length).drop (Int.toNat 6)) : List UInt8).length + (([34] : List UInt8) : List UInt8).length ≤ 9223372036854775807)) <|
                            (R id_doubleTake [AV.bytes ((([34, 92, 120] : List UInt8) ++ ((s69.take s69.length).drop (Int.toNat 6))) ++ ([34] : List UInt8))]).bind fun r224 =>
                            asSIBT r224.v fun s121 i124 b223 =>
                            need (decide (0 ≤ (7 : Int)) && decide ((7 : Int) ≤ ((s69.length : Nat) : Int))) <|
                            need (decide ((([34, 92, 120] : List UInt8) : List UInt8).length + ((s69.take s69.length).drop (Int.toNat 7)).length ≤ 9223372036854775807)) <|
                            need (decide ((([34, 92, 120] : List UInt8) ++ ((s69.take s69.length).drop (Int.toNat 7)) : List UInt8).length + (([34] : List UInt8) : List UInt8).length ≤ 9223372036854775807)) <|
                            (R id_doubleTake [AV.bytes ((([34, 92, 120] : List UInt8) ++ ((s69.take s69.length).drop (Int.toNat 7))) ++ ([34] : List UInt8))]).bind fun r225 =>
                            asSIBT r225.v fun s122 i125 b224 =>
                            bif b223 then
                              (bif s121 == ((Utf8.encode (IntKind.i32.wrap i1)).data.toList) then
                                (bif !b224 then
                                  ((R id_law06Wakes []).bind fun r226 =>
                                  asB r226.v fun b225 =>
                                  some ⟨AV.bool b225, false, []⟩)
                                else
                                  some ⟨AV.bool false, false, []⟩)
                              else
                                some ⟨AV.bool false, false, []⟩)
                            else
                              some ⟨AV.bool false, false, []⟩)
            else
              bif !(b185 == false) then
                (some ⟨AV.bool false, false, []⟩)
              else
                bif b185 then
                  (bif !(s102 == ((Utf8.encode (IntKind.i32.wrap i1)).data.toList)) then
                    (some ⟨AV.bool false, false, []⟩)
                  else
                    bif (i105 : Int) != 12 then
                      (some ⟨AV.bool false, false, []⟩)
                    else
                      bif decide ((i1 : Int) > 65535) then
                        ((R id_law06Wakes []).bind fun r227 =>
                        asB r227.v fun b226 =>
                        some ⟨AV.bool b226, false, []⟩)
                      else
                        need (decide (0 ≤ (4 : Int)) && decide ((4 : Int) ≤ ((s69.length : Nat) : Int))) <|
                        need (decide ((([34, 92, 117] : List UInt8) : List UInt8).length + ((s69.take s69.length).drop (Int.toNat 4)).length ≤ 9223372036854775807)) <|
                        need (decide ((([34, 92, 117] : List UInt8) ++ ((s69.take s69.length).drop (Int.toNat 4)) : List UInt8).length + (([34] : List UInt8) : List UInt8).length ≤ 9223372036854775807)) <|
                        (R id_doubleTake [AV.bytes ((([34, 92, 117] : List UInt8) ++ ((s69.take s69.length).drop (Int.toNat 4))) ++ ([34] : List UInt8))]).bind fun r228 =>
                        asSIBT r228.v fun s123 i126 b227 =>
                        bif !(b227 == false) then
                          (some ⟨AV.bool false, false, []⟩)
                        else
                          bif b227 then
                            (bif !(s123 == ((Utf8.encode (IntKind.i32.wrap i1)).data.toList)) then
                              (some ⟨AV.bool false, false, []⟩)
                            else
                              bif decide ((i1 : Int) > 255) then
                                ((R id_law06Wakes []).bind fun r229 =>
                                asB r229.v fun b228 =>
                                some ⟨AV.bool b228, false, []⟩)
                              else
                                need (decide (0 ≤ (6 : Int)) && decide ((6 : Int) ≤ ((s69.length : Nat) : Int))) <|
                                need (decide ((([34, 92, 120] : List UInt8) : List UInt8).length + ((s69.take s69.length).drop (Int.toNat 6)).length ≤ 9223372036854775807)) <|
                                need (decide ((([34, 92, 120] : List UInt8) ++ ((s69.take s69.length).drop (Int.toNat 6)) : List UInt8).length + (([34] : List UInt8) : List UInt8).length ≤ 9223372036854775807)) <|
                                (R id_doubleTake [AV.bytes ((([34, 92, 120] : List UInt8) ++ ((s69.take s69.length).drop (Int.toNat 6))) ++ ([34] : List UInt8))]).bind fun r230 =>
                                asSIBT r230.v fun s124 i127 b229 =>
                                need (decide (0 ≤ (7 : Int)) && decide ((7 : Int) ≤ ((s69.length : Nat) : Int))) <|
                                need (decide ((([34, 92, 120] : List UInt8) : List UInt8).length + ((s69.take s69.length).drop (Int.toNat 7)).length ≤ 9223372036854775807)) <|
                                need (decide ((([34, 92, 120] : List UInt8) ++ ((s69.take s69.length).drop (Int.toNat 7)) : List UInt8).length + (([34] : List UInt8) : List UInt8).length ≤ 9223372036854775807)) <|
                                (R id_doubleTake [AV.bytes ((([34, 92, 120] : List UInt8) ++ ((s69.take s69.length).drop (Int.toNat 7))) ++ ([34] : List UInt8))]).bind fun r231 =>
                                asSIBT r231.v fun s125 i128 b230 =>
                                bif b229 then
                                  (bif s124 == ((Utf8.encode (IntKind.i32.wrap i1)).data.toList) then
                                    (bif !b230 then
                                      ((R id_law06Wakes []).bind fun r232 =>
                                      asB r232.v fun b231 =>
                                      some ⟨AV.bool b231, false, []⟩)
                                    else
                                      some ⟨AV.bool false, false, []⟩)
                                  else
                                    some ⟨AV.bool false, false, []⟩)
                                else
                                  some ⟨AV.bool false, false, []⟩)
                          else
                            bif decide ((i1 : Int) > 255) then
                              ((R id_law06Wakes []).bind fun r233 =>
                              asB r233.v fun b232 =>
                              some ⟨AV.bool b232, false, []⟩)
                            else
                              need (decide (0 ≤ (6 : Int)) && decide ((6 : Int) ≤ ((s69.length : Nat) : Int))) <|
                              need (decide ((([34, 92, 120] : List UInt8) : List UInt8).length + ((s69.take s69.length).drop (Int.toNat 6)).length ≤ 9223372036854775807)) <|
                              need (decide ((([34, 92, 120] : List UInt8) ++ ((s69.take s69.length).drop (Int.toNat 6)) : List UInt8).length + (([34] : List UInt8) : List UInt8).length ≤ 9223372036854775807)) <|
                              (R id_doubleTake [AV.bytes ((([34, 92, 120] : List UInt8) ++ ((s69.take s69.length).drop (Int.toNat 6))) ++ ([34] : List UInt8))]).bind fun r234 =>
                              asSIBT r234.v fun s126 i129 b233 =>
                              need (decide (0 ≤ (7 : Int)) && decide ((7 : Int) ≤ ((s69.length : Nat) : Int))) <|
                              need (decide ((([34, 92, 120] : List UInt8) : List UInt8).length + ((s69.take s69.length).drop (Int.toNat 7)).length ≤ 9223372036854775807)) <|
                              need (decide ((([34, 92, 120] : List UInt8) ++ ((s69.take s69.length).drop (Int.toNat 7)) : List UInt8).length + (([34] : List UInt8) : List UInt8).length ≤ 9223372036854775807)) <|
                              (R id_doubleTake [AV.bytes ((([34, 92, 120] : List UInt8) ++ ((s69.take s69.length).drop (Int.toNat 7))) ++ ([34] : List UInt8))]).bind fun r235 =>
                              asSIBT r235.v fun s127 i130 b234 =>
                              bif b233 then
                                (bif s126 == ((Utf8.encode (IntKind.i32.wrap i1)).data.toList) then
                                  (bif !b234 then
                                    ((R id_law06Wakes []).bind fun r236 =>
                                    asB r236.v fun b235 =>
                                    some ⟨AV.bool b235, false, []⟩)
                                  else
                                    some ⟨AV.bool false, false, []⟩)
                                else
                                  some ⟨AV.bool false, false, []⟩)
                              else
                                some ⟨AV.bool false, false, []⟩)
                else
                  bif decide ((i1 : Int) > 65535) then
                    ((R id_law06Wakes []).bind fun r237 =>
                    asB r237.v fun b236 =>
                    some ⟨AV.bool b236, false, []⟩)
                  else
                    need (decide (0 ≤ (4 : Int)) && decide ((4 : Int) ≤ ((s69.length : Nat) : Int))) <|
                    need (decide ((([34, 92, 117] : List UInt8) : List UInt8).length + ((s69.take s69.length).drop (Int.toNat 4)).length ≤ 9223372036854775807)) <|
                    need (decide ((([34, 92, 117] : List UInt8) ++ ((s69.take s69.length).drop (Int.toNat 4)) : List UInt8).length + (([34] : List UInt8) : List UInt8).length ≤ 9223372036854775807)) <|
                    (R id_doubleTake [AV.bytes ((([34, 92, 117] : List UInt8) ++ ((s69.take s69.length).drop (Int.toNat 4))) ++ ([34] : List UInt8))]).bind fun r238 =>
                    asSIBT r238.v fun s128 i131 b237 =>
                    bif !(b237 == false) then
                      (some ⟨AV.bool false, false, []⟩)
                    else
                      bif b237 then
                        (bif !(s128 == ((Utf8.encode (IntKind.i32.wrap i1)).data.toList)) then
                          (some ⟨AV.bool false, false, []⟩)
                        else
                          bif decide ((i1 : Int) > 255) then
                            ((R id_law06Wakes []).bind fun r239 =>
                            asB r239.v fun b238 =>
                            some ⟨AV.bool b238, false, []⟩)
                          else
                            need (decide (0 ≤ (6 : Int)) && decide ((6 : Int) ≤ ((s69.length : Nat) : Int))) <|
                            need (decide ((([34, 92, 120] : List UInt8) : List UInt8).length + ((s69.take s69.length).drop (Int.toNat 6)).length ≤ 9223372036854775807)) <|
                            need (decide ((([34, 92, 120] : List UInt8) ++ ((s69.take s69.length).drop (Int.toNat 6)) : List UInt8).length + (([34] : List UInt8) : List UInt8).length ≤ 9223372036854775807)) <|
                            (R id_doubleTake [AV.bytes ((([34, 92, 120] : List UInt8) ++ ((s69.take s69.length).drop (Int.toNat 6))) ++ ([34] : List UInt8))]).bind fun r240 =>
                            asSIBT r240.v fun s129 i132 b239 =>
                            need (decide (0 ≤ (7 : Int)) && decide ((7 : Int) ≤ ((s69.length : Nat) : Int))) <|
                            need (decide ((([34, 92, 120] : List UInt8) : List UInt8).length + ((s69.take s69.length).drop (Int.toNat 7)).length ≤ 9223372036854775807)) <|
                            need (decide ((([34, 92, 120] : List UInt8) ++ ((s69.take s69.length).drop (Int.toNat 7)) : List UInt8).length + (([34] : List UInt8) : List UInt8).length ≤ 9223372036854775807)) <|
                            (R id_doubleTake [AV.bytes ((([34, 92, 120] : List UInt8) ++ ((s69.take s69.length).drop (Int.toNat 7))) ++ ([34] : List UInt8))]).bind fun r241 =>
                            asSIBT r241.v fun s130 i133 b240 =>
                            bif b239 then
                              (bif s129 == ((Utf8.encode (IntKind.i32.wrap i1)).data.toList) then
                                (bif !b240 then
                                  ((R id_law06Wakes []).bind fun r242 =>
                                  asB r242.v fun b241 =>
                                  some ⟨AV.bool b241, false, []⟩)
                                else
                                  some ⟨AV.bool false, false, []⟩)
                              else
                                some ⟨AV.bool false, false, []⟩)
                            else
                              some ⟨AV.bool false, false, []⟩)
                      else
                        bif decide ((i1 : Int) > 255) then
                          ((R id_law06Wakes []).bind fun r243 =>
                          asB r243.v fun b242 =>
                          some ⟨AV.bool b242, false, []⟩)
                        else
                          need (decide (0 ≤ (6 : Int)) && decide ((6 : Int) ≤ ((s69.length : Nat) : Int))) <|
                          need (decide ((([34, 92, 120] : List UInt8) : List UInt8).length + ((s69.take s69.length).drop (Int.toNat 6)).length ≤ 9223372036854775807)) <|
                          need (decide ((([34, 92, 120] : List UInt8) ++ ((s69.take s69.length).drop (Int.toNat 6)) : List UInt8).length + (([34] : List UInt8) : List UInt8).length ≤ 9223372036854775807)) <|
                          (R id_doubleTake [AV.bytes ((([34, 92, 120] : List UInt8) ++ ((s69.take s69.length).drop (Int.toNat 6))) ++ ([34] : List UInt8))]).bind fun r244 =>
                          asSIBT r244.v fun s131 i134 b243 =>
                          need (decide (0 ≤ (7 : Int)) && decide ((7 : Int) ≤ ((s69.length : Nat) : Int))) <|
                          need (decide ((([34, 92, 120] : List UInt8) : List UInt8).length + ((s69.take s69.length).drop (Int.toNat 7)).length ≤ 9223372036854775807)) <|
                          need (decide ((([34, 92, 120] : List UInt8) ++ ((s69.take s69.length).drop (Int.toNat 7)) : List UInt8).length + (([34] : List UInt8) : List UInt8).length ≤ 9223372036854775807)) <|
                          (R id_doubleTake [AV.bytes ((([34, 92, 120] : List UInt8) ++ ((s69.take s69.length).drop (Int.toNat 7))) ++ ([34] : List UInt8))]).bind fun r245 =>
                          asSIBT r245.v fun s132 i135 b244 =>
                          bif b243 then
                            (bif s131 == ((Utf8.encode (IntKind.i32.wrap i1)).data.toList) then
                              (bif !b244 then
                                ((R id_law06Wakes []).bind fun r246 =>
                                asB r246.v fun b245 =>
                                some ⟨AV.bool b245, false, []⟩)
                              else
                                some ⟨AV.bool false, false, []⟩)
                            else
                              some ⟨AV.bool false, false, []⟩)
                          else
                            some ⟨AV.bool false, false, []⟩) (by kernel_rfl) ?_
  simp (config := { maxSteps := 100000000 }) only [law06DoubleRunes_L1_eq]
  kernel_rfl
theorem law06DoubleRunes_fit : fitF Tryd.prog law06DoubleRunes Tryd.f8 = true := by
  kernel_rfl
end Go.Proofs.YtpgcjcggnfagfaaDoor.Vf
