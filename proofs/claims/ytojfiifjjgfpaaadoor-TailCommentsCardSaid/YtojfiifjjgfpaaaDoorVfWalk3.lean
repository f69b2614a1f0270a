/- The code of the functions that the statements reach, as our evaluator takes it, and what each of them comes to, readably: printed by a program of ours. No condition. -/
import Derived.Test.YtojfiifjjgfpaaaDoorVfWalk2
namespace Go.Proofs.YtojfiifjjgfpaaaDoor.Vf
set_option linter.unusedVariables false
set_option linter.unusedSimpArgs false
set_option maxRecDepth 100000


def law04PlainParts_L1s (R : Nat → List AV → Option Res) (N : Nat) (go : Bool → List AV → Int → Int → Option Res) (k0 : Bool → Option Res) (k1 : Bool → Option Res) (b5 : Bool) (l1 : List AV) (i4 : Int) (i5 : Int) : Option Res :=
  bif decide ((i5 : Int) < i4) then
    (need (decide (0 ≤ (i5 : Int))) <|
    (l1[Int.toNat i5]?).bind fun e1 =>
    asS e1 fun s3 =>
    (R id_plainValid [AV.str s3, AV.bool b5]).bind fun r8 =>
    asB r8.v fun b6 =>
    bif b6 then
      (k0 false)
    else
      go b5 l1 i4 (IntKind.i64.wrap (i5 + 1)))
  else
    k1 b5
def law04PlainParts_L1 (R : Nat → List AV → Option Res) (N : Nat) (k0 : Bool → Option Res) (k1 : Bool → Option Res) : Nat → Bool → List AV → Int → Int → Option Res
  | 0, _, _, _, _ => none
  | n + 1, b5, l1, i4, i5 => law04PlainParts_L1s R N (law04PlainParts_L1 R N k0 k1 n) k0 k1 b5 l1 i4 i5
def law04PlainParts_c0 : AC := .seq (.region [.op (some 105) none (.bin .lss (.t 104) (.t 103))]) (.seq (.cond (.t 105) (.skip) (.exit 0 [1] [])) (.seq (.block 1 (.seq (.region [.op (some 106) none (.iaddr (.t 102) (.t 104) 1 (.str)), .op (some 107) none (.load (.t 106) none (.str)), .op (some 9) none (.mv (.t 107))]) (.seq (.region [.op (some 108) none (.mv (.t 9)), .op (some 109) none (.mv (.t 1)), .op (some 110) none (.call id_plainValid [.t 108, .t 109] (.bool))]) (.cond (.t 110) (.seq (.region [.op (some 4) none (.mv (.k (AV.bool false)))]) (.ret [4] [])) (.skip))))) (.region [.op (some 111) none (.bin .add (.t 104) (.k (AV.int .i64 1))), .op (some 104) none (.mv (.t 111))])))
theorem law04PlainParts_L1s_eq (R : Nat → List AV → Option Res) (N : Nat) (K : Ex → St → Option Res) (W : St → Option Res) (b5 : Bool) (l1 : List AV) (i4 : Int) (i5 : Int) :
    evC gl R N law04PlainParts_c0 (Kseq (fun st' => W (prune [1, 102, 103, 104] [] st')) K) ⟨[(1, .imm (AV.bool b5)), (102, .imm (AV.row 1 l1)), (103, .imm (AV.int .i64 i4)), (104, .imm (AV.int .i64 i5))], []⟩ =
    law04PlainParts_L1s R N (fun (b5 : Bool) (l1 : List AV) (i4 : Int) (i5 : Int) => W ⟨[(1, .imm (AV.bool b5)), (102, .imm (AV.row 1 l1)), (103, .imm (AV.int .i64 i4)), (104, .imm (AV.int .i64 i5))], []⟩) (fun (b7 : Bool) => K .ret ⟨[(4, .imm (AV.bool b7))], []⟩) (fun (b8 : Bool) => K (.exit 0) ⟨[(1, .imm (AV.bool b8))], []⟩) b5 l1 i4 i5 := by
  kernel_rfl
theorem law04PlainParts_L1_eq (R : Nat → List AV → Option Res) (N : Nat) (K : Ex → St → Option Res) : ∀ (n : Nat) (b5 : Bool) (l1 : List AV) (i4 : Int) (i5 : Int),
    rounds [1, 102, 103, 104] [] (evC gl R N law04PlainParts_c0) K n ⟨[(1, .imm (AV.bool b5)), (102, .imm (AV.row 1 l1)), (103, .imm (AV.int .i64 i4)), (104, .imm (AV.int .i64 i5))], []⟩ = law04PlainParts_L1 R N (fun (b7 : Bool) => K .ret ⟨[(4, .imm (AV.bool b7))], []⟩) (fun (b8 : Bool) => K (.exit 0) ⟨[(1, .imm (AV.bool b8))], []⟩) n b5 l1 i4 i5
  | 0, _, _, _, _ => rfl
  | n + 1, b5, l1, i4, i5 => (law04PlainParts_L1s_eq R N K (rounds [1, 102, 103, 104] [] (evC gl R N law04PlainParts_c0) K n) b5 l1 i4 i5).trans
      (congrArg (fun go => law04PlainParts_L1s R N go (fun (b7 : Bool) => K .ret ⟨[(4, .imm (AV.bool b7))], []⟩) (fun (b8 : Bool) => K (.exit 0) ⟨[(1, .imm (AV.bool b8))], []⟩) b5 l1 i4 i5) (funext fun b5 => funext fun l1 => funext fun i4 => funext fun i5 => law04PlainParts_L1_eq R N K n b5 l1 i4 i5))
def law04PlainParts_c1 : AC := .seq (.region [.op (some 112) none (.mv (.t 1)), .op (some 113) none (.call id_plainValid [.k (AV.str ([45, 97] : List UInt8)), .t 112] (.bool)), .op (some 114) none (.mv (.t 113)), .split 114, .op (some 115) (some (114, true)) (.mv (.t 1)), .op (some 116) (some (114, true)) (.call id_plainValid [.k (AV.str ([97, 58, 98] : List UInt8)), .t 115] (.bool)), .op (some 117) none (.pick (.t 114) (.t 116) (.k (AV.bool false))), .op (some 118) none (.mv (.t 117)), .split 118, .op (some 119) (some (118, true)) (.mv (.t 1)), .op (some 120) (some (118, true)) (.call id_plainValid [.k (AV.str ([97, 35, 98] : List UInt8)), .t 119] (.bool)), .op (some 121) none (.pick (.t 118) (.t 120) (.k (AV.bool false))), .op (some 122) none (.mv (.t 121)), .split 122, .op (some 123) (some (122, true)) (.call id_plainValid [.k (AV.str ([97, 44, 32, 98] : List UInt8)), .k (AV.bool false)] (.bool)), .op (some 124) none (.pick (.t 122) (.t 123) (.k (AV.bool false))), .op (some 125) none (.mv (.t 124)), .split 125, .op (some 126) (some (125, true)) (.call id_plainValid [.k (AV.str ([97, 44, 32, 98] : List UInt8)), .k (AV.bool true)] (.bool)), .op (some 127) (some (125, true)) (.un .not (.t 126)), .op (some 128) none (.pick (.t 125) (.t 127) (.k (AV.bool false))), .op (some 129) none (.mv (.t 128)), .split 129, .op (some 130) (some (129, true)) (.call id_law04Wakes [] (.bool)), .op (some 131) none (.pick (.t 129) (.t 130) (.k (AV.bool false))), .op (some 4) none (.mv (.t 131))]) (.ret [4] [])
def law04PlainParts_c2 : AC := .seq (.region [.op (some 4) none (.mv (.k (AV.bool false)))]) (.seq (.region [.op (some 10) none (.mv (.t 0)), .op (some 11) none (.call id_keepText [.t 10, .k (AV.int .i64 80)] (.str)), .op (some 0) none (.mv (.t 11))]) (.seq (.region [.op (some 12) none (.mv (.t 0)), .op (some 13) none (.cvBytes (.t 12)), .op (some 5) none (.mv (.t 13))]) (.seq (.region [.op (some 14) none (.mv (.t 5)), .op (some 15) none (.mv (.t 1)), .op (some 16) none (.call id_plainLength [.t 14, .t 15] (.int .i64)), .op (some 6) none (.mv (.t 16))]) (.seq (.seq (.region [.op (some 17) none (.mv (.t 6)), .op (some 18) none (.bin .lss (.t 17) (.k (AV.int .i64 0))), .op (some 19) none (.mv (.t 18)), .split 19, .op (some 20) (some (19, false)) (.mv (.t 6)), .op (some 21) (some (19, false)) (.mv (.t 5)), .op (some 22) (some (19, false)) (.len (.t 21) false), .op (some 23) (some (19, false)) (.bin .gtr (.t 20) (.t 22)), .op (some 24) none (.pick (.t 19) (.k (AV.bool true)) (.t 23)), .op (some 25) none (.mv (.t 24)), .split 25, .op (some 26) (some (25, false)) (.mv (.t 6)), .op (some 27) (some (25, false)) (.bin .gtr (.t 26) (.k (AV.int .i64 0))), .op (some 28) (some (25, false)) (.mv (.t 5)), .op (some 29) (some (25, false)) (.mv (.t 1)), .op (some 30) (some (25, false)) (.call id_plainStarts [.t 28, .t 29] (.bool)), .op (some 31) (some (25, false)) (.binB .neq (.t 27) (.t 30)), .op (some 32) none (.pick (.t 25) (.k (AV.bool true)) (.t 31)), .op (some 33) none (.mv (.t 32)), .split 33, .op (some 34) (some (33, false)) (.mv (.t 5)), .op (some 35) (some (33, false)) (.call id_plainLength [.t 34, .k (AV.bool true)] (.int .i64)), .op (some 36) (some (33, false)) (.mv (.t 5)), .op (some 37) (some (33, false)) (.call id_plainLength [.t 36, .k (AV.bool false)] (.int .i64)), .op (some 38) (some (33, false)) (.bin .gtr (.t 35) (.t 37)), .op (some 39) none (.pick (.t 33) (.k (AV.bool true)) (.t 38))]) (.cond (.t 39) (.seq (.region [.op (some 4) none (.mv (.k (AV.bool false)))]) (.ret [4] [])) (.skip))) (.seq (.region [.op (some 40) none (.mv (.t 6)), .op (some 41) none (.bin .eql (.t 40) (.k (AV.int .i64 1))), .op (some 42) none (.mv (.t 41)), .split 42, .op (some 43) (some (42, true)) (.mv (.t 5)), .op (some 44) (some (42, true)) (.iaddr (.t 43) (.k (AV.int .i64 0)) 1 (.int .u8)), .op (some 45) (some (42, true)) (.load (.t 44) none (.int .u8)), .op (some 46) (some (42, true)) (.bin .eql (.t 45) (.k (AV.int .u8 45))), .op (some 47) (some (42, true)) (.mv (.t 46)), .split 47, .op (some 48) (some (47, false)) (.mv (.t 5)), .op (some 49) (some (47, false)) (.iaddr (.t 48) (.k (AV.int .i64 0)) 1 (.int .u8)), .op (some 50) (some (47, false)) (.load (.t 49) none (.int .u8)), .op (some 51) (some (47, false)) (.bin .eql (.t 50) (.k (AV.int .u8 63))), .op (some 52) (some (42, true)) (.pick (.t 47) (.k (AV.bool true)) (.t 51)), .op (some 53) (some (42, true)) (.mv (.t 52)), .split 53, .op (some 54) (some (53, false)) (.mv (.t 5)), .op (some 55) (some (53, false)) (.iaddr (.t 54) (.k (AV.int .i64 0)) 1 (.int .u8)), .op (some 56) (some (53, false)) (.load (.t 55) none (.int .u8)), .op (some 57) (some (53, false)) (.bin .eql (.t 56) (.k (AV.int .u8 58))), .op (some 58) (some (42, true)) (.pick (.t 53) (.k (AV.bool true)) (.t 57)), .op (some 59) none (.pick (.t 42) (.t 58) (.k (AV.bool false))), .op (some 60) none (.mv (.t 59)), .split 60, .op (some 61) (some (60, false)) (.mv (.t 6)), .op (some 62) (some (60, false)) (.bin .gtr (.t 61) (.k (AV.int .i64 0))), .op (some 63) (some (60, false)) (.mv (.t 62)), .split 63, .op (some 64) (some (63, true)) (.mv (.t 5)), .op (some 65) (some (63, true)) (.mv (.t 6)), .op (some 66) (some (63, true)) (.bin .sub (.t 65) (.k (AV.int .i64 1))), .op (some 67) (some (63, true)) (.iaddr (.t 64) (.t 66) 1 (.int .u8)), .op (some 68) (some (63, true)) (.load (.t 67) none (.int .u8)), .op (some 69) (some (63, true)) (.bin .eql (.t 68) (.k (AV.int .u8 58))), .op (some 70) (some (60, false)) (.pick (.t 63) (.t 69) (.k (AV.bool false))), .op (some 71) none (.pick (.t 60) (.k (AV.bool true)) (.t 70)), .op (some 7) none (.mv (.t 71))]) (.seq (.seq (.region [.op (some 72) none (.mv (.t 6)), .op (some 73) none (.bin .gtr (.t 72) (.k (AV.int .i64 0))), .op (some 74) none (.mv (.t 73)), .split 74, .op (some 75) (some (74, true)) (.mv (.t 5)), .op (some 76) (some (74, true)) (.mv (.t 6)), .op (some 77) (some (74, true)) (.bin .sub (.t 76) (.k (AV.int .i64 1))), .op (some 78) (some (74, true)) (.iaddr (.t 75) (.t 77) 1 (.int .u8)), .op (some 79) (some (74, true)) (.load (.t 78) none (.int .u8)), .op (some 80) (some (74, true)) (.bin .eql (.t 79) (.k (AV.int .u8 32))), .op (some 81) (some (74, true)) (.mv (.t 80)), .split 81, .op (some 82) (some (81, false)) (.mv (.t 7)), .op (some 83) (some (81, false)) (.un .not (.t 82)), .op (some 84) (some (81, false)) (.mv (.t 83)), .split 84, .op (some 85) (some (84, true)) (.mv (.t 5)), .op (some 86) (some (84, true)) (.mv (.t 6)), .op (some 87) (some (84, true)) (.slice (.t 85) none (some (.t 86)) 1), .op (some 88) (some (84, true)) (.mv (.t 1)), .op (some 89) (some (84, true)) (.call id_plainLength [.t 87, .t 88] (.int .i64)), .op (some 90) (some (84, true)) (.mv (.t 6)), .op (some 91) (some (84, true)) (.bin .neq (.t 89) (.t 90)), .op (some 92) (some (81, false)) (.pick (.t 84) (.t 91) (.k (AV.bool false))), .op (some 93) (some (74, true)) (.pick (.t 81) (.k (AV.bool true)) (.t 92)), .op (some 94) none (.pick (.t 74) (.t 93) (.k (AV.bool false)))]) (.cond (.t 94) (.seq (.region [.op (some 4) none (.mv (.k (AV.bool false)))]) (.ret [4] [])) (.skip))) (.seq (.seq (.region [.op (some 95) none (.mv (.t 0)), .op (some 96) none (.call id_plainValid [.t 95, .k (AV.bool true)] (.bool)), .op (some 97) none (.mv (.t 96)), .split 97, .op (some 98) (some (97, true)) (.mv (.t 0)), .op (some 99) (some (97, true)) (.call id_plainValid [.t 98, .k (AV.bool false)] (.bool)), .op (some 100) (some (97, true)) (.un .not (.t 99)), .op (some 101) none (.pick (.t 97) (.t 100) (.k (AV.bool false)))]) (.cond (.t 101) (.seq (.region [.op (some 4) none (.mv (.k (AV.bool false)))]) (.ret [4] [])) (.skip))) (.seq (.seq (.region [.op (some 102) none (.bslice [.k (AV.str ([] : List UInt8)), .k (AV.str ([45, 32, 97] : List UInt8)), .k (AV.str ([63, 32, 97] : List UInt8)), .k (AV.str ([58, 32, 97] : List UInt8)), .k (AV.str ([45] : List UInt8)), .k (AV.str ([35, 97] : List UInt8)), .k (AV.str ([38, 97] : List UInt8)), .k (AV.str ([42, 97] : List UInt8)), .k (AV.str ([33, 97] : List UInt8)), .k (AV.str ([124] : List UInt8)), .k (AV.str ([62] : List UInt8)), .k (AV.str ([39, 97, 39] : List UInt8)), .k (AV.str ([34, 97, 34] : List UInt8)), .k (AV.str ([37, 97] : List UInt8)), .k (AV.str ([64, 97] : List UInt8)), .k (AV.str ([96, 97] : List UInt8)), .k (AV.str ([91, 97] : List UInt8)), .k (AV.str ([123, 97] : List UInt8)), .k (AV.str ([93] : List UInt8)), .k (AV.str ([125] : List UInt8)), .k (AV.str ([44, 97] : List UInt8)), .k (AV.str ([45, 45, 45, 32, 97] : List UInt8)), .k (AV.str ([46, 46, 46] : List UInt8)), .k (AV.str ([97, 58, 32, 98] : List UInt8)), .k (AV.str ([97, 32, 35, 98] : List UInt8)), .k (AV.str ([32, 97] : List UInt8)), .k (AV.str ([97, 32] : List UInt8)), .k (AV.str ([97, 9, 98] : List UInt8)), .k (AV.str ([97, 58] : List UInt8)), .k (AV.str ([97, 10, 98] : List UInt8))] 1 false), .op (some 103) none (.len (.t 102) false), .op (some 104) none (.mv (.k (AV.int .i64 0)))]) (.block 0 (.loop [1, 102, 103, 104] [] (law04PlainParts_c0)))) (law04PlainParts_c1)))))))))
def law04PlainParts : AFunc := ⟨2, 132, [.tmp 4], law04PlainParts_c2⟩
def law04PlainPartsr (R : Nat → List AV → Option Res) (N : Nat) (s1 : List UInt8) (b1 : Bool) : Option Res :=
  (R id_keepText [AV.str s1, AV.int .i64 80]).bind fun r1 =>
  asS r1.v fun s2 =>
  (R id_plainLength [AV.bytes s2, AV.bool b1]).bind fun r2 =>
  asI .i64 r2.v fun i1 =>
  bif decide ((i1 : Int) < 0) then
    (some ⟨AV.bool false, false, []⟩)
  else
    bif decide ((i1 : Int) > ((s2.length : Nat) : Int)) then
      (some ⟨AV.bool false, false, []⟩)
    else
      (R id_plainStarts [AV.bytes s2, AV.bool b1]).bind fun r3 =>
      asB r3.v fun b2 =>
      bif !((decide ((i1 : Int) > 0)) == b2) then
        (some ⟨AV.bool false, false, []⟩)
      else
        (R id_plainLength [AV.bytes s2, AV.bool true]).bind fun r4 =>
        asI .i64 r4.v fun i2 =>
        (R id_plainLength [AV.bytes s2, AV.bool false]).bind fun r5 =>
        asI .i64 r5.v fun i3 =>
        bif decide ((i2 : Int) > i3) then
          (some ⟨AV.bool false, false, []⟩)
        else
          bif (i1 : Int) == 1 then
            (need (decide (0 ≤ (0 : Int))) <|
            (s2[Int.toNat 0]?).bind fun c1 =>
            bif ((c1.toNat : Int) : Int) == 45 then
              (bif decide ((i1 : Int) > 0) then
                (need (decide (0 ≤ (IntKind.i64.wrap (i1 - 1) : Int))) <|
                (s2[Int.toNat (IntKind.i64.wrap (i1 - 1))]?).bind fun c2 =>
                bif ((c2.toNat : Int) : Int) == 32 then
                  (some ⟨AV.bool false, false, []⟩)
                else
                  (R id_plainValid [AV.str s2, AV.bool true]).bind fun r6 =>
                  asB r6.v fun b3 =>
                  bif b3 then
                    ((R id_plainValid [AV.str s2, AV.bool false]).bind fun r7 =>
                    asB r7.v fun b4 =>
                    bif !b4 then
                      (some ⟨AV.bool false, false, []⟩)
                    else
                      law04PlainParts_L1 R N
                        (fun b11 =>
                          some ⟨AV.bool b11, false, []⟩)
                        (fun b12 =>
                          (R id_plainValid [AV.str ([45, 97] : List UInt8), AV.bool b12]).bind fun r9 =>
                          asB r9.v fun b13 =>
                          bif b13 then
                            ((R id_plainValid [AV.str ([97, 58, 98] : List UInt8), AV.bool b12]).bind fun r10 =>
                            asB r10.v fun b14 =>
                            bif b14 then
                              ((R id_plainValid [AV.str ([97, 35, 98] : List UInt8), AV.bool b12]).bind fun r11 =>
                              asB r11.v fun b15 =>
                              bif b15 then
                                ((R id_plainValid [AV.str ([97, 44, 32, 98] : List UInt8), AV.bool false]).bind fun r12 =>
                                asB r12.v fun b16 =>
                                bif b16 then
                                  ((R id_plainValid [AV.str ([97, 44, 32, 98] : List UInt8), AV.bool true]).bind fun r13 =>
                                  asB r13.v fun b17 =>
                                  bif !b17 then
                                    ((R id_law04Wakes []).bind fun r14 =>
                                    asB r14.v fun b18 =>
                                    some ⟨AV.bool b18, false, []⟩)
                                  else
                                    some ⟨AV.bool false, false, []⟩)
                                else
                                  some ⟨AV.bool false, false, []⟩)
                              else
                                some ⟨AV.bool false, false, []⟩)
                            else
                              some ⟨AV.bool false, false, []⟩)
                          else
                            some ⟨AV.bool false, false, []⟩)
                        N b1 [AV.str ([] : List UInt8), AV.str ([45, 32, 97] : List UInt8), AV.str ([63, 32, 97] : List UInt8), AV.str ([58, 32, 97] : List UInt8), AV.str ([45] : List UInt8), AV.str ([35, 97] : List UInt8), AV.str ([38, 97] : List UInt8), AV.str ([42, 97] : List UInt8), AV.str ([33, 97] : List UInt8), AV.str ([124] : List UInt8), AV.str ([62] : List UInt8), AV.str ([39, 97, 39] : List UInt8), AV.str ([34, 97, 34] : List UInt8), AV.str ([37, 97] : List UInt8), AV.str ([64, 97] : List UInt8), AV.str ([96, 97] : List UInt8), AV.str ([91, 97] : List UInt8), AV.str ([123, 97] : List UInt8), AV.str ([93] : List UInt8), AV.str ([125] : List UInt8), AV.str ([44, 97] : List UInt8), AV.str ([45, 45, 45, 32, 97] : List UInt8), AV.str ([46, 46, 46] : List UInt8), AV.str ([97, 58, 32, 98] : List UInt8), AV.str ([97, 32, 35, 98] : List UInt8), AV.str ([32, 97] : List UInt8), AV.str ([97, 32] : List UInt8), AV.str ([97, 9, 98] : List UInt8), AV.str ([97, 58] : List UInt8), AV.str ([97, 10, 98] : List UInt8)] (([AV.str ([] : List UInt8), AV.str ([45, 32, 97] : List UInt8), AV.str ([63, 32, 97] : List UInt8), AV.str ([58, 32, 97] : List UInt8), AV.str ([45] : List UInt8), AV.str ([35, 97] : List UInt8), AV.str ([38, 97] : List UInt8), AV.str ([42, 97] : List UInt8), AV.str ([33, 97] : List UInt8), AV.str ([124] : List UInt8), AV.str ([62] : List UInt8), AV.str ([39, 97, 39] : List UInt8), AV.str ([34, 97, 34] : List UInt8), AV.str ([37, 97] : List UInt8), AV.str ([64, 97] : List UInt8), AV.str ([96, 97] : List UInt8), AV.str ([91, 97] : List UInt8), AV.str ([123, 97] : List UInt8), AV.str ([93] : List UInt8), AV.str ([125] : List UInt8), AV.str ([44, 97] : List UInt8), AV.str ([45, 45, 45, 32, 97] : List UInt8), AV.str ([46, 46, 46] : List UInt8), AV.str ([97, 58, 32, 98] : List UInt8), AV.str ([97, 32, 35, 98] : List UInt8), AV.str ([32, 97] : List UInt8), AV.str ([97, 32] : List UInt8), AV.str ([97, 9, 98] : List UInt8), AV.str ([97, 58] : List UInt8), AV.str ([97, 10, 98] : List UInt8)].length : Nat) : Int) 0)
                  else
                    law04PlainParts_L1 R N
                      (fun b19 =>
                        some ⟨AV.bool b19, false, []⟩)
                      (fun b20 =>
                        (R id_plainValid [AV.str ([45, 97] : List UInt8), AV.bool b20]).bind fun r15 =>
                        asB r15.v fun b21 =>
                        bif b21 then
                          ((R id_plainValid [AV.str ([97, 58, 98] : List UInt8), AV.bool b20]).bind fun r16 =>
                          asB r16.v fun b22 =>
                          bif b22 then
                            ((R id_plainValid [AV.str ([97, 35, 98] : List UInt8), AV.bool b20]).bind fun r17 =>
                            asB r17.v fun b23 =>
                            bif b23 then
                              ((R id_plainValid [AV.str ([97, 44, 32, 98] : List UInt8), AV.bool false]).bind fun r18 =>
                              asB r18.v fun b24 =>
                              bif b24 then
                                ((R id_plainValid [AV.str ([97, 44, 32, 98] : List UInt8), AV.bool true]).bind fun r19 =>
                                asB r19.v fun b25 =>
                                bif !b25 then
                                  ((R id_law04Wakes []).bind fun r20 =>
                                  asB r20.v fun b26 =>
                                  some ⟨AV.bool b26, false, []⟩)
                                else
                                  some ⟨AV.bool false, false, []⟩)
                              else
                                some ⟨AV.bool false, false, []⟩)
                            else
                              some ⟨AV.bool false, false, []⟩)
                          else
                            some ⟨AV.bool false, false, []⟩)
                        else
                          some ⟨AV.bool false, false, []⟩)
                      N b1 [AV.str ([] : List UInt8), AV.str ([45, 32, 97] : List UInt8), AV.str ([63, 32, 97] : List UInt8), AV.str ([58, 32, 97] : List UInt8), AV.str ([45] : List UInt8), AV.str ([35, 97] : List UInt8), AV.str ([38, 97] : List UInt8), AV.str ([42, 97] : List UInt8), AV.str ([33, 97] : List UInt8), AV.str ([124] : List UInt8), AV.str ([62] : List UInt8), AV.str ([39, 97, 39] : List UInt8), AV.str ([34, 97, 34] : List UInt8), AV.str ([37, 97] : List UInt8), AV.str ([64, 97] : List UInt8), AV.str ([96, 97] : List UInt8), AV.str ([91, 97] : List UInt8), AV.str ([123, 97] : List UInt8), AV.str ([93] : List UInt8), AV.str ([125] : List UInt8), AV.str ([44, 97] : List UInt8), AV.str ([45, 45, 45, 32, 97] : List UInt8), AV.str ([46, 46, 46] : List UInt8), AV.str ([97, 58, 32, 98] : List UInt8), AV.str ([97, 32, 35, 98] : List UInt8), AV.str ([32, 97] : List UInt8), AV.str ([97, 32] : List UInt8), AV.str ([97, 9, 98] : List UInt8), AV.str ([97, 58] : List UInt8), AV.str ([97, 10, 98] : List UInt8)] (([AV.str ([] : List UInt8), AV.str ([45, 32, 97] : List UInt8), AV.str ([63, 32, 97] : List UInt8), AV.str ([58, 32, 97] : List UInt8), AV.str ([45] : List UInt8), AV.str ([35, 97] : List UInt8), AV.str ([38, 97] : List UInt8), AV.str ([42, 97] : List UInt8), AV.str ([33, 97] : List UInt8), AV.str ([124] : List UInt8), AV.str ([62] : List UInt8), AV.str ([39, 97, 39] : List UInt8), AV.str ([34, 97, 34] : List UInt8), AV.str ([37, 97] : List UInt8), AV.str ([64, 97] : List UInt8), AV.str ([96, 97] : List UInt8), AV.str ([91, 97] : List UInt8), AV.str ([123, 97] : List UInt8), AV.str ([93] : List UInt8), AV.str ([125] : List UInt8), AV.str ([44, 97] : List UInt8), AV.str ([45, 45, 45, 32, 97] : List UInt8), AV.str ([46, 46, 46] : List UInt8), AV.str ([97, 58, 32, 98] : List UInt8), AV.str ([97, 32, 35, 98] : List UInt8), AV.str ([32, 97] : List UInt8), AV.str ([97, 32] : List UInt8), AV.str ([97, 9, 98] : List UInt8), AV.str ([97, 58] : List UInt8), AV.str ([97, 10, 98] : List UInt8)].length : Nat) : Int) 0)
              else
                (R id_plainValid [AV.str s2, AV.bool true]).bind fun r21 =>
                asB r21.v fun b27 =>
                bif b27 then
                  ((R id_plainValid [AV.str s2, AV.bool false]).bind fun r22 =>
                  asB r22.v fun b28 =>
                  bif !b28 then
                    (some ⟨AV.bool false, false, []⟩)
                  else
                    law04PlainParts_L1 R N
                      (fun b29 =>
                        some ⟨AV.bool b29, false, []⟩)
                      (fun b30 =>
                        (R id_plainValid [AV.str ([45, 97] : List UInt8), AV.bool b30]).bind fun r23 =>
                        asB r23.v fun b31 =>
                        bif b31 then
                          ((R id_plainValid [AV.str ([97, 58, 98] : List UInt8), AV.bool b30]).bind fun r24 =>
                          asB r24.v fun b32 =>
                          bif b32 then
                            ((R id_plainValid [AV.str ([97, 35, 98] : List UInt8), AV.bool b30]).bind fun r25 =>
                            asB r25.v fun b33 =>
                            bif b33 then
                              ((R id_plainValid [AV.str ([97, 44, 32, 98] : List UInt8), AV.bool false]).bind fun r26 =>
                              asB r26.v fun b34 =>
                              bif b34 then
                                ((R id_plainValid [AV.str ([97, 44, 32, 98] : List UInt8), AV.bool true]).bind fun r27 =>
                                asB r27.v fun b35 =>
                                bif !b35 then
                                  ((R id_law04Wakes []).bind fun r28 =>
                                  asB r28.v fun b36 =>
                                  some ⟨AV.bool b36, false, []⟩)
                                else
                                  some ⟨AV.bool false, false, []⟩)
                              else
                                some ⟨AV.bool false, false, []⟩)
                            else
                              some ⟨AV.bool false, false, []⟩)
                          else
                            some ⟨AV.bool false, false, []⟩)
                        else
                          some ⟨AV.bool false, false, []⟩)
                      N b1 [AV.str ([] : List UInt8), AV.str ([45, 32, 97] : List UInt8), AV.str ([63, 32, 97] : List UInt8), AV.str ([58, 32, 97] : List UInt8), AV.str ([45] : List UInt8), AV.str ([35, 97] : List UInt8), AV.str ([38, 97] : List UInt8), AV.str ([42, 97] : List UInt8), AV.str ([33, 97] : List UInt8), AV.str ([124] : List UInt8), AV.str ([62] : List UInt8), AV.str ([39, 97, 39] : List UInt8), AV.str ([34, 97, 34] : List UInt8), AV.str ([37, 97] : List UInt8), AV.str ([64, 97] : List UInt8), AV.str ([96, 97] : List UInt8), AV.str ([91, 97] : List UInt8), AV.str ([123, 97] : List UInt8), AV.str ([93] : List UInt8), AV.str ([125] : List UInt8), AV.str ([44, 97] : List UInt8), AV.str ([45, 45, 45, 32, 97] : List UInt8), AV.str ([46, 46, 46] : List UInt8), AV.str ([97, 58, 32, 98] : List UInt8), AV.str ([97, 32, 35, 98] : List UInt8), AV.str ([32, 97] : List UInt8), AV.str ([97, 32] : List UInt8), AV.str ([97, 9, 98] : List UInt8), AV.str ([97, 58] : List UInt8), AV.str ([97, 10, 98] : List UInt8)] (([AV.str ([] : List UInt8), AV.str ([45, 32, 97] : List UInt8), AV.str ([63, 32, 97] : List UInt8), AV.str ([58, 32, 97] : List UInt8), AV.str ([45] : List UInt8), AV.str ([35, 97] : List UInt8), AV.str ([38, 97] : List UInt8), AV.str ([42, 97] : List UInt8), AV.str ([33, 97] : List UInt8), AV.str ([124] : List UInt8), AV.str ([62] : List UInt8), AV.str ([39, 97, 39] : List UInt8), AV.str ([34, 97, 34] : List UInt8), AV.str ([37, 97] : List UInt8), AV.str ([64, 97] : List UInt8), AV.str ([96, 97] : List UInt8), AV.str ([91, 97] : List UInt8), AV.str ([123, 97] : List UInt8), AV.str ([93] : List UInt8), AV.str ([125] : List UInt8), AV.str ([44, 97] : List UInt8), AV.str ([45, 45, 45, 32, 97] : List UInt8), AV.str ([46, 46, 46] : List UInt8), AV.str ([97, 58, 32, 98] : List UInt8), AV.str ([97, 32, 35, 98] : List UInt8), AV.str ([32, 97] : List UInt8), AV.str ([97, 32] : List UInt8), AV.str ([97, 9, 98] : List UInt8), AV.str ([97, 58] : List UInt8), AV.str ([97, 10, 98] : List UInt8)].length : Nat) : Int) 0)
                else
                  law04PlainParts_L1 R N
                    (fun b37 =>
                      some ⟨AV.bool b37, false, []⟩)
                    (fun b38 =>
                      (R id_plainValid [AV.str ([45, 97] : List UInt8), AV.bool b38]).bind fun r29 =>
                      asB r29.v fun b39 =>
                      bif b39 then
                        ((R id_plainValid [AV.str ([97, 58, 98] : List UInt8), AV.bool b38]).bind fun r30 =>
                        asB r30.v fun b40 =>
                        bif b40 then
                          ((R id_plainValid [AV.str ([97, 35, 98] : List UInt8), AV.bool b38]).bind fun r31 =>
                          asB r31.v fun b41 =>
                          bif b41 then
                            ((R id_plainValid [AV.str ([97, 44, 32, 98] : List UInt8), AV.bool false]).bind fun r32 =>
                            asB r32.v fun b42 =>
                            bif b42 then
                              ((R id_plainValid [AV.str ([97, 44, 32, 98] : List UInt8), AV.bool true]).bind fun r33 =>
                              asB r33.v fun b43 =>
                              bif !b43 then
                                ((R id_law04Wakes []).bind fun r34 =>
                                asB r34.v fun b44 =>
                                some ⟨AV.bool b44, false, []⟩)
                              else
                                some ⟨AV.bool false, false, []⟩)
                            else
                              some ⟨AV.bool false, false, []⟩)
                          else
                            some ⟨AV.bool false, false, []⟩)
                        else
                          some ⟨AV.bool false, false, []⟩)
                      else
                        some ⟨AV.bool false, false, []⟩)
                    N b1 [AV.str ([] : List UInt8), AV.str ([45, 32, 97] : List UInt8), AV.str ([63, 32, 97] : List UInt8), AV.str ([58, 32, 97] : List UInt8), AV.str ([45] : List UInt8), AV.str ([35, 97] : List UInt8), AV.str ([38, 97] : List UInt8), AV.str ([42, 97] : List UInt8), AV.str ([33, 97] : List UInt8), AV.str ([124] : List UInt8), AV.str ([62] : List UInt8), AV.str ([39, 97, 39] : List UInt8), AV.str ([34, 97, 34] : List UInt8), AV.str ([37, 97] : List UInt8), AV.str ([64, 97] : List UInt8), AV.str ([96, 97] : List UInt8), AV.str ([91, 97] : List UInt8), AV.str ([123, 97] : List UInt8), AV.str ([93] : List UInt8), AV.str ([125] : List UInt8), AV.str ([44, 97] : List UInt8), AV.str ([45, 45, 45, 32, 97] : List UInt8), AV.str ([46, 46, 46] : List UInt8), AV.str ([97, 58, 32, 98] : List UInt8), AV.str ([97, 32, 35, 98] : List UInt8), AV.str ([32, 97] : List UInt8), AV.str ([97, 32] : List UInt8), AV.str ([97, 9, 98] : List UInt8), AV.str ([97, 58] : List UInt8), AV.str ([97, 10, 98] : List UInt8)] (([AV.str ([] : List UInt8), AV.str ([45, 32, 97] : List UInt8), AV.str ([63, 32, 97] : List UInt8), AV.str ([58, 32, 97] : List UInt8), AV.str ([45] : List UInt8), AV.str ([35, 97] : List UInt8), AV.str ([38, 97] : List UInt8), AV.str ([42, 97] : List UInt8), AV.str ([33, 97] : List UInt8), AV.str ([124] : List UInt8), AV.str ([62] : List UInt8), AV.str ([39, 97, 39] : List UInt8), AV.str ([34, 97, 34] : List UInt8), AV.str ([37, 97] : List UInt8), AV.str ([64, 97] : List UInt8), AV.str ([96, 97] : List UInt8), AV.str ([91, 97] : List UInt8), AV.str ([123, 97] : List UInt8), AV.str ([93] : List UInt8), AV.str ([125] : List UInt8), AV.str ([44, 97] : List UInt8), AV.str ([45, 45, 45, 32, 97] : List UInt8), AV.str ([46, 46, 46] : List UInt8), AV.str ([97, 58, 32, 98] : List UInt8), AV.str ([97, 32, 35, 98] : List UInt8), AV.str ([32, 97] : List UInt8), AV.str ([97, 32] : List UInt8), AV.str ([97, 9, 98] : List UInt8), AV.str ([97, 58] : List UInt8), AV.str ([97, 10, 98] : List UInt8)].length : Nat) : Int) 0)
            else
              need (decide (0 ≤ (0 : Int))) <|
              (s2[Int.toNat 0]?).bind fun c3 =>
              bif ((c3.toNat : Int) : Int) == 63 then
                (bif decide ((i1 : Int) > 0) then
                  (need (decide (0 ≤ (IntKind.i64.wrap (i1 - 1) : Int))) <|
                  (s2[Int.toNat (IntKind.i64.wrap (i1 - 1))]?).bind fun c4 =>
                  bif ((c4.toNat : Int) : Int) == 32 then
                    (some ⟨AV.bool false, false, []⟩)
                  else
                    (R id_plainValid [AV.str s2, AV.bool true]).bind fun r35 =>
                    asB r35.v fun b45 =>
                    bif b45 then
                      ((R id_plainValid [AV.str s2, AV.bool false]).bind fun r36 =>
                      asB r36.v fun b46 =>
                      bif !b46 then
                        (some ⟨AV.bool false, false, []⟩)
                      else
                        law04PlainParts_L1 R N
                          (fun b47 =>
                            some ⟨AV.bool b47, false, []⟩)
                          (fun b48 =>
                            (R id_plainValid [AV.str ([45, 97] : List UInt8), AV.bool b48]).bind fun r37 =>
                            asB r37.v fun b49 =>
                            bif b49 then
                              ((R id_plainValid [AV.str ([97, 58, 98] : List UInt8), AV.bool b48]).bind fun r38 =>
                              asB r38.v fun b50 =>
                              bif b50 then
                                ((R id_plainValid [AV.str ([97, 35, 98] : List UInt8), AV.bool b48]).bind fun r39 =>
                                asB r39.v fun b51 =>
                                bif b51 then
                                  ((R id_plainValid [AV.str ([97, 44, 32, 98] : List UInt8), AV.bool false]).bind fun r40 =>
                                  asB r40.v fun b52 =>
                                  bif b52 then
                                    ((R id_plainValid [AV.str ([97, 44, 32, 98] : List UInt8), AV.bool true]).bind fun r41 =>
                                    asB r41.v fun b53 =>
                                    bif !b53 then
                                      ((R id_law04Wakes []).bind fun r42 =>
                                      asB r42.v fun b54 =>
                                      some ⟨AV.bool b54, false, []⟩)
                                    else
                                      some ⟨AV.bool false, false, []⟩)
                                  else
                                    some ⟨AV.bool false, false, []⟩)
                                else
                                  some ⟨AV.bool false, false, []⟩)
                              else
                                some ⟨AV.bool false, false, []⟩)
                            else
                              some ⟨AV.bool false, false, []⟩)
                          N b1 [AV.str ([] : List UInt8), AV.str ([45, 32, 97] : List UInt8), AV.str ([63, 32, 97] : List UInt8), AV.str ([58, 32, 97] : List UInt8), AV.str ([45] : List UInt8), AV.str ([35, 97] : List UInt8), AV.str ([38, 97] : List UInt8), AV.str ([42, 97] : List UInt8), AV.str ([33, 97] : List UInt8), AV.str ([124] : List UInt8), AV.str ([62] : List UInt8), AV.str ([39, 97, 39] : List UInt8), AV.str ([34, 97, 34] : List UInt8), AV.str ([37, 97] : List UInt8), AV.str ([64, 97] : List UInt8), AV.str ([96, 97] : List UInt8), AV.str ([91, 97] : List UInt8), AV.str ([123, 97] : List UInt8), AV.str ([93] : List UInt8), AV.str ([125] : List UInt8), AV.str ([44, 97] : List UInt8), AV.str ([45, 45, 45, 32, 97] : List UInt8), AV.str ([46, 46, 46] : List UInt8), AV.str ([97, 58, 32, 98] : List UInt8), AV.str ([97, 32, 35, 98] : List UInt8), AV.str ([32, 97] : List UInt8), AV.str ([97, 32] : List UInt8), AV.str ([97, 9, 98] : List UInt8), AV.str ([97, 58] : List UInt8), AV.str ([97, 10, 98] : List UInt8)] (([AV.str ([] : List UInt8), AV.str ([45, 32, 97] : List UInt8), AV.str ([63, 32, 97] : List UInt8), AV.str ([58, 32, 97] : List UInt8), AV.str ([45] : List UInt8), AV.str ([35, 97] : List UInt8), AV.str ([38, 97] : List UInt8), AV.str ([42, 97] : List UInt8), AV.str ([33, 97] : List UInt8), AV.str ([124] : List UInt8), AV.str ([62] : List UInt8), AV.str ([39, 97, 39] : List UInt8), AV.str ([34, 97, 34] : List UInt8), AV.str ([37, 97] : List UInt8), AV.str ([64, 97] : List UInt8), AV.str ([96, 97] : List UInt8), AV.str ([91, 97] : List UInt8), AV.str ([123, 97] : List UInt8), AV.str ([93] : List UInt8), AV.str ([125] : List UInt8), AV.str ([44, 97] : List UInt8), AV.str ([45, 45, 45, 32, 97] : List UInt8), AV.str ([46, 46, 46] : List UInt8), AV.str ([97, 58, 32, 98] : List UInt8), AV.str ([97, 32, 35, 98] : List UInt8), AV.str ([32, 97] : List UInt8), AV.str ([97, 32] : List UInt8), AV.str ([97, 9, 98] : List UInt8), AV.str ([97, 58] : List UInt8), AV.str ([97, 10, 98] : List UInt8)].length : Nat) : Int) 0)
                    else
                      law04PlainParts_L1 R N
                        (fun b55 =>
                          some ⟨AV.bool b55, false, []⟩)
                        (fun b56 =>
                          (R id_plainValid [AV.str ([45, 97] : List UInt8), AV.bool b56]).bind fun r43 =>
                          asB r43.v fun b57 =>
                          bif b57 then
                            ((R id_plainValid [AV.str ([97, 58, 98] : List UInt8), AV.bool b56]).bind fun r44 =>
                            asB r44.v fun b58 =>
                            bif b58 then
                              ((R id_plainValid [AV.str ([97, 35, 98] : List UInt8), AV.bool b56]).bind fun r45 =>
                              asB r45.v fun b59 =>
                              bif b59 then
                                ((R id_plainValid [AV.str ([97, 44, 32, 98] : List UInt8), AV.bool false]).bind fun r46 =>
                                asB r46.v fun b60 =>
                                bif b60 then
                                  ((R id_plainValid [AV.str ([97, 44, 32, 98] : List UInt8), AV.bool true]).bind fun r47 =>
                                  asB r47.v fun b61 =>
                                  bif !b61 then
                                    ((R id_law04Wakes []).bind fun r48 =>
                                    asB r48.v fun b62 =>
                                    some ⟨AV.bool b62, false, []⟩)
                                  else
                                    some ⟨AV.bool false, false, []⟩)
                                else
                                  some ⟨AV.bool false, false, []⟩)
                              else
                                some ⟨AV.bool false, false, []⟩)
                            else
                              some ⟨AV.bool false, false, []⟩)
                          else
                            some ⟨AV.bool false, false, []⟩)
                        N b1 [AV.str ([] : List UInt8), AV.str ([45, 32, 97] : List UInt8), AV.str ([63, 32, 97] : List UInt8), AV.str ([58, 32, 97] : List UInt8), AV.str ([45] : List UInt8), AV.str ([35, 97] : List UInt8), AV.str ([38, 97] : List UInt8), AV.str ([42, 97] : List UInt8), AV.str ([33, 97] : List UInt8), AV.str ([124] : List UInt8), AV.str ([62] : List UInt8), AV.str ([39, 97, 39] : List UInt8), AV.str ([34, 97, 34] : List UInt8), AV.str ([37, 97] : List UInt8), AV.str ([64, 97] : List UInt8), AV.str ([96, 97] : List UInt8), AV.str ([91, 97] : List UInt8), AV.str ([123, 97] : List UInt8), AV.str ([93] : List UInt8), AV.str ([125] : List UInt8), AV.str ([44, 97] : List UInt8), AV.str ([45, 45, 45, 32, 97] : List UInt8), AV.str ([46, 46, 46] : List UInt8), AV.str ([97, 58, 32, 98] : List UInt8), AV.str ([97, 32, 35, 98] : List UInt8), AV.str ([32, 97] : List UInt8), AV.str ([97, 32] : List UInt8), AV.str ([97, 9, 98] : List UInt8), AV.str ([97, 58] : List UInt8), AV.str ([97, 10, 98] : List UInt8)] (([AV.str ([] : List UInt8), AV.str ([45, 32, 97] : List UInt8), AV.str ([63, 32, 97] : List UInt8), AV.str ([58, 32, 97] : List UInt8), AV.str ([45] : List UInt8), AV.str ([35, 97] : List UInt8), AV.str ([38, 97] : List UInt8), AV.str ([42, 97] : List UInt8), AV.str ([33, 97] : List UInt8), AV.str ([124] : List UInt8), AV.str ([62] : List UInt8), AV.str ([39, 97, 39] : List UInt8), AV.str ([34, 97, 34] : List UInt8), AV.str ([37, 97] : List UInt8), AV.str ([64, 97] : List UInt8), AV.str ([96, 97] : List UInt8), AV.str ([91, 97] : List UInt8), AV.str ([123, 97] : List UInt8), AV.str ([93] : List UInt8), AV.str ([125] : List UInt8), AV.str ([44, 97] : List UInt8), AV.str ([45, 45, 45, 32, 97] : List UInt8), AV.str ([46, 46, 46] : List UInt8), AV.str ([97, 58, 32, 98] : List UInt8), AV.str ([97, 32, 35, 98] : List UInt8), AV.str ([32, 97] : List UInt8), AV.str ([97, 32] : List UInt8), AV.str ([97, 9, 98] : List UInt8), AV.str ([97, 58] : List UInt8), AV.str ([97, 10, 98] : List UInt8)].length : Nat) : Int) 0)
                else
                  (R id_plainValid [AV.str s2, AV.bool true]).bind fun r49 =>
                  asB r49.v fun b63 =>
                  bif b63 then
                    ((R id_plainValid [AV.str s2, AV.bool false]).bind fun r50 =>
                    asB r50.v fun b64 =>
                    bif !b64 then
                      (some ⟨AV.bool false, false, []⟩)
                    else
                      law04PlainParts_L1 R N
                        (fun b65 =>
                          some ⟨AV.bool b65, false, []⟩)
                        (fun b66 =>
                          (R id_plainValid [AV.str ([45, 97] : List UInt8), AV.bool b66]).bind fun r51 =>
                          asB r51.v fun b67 =>
                          bif b67 then
                            ((R id_plainValid [AV.str ([97, 58, 98] : List UInt8), AV.bool b66]).bind fun r52 =>
                            asB r52.v fun b68 =>
                            bif b68 then
                              ((R id_plainValid [AV.str ([97, 35, 98] : List UInt8), AV.bool b66]).bind fun r53 =>
                              asB r53.v fun b69 =>
                              bif b69 then
                                ((R id_plainValid [AV.str ([97, 44, 32, 98] : List UInt8), AV.bool false]).bind fun r54 =>
                                asB r54.v fun b70 =>
                                bif b70 then
                                  ((R id_plainValid [AV.str ([97, 44, 32, 98] : List UInt8), AV.bool true]).bind fun r55 =>
                                  asB r55.v fun b71 =>
                                  bif !b71 then
                                    ((R id_law04Wakes []).bind fun r56 =>
                                    asB r56.v fun b72 =>
                                    some ⟨AV.bool b72, false, []⟩)
                                  else
                                    some ⟨AV.bool false, false, []⟩)
                                else
                                  some ⟨AV.bool false, false, []⟩)
                              else
                                some ⟨AV.bool false, false, []⟩)
                            else
                              some ⟨AV.bool false, false, []⟩)
                          else
                            some ⟨AV.bool false, false, []⟩)
                        N b1 [AV.str ([] : List UInt8), AV.str ([45, 32, 97] : List UInt8), AV.str ([63, 32, 97] : List UInt8), AV.str ([58, 32, 97] : List UInt8), AV.str ([45] : List UInt8), AV.str ([35, 97] : List UInt8), AV.str ([38, 97] : List UInt8), AV.str ([42, 97] : List UInt8), AV.str ([33, 97] : List UInt8), AV.str ([124] : List UInt8), AV.str ([62] : List UInt8), AV.str ([39, 97, 39] : List UInt8), AV.str ([34, 97, 34] : List UInt8), AV.str ([37, 97] : List UInt8), AV.str ([64, 97] : List UInt8), AV.str ([96, 97] : List UInt8), AV.str ([91, 97] : List UInt8), AV.str ([123, 97] : List UInt8), AV.str ([93] : List UInt8), AV.str ([125] : List UInt8), AV.str ([44, 97] : List UInt8), AV.str ([45, 45, 45, 32, 97] : List UInt8), AV.str ([46, 46, 46] : List UInt8), AV.str ([97, 58, 32, 98] : List UInt8), AV.str ([97, 32, 35, 98] : List UInt8), AV.str ([32, 97] : List UInt8), AV.str ([97, 32] : List UInt8), AV.str ([97, 9, 98] : List UInt8), AV.str ([97, 58] : List UInt8), AV.str ([97, 10, 98] : List UInt8)] (([AV.str ([] : List UInt8), AV.str ([45, 32, 97] : List UInt8), AV.str ([63, 32, 97] : List UInt8), AV.str ([58, 32, 97] : List UInt8), AV.str ([45] : List UInt8), AV.str ([35, 97] : List UInt8), AV.str ([38, 97] : List UInt8), AV.str ([42, 97] : List UInt8), AV.str ([33, 97] : List UInt8), AV.str ([124] : List UInt8), AV.str ([62] : List UInt8), AV.str ([39, 97, 39] : List UInt8), AV.str ([34, 97, 34] : List UInt8), AV.str ([37, 97] : List UInt8), AV.str ([64, 97] : List UInt8), AV.str ([96, 97] : List UInt8), AV.str ([91, 97] : List UInt8), AV.str ([123, 97] : List UInt8), AV.str ([93] : List UInt8), AV.str ([125] : List UInt8), AV.str ([44, 97] : List UInt8), AV.str ([45, 45, 45, 32, 97] : List UInt8), AV.str ([46, 46, 46] : List UInt8), AV.str ([97, 58, 32, 98] : List UInt8), AV.str ([97, 32, 35, 98] : List UInt8), AV.str ([32, 97] : List UInt8), AV.str ([97, 32] : List UInt8), AV.str ([97, 9, 98] : List UInt8), AV.str ([97, 58] : List UInt8), AV.str ([97, 10, 98] : List UInt8)].length : Nat) : Int) 0)
                  else
                    law04PlainParts_L1 R N
                      (fun b73 =>
                        some ⟨AV.bool b73, false, []⟩)
                      (fun b74 =>
                        (R id_plainValid [AV.str ([45, 97] : List UInt8), AV.bool b74]).bind fun r57 =>
                        asB r57.v fun b75 =>
                        bif b75 then
                          ((R id_plainValid [AV.str ([97, 58, 98] : List UInt8), AV.bool b74]).bind fun r58 =>
                          asB r58.v fun b76 =>
                          bif b76 then
                            ((R id_plainValid [AV.str ([97, 35, 98] : List UInt8), AV.bool b74]).bind fun r59 =>
                            asB r59.v fun b77 =>
                            bif b77 then
                              ((R id_plainValid [AV.str ([97, 44, 32, 98] : List UInt8), AV.bool false]).bind fun r60 =>
                              asB r60.v fun b78 =>
                              bif b78 then
                                ((R id_plainValid [AV.str ([97, 44, 32, 98] : List UInt8), AV.bool true]).bind fun r61 =>
                                asB r61.v fun b79 =>
                                bif !b79 then
                                  ((R id_law04Wakes []).bind fun r62 =>
                                  asB r62.v fun b80 =>
                                  some ⟨AV.bool b80, false, []⟩)
                                else
                                  some ⟨AV.bool false, false, []⟩)
                              else
                                some ⟨AV.bool false, false, []⟩)
                            else
                              some ⟨AV.bool false, false, []⟩)
                          else
                            some ⟨AV.bool false, false, []⟩)
                        else
                          some ⟨AV.bool false, false, []⟩)
                      N b1 [AV.str ([] : List UInt8), AV.str ([45, 32, 97] : List UInt8), AV.str ([63, 32, 97] : List UInt8), AV.str ([58, 32, 97] : List UInt8), AV.str ([45] : List UInt8), AV.str ([35, 97] : List UInt8), AV.str ([38, 97] : List UInt8), AV.str ([42, 97] : List UInt8), AV.str ([33, 97] : List UInt8), AV.str ([124] : List UInt8), AV.str ([62] : List UInt8), AV.str ([39, 97, 39] : List UInt8), AV.str ([34, 97, 34] : List UInt8), AV.str ([37, 97] : List UInt8), AV.str ([64, 97] : List UInt8), AV.str ([96, 97] : List UInt8), AV.str ([91, 97] : List UInt8), AV.str ([123, 97] : List UInt8), AV.str ([93] : List UInt8), AV.str ([125] : List UInt8), AV.str ([44, 97] : List UInt8), AV.str ([45, 45, 45, 32, 97] : List UInt8), AV.str ([46, 46, 46] : List UInt8), AV.str ([97, 58, 32, 98] : List UInt8), AV.str ([97, 32, 35, 98] : List UInt8), AV.str ([32, 97] : List UInt8), AV.str ([97, 32] : List UInt8), AV.str ([97, 9, 98] : List UInt8), AV.str ([97, 58] : List UInt8), AV.str ([97, 10, 98] : List UInt8)] (([AV.str ([] : List UInt8), AV.str ([45, 32, 97] : List UInt8), AV.str ([63, 32, 97] : List UInt8), AV.str ([58, 32, 97] : List UInt8), AV.str ([45] : List UInt8), AV.str ([35, 97] : List UInt8), AV.str ([38, 97] : List UInt8), AV.str ([42, 97] : List UInt8), AV.str ([33, 97] : List UInt8), AV.str ([124] : List UInt8), AV.str ([62] : List UInt8), AV.str ([39, 97, 39] : List UInt8), AV.str ([34, 97, 34] : List UInt8), AV.str ([37, 97] : List UInt8), AV.str ([64, 97] : List UInt8), AV.str ([96, 97] : List UInt8), AV.str ([91, 97] : List UInt8), AV.str ([123, 97] : List UInt8), AV.str ([93] : List UInt8), AV.str ([125] : List UInt8), AV.str ([44, 97] : List UInt8), AV.str ([45, 45, 45, 32, 97] : List UInt8), AV.str ([46, 46, 46] : List UInt8), AV.str ([97, 58, 32, 98] : List UInt8), AV.str ([97, 32, 35, 98] : List UInt8), AV.str ([32, 97] : List UInt8), AV.str ([97, 32] : List UInt8), AV.str ([97, 9, 98] : List UInt8), AV.str ([97, 58] : List UInt8), AV.str ([97, 10, 98] : List UInt8)].length : Nat) : Int) 0)
              else
                need (decide (0 ≤ (0 : Int))) <|
                (s2[Int.toNat 0]?).bind fun c5 =>
                bif ((c5.toNat : Int) : Int) == 58 then
                  (bif decide ((i1 : Int) > 0) then
                    (need (decide (0 ≤ (IntKind.i64.wrap (i1 - 1) : Int))) <|
                    (s2[Int.toNat (IntKind.i64.wrap (i1 - 1))]?).bind fun c6 =>
                    bif ((c6.toNat : Int) : Int) == 32 then
                      (some ⟨AV.bool false, false, []⟩)
                    else
                      (R id_plainValid [AV.str s2, AV.bool true]).bind fun r63 =>
                      asB r63.v fun b81 =>
                      bif b81 then
                        ((R id_plainValid [AV.str s2, AV.bool false]).bind fun r64 =>
                        asB r64.v fun b82 =>
                        bif !b82 then
                          (some ⟨AV.bool false, false, []⟩)
                        else
                          law04PlainParts_L1 R N
                            (fun b83 =>
                              some ⟨AV.bool b83, false, []⟩)
                            (fun b84 =>
                              (R id_plainValid [AV.str ([45, 97] : List UInt8), AV.bool b84]).bind fun r65 =>
                              asB r65.v fun b85 =>
                              bif b85 then
                                ((R id_plainValid [AV.str ([97, 58, 98] : List UInt8), AV.bool b84]).bind fun r66 =>
                                asB r66.v fun b86 =>
                                bif b86 then
                                  ((R id_plainValid [AV.str ([97, 35, 98] : List UInt8), AV.bool b84]).bind fun r67 =>
                                  asB r67.v fun b87 =>
                                  bif b87 then
                                    ((R id_plainValid [AV.str ([97, 44, 32, 98] : List UInt8), AV.bool false]).bind fun r68 =>
                                    asB r68.v fun b88 =>
                                    bif b88 then
                                      ((R id_plainValid [AV.str ([97, 44, 32, 98] : List UInt8), AV.bool true]).bind fun r69 =>
                                      asB r69.v fun b89 =>
                                      bif !b89 then
                                        ((R id_law04Wakes []).bind fun r70 =>
                                        asB r70.v fun b90 =>
                                        some ⟨AV.bool b90, false, []⟩)
                                      else
                                        some ⟨AV.bool false, false, []⟩)
                                    else
                                      some ⟨AV.bool false, false, []⟩)
                                  else
                                    some ⟨AV.bool false, false, []⟩)
                                else
                                  some ⟨AV.bool false, false, []⟩)
                              else
                                some ⟨AV.bool false, false, []⟩)
                            N b1 [AV.str ([] : List UInt8), AV.str ([45, 32, 97] : List UInt8), AV.str ([63, 32, 97] : List UInt8), AV.str ([58, 32, 97] : List UInt8), AV.str ([45] : List UInt8), AV.str ([35, 97] : List UInt8), AV.str ([38, 97] : List UInt8), AV.str ([42, 97] : List UInt8), AV.str ([33, 97] : List UInt8), AV.str ([124] : List UInt8), AV.str ([62] : List UInt8), AV.str ([39, 97, 39] : List UInt8), AV.str ([34, 97, 34] : List UInt8), AV.str ([37, 97] : List UInt8), AV.str ([64, 97] : List UInt8), AV.str ([96, 97] : List UInt8), AV.str ([91, 97] : List UInt8), AV.str ([123, 97] : List UInt8), AV.str ([93] : List UInt8), AV.str ([125] : List UInt8), AV.str ([44, 97] : List UInt8), AV.str ([45, 45, 45, 32, 97] : List UInt8), AV.str ([46, 46, 46] : List UInt8), AV.str ([97, 58, 32, 98] : List UInt8), AV.str ([97, 32, 35, 98] : List UInt8), AV.str ([32, 97] : List UInt8), AV.str ([97, 32] : List UInt8), AV.str ([97, 9, 98] : List UInt8), AV.str ([97, 58] : List UInt8), AV.str ([97, 10, 98] : List UInt8)] (([AV.str ([] : List UInt8), AV.str ([45, 32, 97] : List UInt8), AV.str ([63, 32, 97] : List UInt8), AV.str ([58, 32, 97] : List UInt8), AV.str ([45] : List UInt8), AV.str ([35, 97] : List UInt8), AV.str ([38, 97] : List UInt8), AV.str ([42, 97] : List UInt8), AV.str ([33, 97] : List UInt8), AV.str ([124] : List UInt8), AV.str ([62] : List UInt8), AV.str ([39, 97, 39] : List UInt8), AV.str ([34, 97, 34] : List UInt8), AV.str ([37, 97] : List UInt8), AV.str ([64, 97] : List UInt8), AV.str ([96, 97] : List UInt8), AV.str ([91, 97] : List UInt8), AV.str ([123, 97] : List UInt8), AV.str ([93] : List UInt8), AV.str ([125] : List UInt8), AV.str ([44, 97] : List UInt8), AV.str ([45, 45, 45, 32, 97] : List UInt8), AV.str ([46, 46, 46] : List UInt8), AV.str ([97, 58, 32, 98] : List UInt8), AV.str ([97, 32, 35, 98] : List UInt8), AV.str ([32, 97] : List UInt8), AV.str ([97, 32] : List UInt8), AV.str ([97, 9, 98] : List UInt8), AV.str ([97, 58] : List UInt8), AV.str ([97, 10, 98] : List UInt8)].length : Nat) : Int) 0)
                      else
                        law04PlainParts_L1 R N
                          (fun b91 =>
                            some ⟨AV.bool b91, false, []⟩)
                          (fun b92 =>
                            (R id_plainValid [AV.str ([45, 97] : List UInt8), AV.bool b92]).bind fun r71 =>
                            asB r71.v fun b93 =>
                            bif b93 then
                              ((R id_plainValid [AV.str ([97, 58, 98] : List UInt8), AV.bool b92]).bind fun r72 =>
                              asB r72.v fun b94 =>
                              bif b94 then
                                ((R id_plainValid [AV.str ([97, 35, 98] : List UInt8), AV.bool b92]).bind fun r73 =>
                                asB r73.v fun b95 =>
                                bif b95 then
                                  ((R id_plainValid [AV.str ([97, 44, 32, 98] : List UInt8), AV.bool false]).bind fun r74 =>
                                  asB r74.v fun b96 =>
                                  bif b96 then
                                    ((R id_plainValid [AV.str ([97, 44, 32, 98] : List UInt8), AV.bool true]).bind fun r75 =>
                                    asB r75.v fun b97 =>
                                    bif !b97 then
                                      ((R id_law04Wakes []).bind fun r76 =>
                                      asB r76.v fun b98 =>
                                      some ⟨AV.bool b98, false, []⟩)
                                    else
                                      some ⟨AV.bool false, false, []⟩)
                                  else
                                    some ⟨AV.bool false, false, []⟩)
                                else
                                  some ⟨AV.bool false, false, []⟩)
                              else
                                some ⟨AV.bool false, false, []⟩)
                            else
                              some ⟨AV.bool false, false, []⟩)
                          N b1 [AV.str ([] : List UInt8), AV.str ([45, 32, 97] : List UInt8), AV.str ([63, 32, 97] : List UInt8), AV.str ([58, 32, 97] : List UInt8), AV.str ([45] : List UInt8), AV.str ([35, 97] : List UInt8), AV.str ([38, 97] : List UInt8), AV.str ([42, 97] : List UInt8), AV.str ([33, 97] : List UInt8), AV.str ([124] : List UInt8), AV.str ([62] : List UInt8), AV.str ([39, 97, 39] : List UInt8), AV.str ([34, 97, 34] : List UInt8), AV.str ([37, 97] : List UInt8), AV.str ([64, 97] : List UInt8), AV.str ([96, 97] : List UInt8), AV.str ([91, 97] : List UInt8), AV.str ([123, 97] : List UInt8), AV.str ([93] : List UInt8), AV.str ([125] : List UInt8), AV.str ([44, 97] : List UInt8), AV.str ([45, 45, 45, 32, 97] : List UInt8), AV.str ([46, 46, 46] : List UInt8), AV.str ([97, 58, 32, 98] : List UInt8), AV.str ([97, 32, 35, 98] : List UInt8), AV.str ([32, 97] : List UInt8), AV.str ([97, 32] : List UInt8), AV.str ([97, 9, 98] : List UInt8), AV.str ([97, 58] : List UInt8), AV.str ([97, 10, 98] : List UInt8)] (([AV.str ([] : List UInt8), AV.str ([45, 32, 97] : List UInt8), AV.str ([63, 32, 97] : List UInt8), AV.str ([58, 32, 97] : List UInt8), AV.str ([45] : List UInt8), AV.str ([35, 97] : List UInt8), AV.str ([38, 97] : List UInt8), AV.str ([42, 97] : List UInt8), AV.str ([33, 97] : List UInt8), AV.str ([124] : List UInt8), AV.str ([62] : List UInt8), AV.str ([39, 97, 39] : List UInt8), AV.str ([34, 97, 34] : List UInt8), AV.str ([37, 97] : List UInt8), AV.str ([64, 97] : List UInt8), AV.str ([96, 97] : List UInt8), AV.str ([91, 97] : List UInt8), AV.str ([123, 97] : List UInt8), AV.str ([93] : List UInt8), AV.str ([125] : List UInt8), AV.str ([44, 97] : List UInt8), AV.str ([45, 45, 45, 32, 97] : List UInt8), AV.str ([46, 46, 46] : List UInt8), AV.str ([97, 58, 32, 98] : List UInt8), AV.str ([97, 32, 35, 98] : List UInt8), AV.str ([32, 97] : List UInt8), AV.str ([97, 32] : List UInt8), AV.str ([97, 9, 98] : List UInt8), AV.str ([97, 58] : List UInt8), AV.str ([97, 10, 98] : List UInt8)].length : Nat) : Int) 0)
                  else
                    (R id_plainValid [AV.str s2, AV.bool true]).bind fun r77 =>
                    asB r77.v fun b99 =>
                    bif b99 then
                      ((R id_plainValid [AV.str s2, AV.bool false]).bind fun r78 =>
                      asB r78.v fun b100 =>
                      bif !b100 then
                        (some ⟨AV.bool false, false, []⟩)
                      else
                        law04PlainParts_L1 R N
                          (fun b101 =>
                            some ⟨AV.bool b101, false, []⟩)
                          (fun b102 =>
                            (R id_plainValid [AV.str ([45, 97] : List UInt8), AV.bool b102]).bind fun r79 =>
                            asB r79.v fun b103 =>
                            bif b103 then
                              ((R id_plainValid [AV.str ([97, 58, 98] : List UInt8), AV.bool b102]).bind fun r80 =>
                              asB r80.v fun b104 =>
                              bif b104 then
                                ((R id_plainValid [AV.str ([97, 35, 98] : List UInt8), AV.bool b102]).bind fun r81 =>
                                asB r81.v fun b105 =>
                                bif b105 then
                                  ((R id_plainValid [AV.str ([97, 44, 32, 98] : List UInt8), AV.bool false]).bind fun r82 =>
                                  asB r82.v fun b106 =>
                                  bif b106 then
                                    ((R id_plainValid [AV.str ([97, 44, 32, 98] : List UInt8), AV.bool true]).bind fun r83 =>
                                    asB r83.v fun b107 =>
                                    bif !b107 then
                                      ((R id_law04Wakes []).bind fun r84 =>
                                      asB r84.v fun b108 =>
                                      some ⟨AV.bool b108, false, []⟩)
                                    else
                                      some ⟨AV.bool false, false, []⟩)
                                  else
                                    some ⟨AV.bool false, false, []⟩)
                                else
                                  some ⟨AV.bool false, false, []⟩)
                              else
                                some ⟨AV.bool false, false, []⟩)
                            else
                              some ⟨AV.bool false, false, []⟩)
                          N b1 [AV.str ([] : List UInt8), AV.str ([45, 32, 97] : List UInt8), AV.str ([63, 32, 97] : List UInt8), AV.str ([58, 32, 97] : List UInt8), AV.str ([45] : List UInt8), AV.str ([35, 97] : List UInt8), AV.str ([38, 97] : List UInt8), AV.str ([42, 97] : List UInt8), AV.str ([33, 97] : List UInt8), AV.str ([124] : List UInt8), AV.str ([62] : List UInt8), AV.str ([39, 97, 39] : List UInt8), AV.str ([34, 97, 34] : List UInt8), AV.str ([37, 97] : List UInt8), AV.str ([64, 97] : List UInt8), AV.str ([96, 97] : List UInt8), AV.str ([91, 97] : List UInt8), AV.str ([123, 97] : List UInt8), AV.str ([93] : List UInt8), AV.str ([125] : List UInt8), AV.str ([44, 97] : List UInt8), AV.str ([45, 45, 45, 32, 97] : List UInt8), AV.str ([46, 46, 46] : List UInt8), AV.str ([97, 58, 32, 98] : List UInt8), AV.str ([97, 32, 35, 98] : List UInt8), AV.str ([32, 97] : List UInt8), AV.str ([97, 32] : List UInt8), AV.str ([97, 9, 98] : List UInt8), AV.str ([97, 58] : List UInt8), AV.str ([97, 10, 98] : List UInt8)] (([AV.str ([] : List UInt8), AV.str ([45, 32, 97] : List UInt8), AV.str ([63, 32, 97] : List UInt8), AV.str ([58, 32, 97] : List UInt8), AV.str ([45] : List UInt8), AV.str ([35, 97] : List UInt8), AV.str ([38, 97] : List UInt8), AV.str ([42, 97] : List UInt8), AV.str ([33, 97] : List UInt8), AV.str ([124] : List UInt8), AV.str ([62] : List UInt8), AV.str ([39, 97, 39] : List UInt8), AV.str ([34, 97, 34] : List UInt8), AV.str ([37, 97] : List UInt8), AV.str ([64, 97] : List UInt8), AV.str ([96, 97] : List UInt8), AV.str ([91, 97] : List UInt8), AV.str ([123, 97] : List UInt8), AV.str ([93] : List UInt8), AV.str ([125] : List UInt8), AV.str ([44, 97] : List UInt8), AV.str ([45, 45, 45, 32, 97] : List UInt8), AV.str ([46, 46, 46] : List UInt8), AV.str ([97, 58, 32, 98] : List UInt8), AV.str ([97, 32, 35, 98] : List UInt8), AV.str ([32, 97] : List UInt8), AV.str ([97, 32] : List UInt8), AV.str ([97, 9, 98] : List UInt8), AV.str ([97, 58] : List UInt8), AV.str ([97, 10, 98] : List UInt8)].length : Nat) : Int) 0)
                    else
                      law04PlainParts_L1 R N
                        (fun b109 =>
                          some ⟨AV.bool b109, false, []⟩)
                        (fun b110 =>
                          (R id_plainValid [AV.str ([45, 97] : List UInt8), AV.bool b110]).bind fun r85 =>
                          asB r85.v fun b111 =>
                          bif b111 then
                            ((R id_plainValid [AV.str ([97, 58, 98] : List UInt8), AV.bool b110]).bind fun r86 =>
                            asB r86.v fun b112 =>
                            bif b112 then
                              ((R id_plainValid [AV.str ([97, 35, 98] : List UInt8), AV.bool b110]).bind fun r87 =>
                              asB r87.v fun b113 =>
                              bif b113 then
                                ((R id_plainValid [AV.str ([97, 44, 32, 98] : List UInt8), AV.bool false]).bind fun r88 =>
                                asB r88.v fun b114 =>
                                bif b114 then
                                  ((R id_plainValid [AV.str ([97, 44, 32, 98] : List UInt8), AV.bool true]).bind fun r89 =>
                                  asB r89.v fun b115 =>
                                  bif !b115 then
                                    ((R id_law04Wakes []).bind fun r90 =>
                                    asB r90.v fun b116 =>
                                    some ⟨AV.bool b116, false, []⟩)
                                  else
                                    some ⟨AV.bool false, false, []⟩)
                                else
                                  some ⟨AV.bool false, false, []⟩)
                              else
                                some ⟨AV.bool false, false, []⟩)
                            else
                              some ⟨AV.bool false, false, []⟩)
                          else
                            some ⟨AV.bool false, false, []⟩)
                        N b1 [AV.str ([] : List UInt8), AV.str ([45, 32, 97] : List UInt8), AV.str ([63, 32, 97] : List UInt8), AV.str ([58, 32, 97] : List UInt8), AV.str ([45] : List UInt8), AV.str ([35, 97] : List UInt8), AV.str ([38, 97] : List UInt8), AV.str ([42, 97] : List UInt8), AV.str ([33, 97] : List UInt8), AV.str ([124] : List UInt8), AV.str ([62] : List UInt8), AV.str ([39, 97, 39] : List UInt8), AV.str ([34, 97, 34] : List UInt8), AV.str ([37, 97] : List UInt8), AV.str ([64, 97] : List UInt8), AV.str ([96, 97] : List UInt8), AV.str ([91, 97] : List UInt8), AV.str ([123, 97] : List UInt8), AV.str ([93] : List UInt8), AV.str ([125] : List UInt8), AV.str ([44, 97] : List UInt8), AV.str ([45, 45, 45, 32, 97] : List UInt8), AV.str ([46, 46, 46] : List UInt8), AV.str ([97, 58, 32, 98] : List UInt8), AV.str ([97, 32, 35, 98] : List UInt8), AV.str ([32, 97] : List UInt8), AV.str ([97, 32] : List UInt8), AV.str ([97, 9, 98] : List UInt8), AV.str ([97, 58] : List UInt8), AV.str ([97, 10, 98] : List UInt8)] (([AV.str ([] : List UInt8), AV.str ([45, 32, 97] : List UInt8), AV.str ([63, 32, 97] : List UInt8), AV.str ([58, 32, 97] : List UInt8), AV.str ([45] : List UInt8), AV.str ([35, 97] : List UInt8), AV.str ([38, 97] : List UInt8), AV.str ([42, 97] : List UInt8), AV.str ([33, 97] : List UInt8), AV.str ([124] : List UInt8), AV.str ([62] : List UInt8), AV.str ([39, 97, 39] : List UInt8), AV.str ([34, 97, 34] : List UInt8), AV.str ([37, 97] : List UInt8), AV.str ([64, 97] : List UInt8), AV.str ([96, 97] : List UInt8), AV.str ([91, 97] : List UInt8), AV.str ([123, 97] : List UInt8), AV.str ([93] : List UInt8), AV.str ([125] : List UInt8), AV.str ([44, 97] : List UInt8), AV.str ([45, 45, 45, 32, 97] : List UInt8), AV.str ([46, 46, 46] : List UInt8), AV.str ([97, 58, 32, 98] : List UInt8), AV.str ([97, 32, 35, 98] : List UInt8), AV.str ([32, 97] : List UInt8), AV.str ([97, 32] : List UInt8), AV.str ([97, 9, 98] : List UInt8), AV.str ([97, 58] : List UInt8), AV.str ([97, 10, 98] : List UInt8)].length : Nat) : Int) 0)
                else
                  bif decide ((i1 : Int) > 0) then
                    (need (decide (0 ≤ (IntKind.i64.wrap (i1 - 1) : Int))) <|
                    (s2[Int.toNat (IntKind.i64.wrap (i1 - 1))]?).bind fun c7 =>
                    bif decide ((i1 : Int) > 0) then
                      (need (decide (0 ≤ (IntKind.i64.wrap (i1 - 1) : Int))) <|
                      (s2[Int.toNat (IntKind.i64.wrap (i1 - 1))]?).bind fun c8 =>
                      bif ((c8.toNat : Int) : Int) == 32 then
                        (some ⟨AV.bool false, false, []⟩)
                      else
                        bif !(((c7.toNat : Int) : Int) == 58) then
                          (need (decide (0 ≤ (i1 : Int)) && decide ((i1 : Int) ≤ ((s2.length : Nat) : Int))) <|
                          (R id_plainLength [AV.bytes ((s2.take (Int.toNat i1)).drop 0), AV.bool b1]).bind fun r91 =>
                          asI .i64 r91.v fun i6 =>
                          bif (i6 : Int) != i1 then
                            (some ⟨AV.bool false, false, []⟩)
                          else
                            (R id_plainValid [AV.str s2, AV.bool true]).bind fun r92 =>
                            asB r92.v fun b117 =>
                            bif b117 then
                              ((R id_plainValid [AV.str s2, AV.bool false]).bind fun r93 =>
                              asB r93.v fun b118 =>
                              bif !b118 then
                                (some ⟨AV.bool false, false, []⟩)
                              else
                                law04PlainParts_L1 R N
                                  (fun b119 =>
                                    some ⟨AV.bool b119, false, []⟩)
                                  (fun b120 =>
                                    (R id_plainValid [AV.str ([45, 97] : List UInt8), AV.bool b120]).bind fun r94 =>
                                    asB r94.v fun b121 =>
                                    bif b121 then
                                      ((R id_plainValid [AV.str ([97, 58, 98] : List UInt8), AV.bool b120]).bind fun r95 =>
                                      asB r95.v fun b122 =>
                                      bif b122 then
                                        ((R id_plainValid [AV.str ([97, 35, 98] : List UInt8), AV.bool b120]).bind fun r96 =>
                                        asB r96.v fun b123 =>
                                        bif b123 then
                                          ((R id_plainValid [AV.str ([97, 44, 32, 98] : List UInt8), AV.bool false]).bind fun r97 =>
                                          asB r97.v fun b124 =>
                                          bif b124 then
                                            ((R id_plainValid [AV.str ([97, 44, 32, 98] : List UInt8), AV.bool true]).bind fun r98 =>
                                            asB r98.v fun b125 =>
                                            bif !b125 then
                                              ((R id_law04Wakes []).bind fun r99 =>
                                              asB r99.v fun b126 =>
                                              some ⟨AV.bool b126, false, []⟩)
                                            else
                                              some ⟨AV.bool false, false, []⟩)
                                          else
                                            some ⟨AV.bool false, false, []⟩)
                                        else
                                          some ⟨AV.bool false, false, []⟩)
                                      else
                                        some ⟨AV.bool false, false, []⟩)
                                    else
                                      some ⟨AV.bool false, false, []⟩)
                                  N b1 [AV.str ([] : List UInt8), AV.str ([45, 32, 97] : List UInt8), AV.str ([63, 32, 97] : List UInt8), AV.str ([58, 32, 97] : List UInt8), AV.str ([45] : List UInt8), AV.str ([35, 97] : List UInt8), AV.str ([38, 97] : List UInt8), AV.str ([42, 97] : List UInt8), AV.str ([33, 97] : List UInt8), AV.str ([124] : List UInt8), AV.str ([62] : List UInt8), AV.str ([39, 97, 39] : List UInt8), AV.str ([34, 97, 34] : List UInt8), AV.str ([37, 97] : List UInt8), AV.str ([64, 97] : List UInt8), AV.str ([96, 97] : List UInt8), AV.str ([91, 97] : List UInt8), AV.str ([123, 97] : List UInt8), AV.str ([93] : List UInt8), AV.str ([125] : List UInt8), AV.str ([44, 97] : List UInt8), AV.str ([45, 45, 45, 32, 97] : List UInt8), AV.str ([46, 46, 46] : List UInt8), AV.str ([97, 58, 32, 98] : List UInt8), AV.str ([97, 32, 35, 98] : List UInt8), AV.str ([32, 97] : List UInt8), AV.str ([97, 32] : List UInt8), AV.str ([97, 9, 98] : List UInt8), AV.str ([97, 58] : List UInt8), AV.str ([97, 10, 98] : List UInt8)] (([AV.str ([] : List UInt8), AV.str ([45, 32, 97] : List UInt8), AV.str ([63, 32, 97] : List UInt8), AV.str ([58, 32, 97] : List UInt8), AV.str ([45] : List UInt8), AV.str ([35, 97] : List UInt8), AV.str ([38, 97] : List UInt8), AV.str ([42, 97] : List UInt8), AV.str ([33, 97] : List UInt8), AV.str ([124] : List UInt8), AV.str ([62] : List UInt8), AV.str ([39, 97, 39] : List UInt8), AV.str ([34, 97, 34] : List UInt8), AV.str ([37, 97] : List UInt8), AV.str ([64, 97] : List UInt8), AV.str ([96, 97] : List UInt8), AV.str ([91, 97] : List UInt8), AV.str ([123, 97] : List UInt8), AV.str ([93] : List UInt8), AV.str ([125] : List UInt8), AV.str ([44, 97] : List UInt8), AV.str ([45, 45, 45, 32, 97] : List UInt8), AV.str ([46, 46, 46] : List UInt8), AV.str ([97, 58, 32, 98] : List UInt8), AV.str ([97, 32, 35, 98] : List UInt8), AV.str ([32, 97] : List UInt8), AV.str ([97, 32] : List UInt8), AV.str ([97, 9, 98] : List UInt8), AV.str ([97, 58] : List UInt8), AV.str ([97, 10, 98] : List UInt8)].length : Nat) : Int) 0)
                            else
                              law04PlainParts_L1 R N
                                (fun b127 =>
                                  some ⟨AV.bool b127, false, []⟩)
                                (fun b128 =>
                                  (R id_plainValid [AV.str ([45, 97] : List UInt8), AV.bool b128]).bind fun r100 =>
                                  asB r100.v fun b129 =>
                                  bif b129 then
                                    ((R id_plainValid [AV.str ([97, 58, 98] : List UInt8), AV.bool b128]).bind fun r101 =>
                                    asB r101.v fun b130 =>
                                    bif b130 then
                                      ((R id_plainValid [AV.str ([97, 35, 98] : List UInt8), AV.bool b128]).bind fun r102 =>
                                      asB r102.v fun b131 =>
                                      bif b131 then
                                        ((R id_plainValid [AV.str ([97, 44, 32, 98] : List UInt8), AV.bool false]).bind fun r103 =>
                                        asB r103.v fun b132 =>
                                        bif b132 then
                                          ((R id_plainValid [AV.str ([97, 44, 32, 98] : List UInt8), AV.bool true]).bind fun r104 =>
                                          asB r104.v fun b133 =>
                                          bif !b133 then
                                            ((R id_law04Wakes []).bind fun r105 =>
                                            asB r105.v fun b134 =>
                                            some ⟨AV.bool b134, false, []⟩)
                                          else
                                            some ⟨AV.bool false, false, []⟩)
                                        else
                                          some ⟨AV.bool false, false, []⟩)
                                      else
                                        some ⟨AV.bool false, false, []⟩)
                                    else
                                      some ⟨AV.bool false, false, []⟩)
                                  else
                                    some ⟨AV.bool false, false, []⟩)
                                N b1 [AV.str ([] : List UInt8), AV.str ([45, 32, 97] : List UInt8), AV.str ([63, 32, 97] : List UInt8), AV.str ([58, 32, 97] : List UInt8), AV.str ([45] : List UInt8), AV.str ([35, 97] : List UInt8), AV.str ([38, 97] : List UInt8), AV.str ([42, 97] : List UInt8), AV.str ([33, 97] : List UInt8), AV.str ([124] : List UInt8), AV.str ([62] : List UInt8), AV.str ([39, 97, 39] : List UInt8), AV.str ([34, 97, 34] : List UInt8), AV.str ([37, 97] : List UInt8), AV.str ([64, 97] : List UInt8), AV.str ([96, 97] : List UInt8), AV.str ([91, 97] : List UInt8), AV.str ([123, 97] : List UInt8), AV.str ([93] : List UInt8), AV.str ([125] : List UInt8), AV.str ([44, 97] : List UInt8), AV.str ([45, 45, 45, 32, 97] : List UInt8), AV.str ([46, 46, 46] : List UInt8), AV.str ([97, 58, 32, 98] : List UInt8), AV.str ([97, 32, 35, 98] : List UInt8), AV.str ([32, 97] : List UInt8), AV.str ([97, 32] : List UInt8), AV.str ([97, 9, 98] : List UInt8), AV.str ([97, 58] : List UInt8), AV.str ([97, 10, 98] : List UInt8)] (([AV.str ([] : List UInt8), AV.str ([45, 32, 97] : List UInt8), AV.str ([63, 32, 97] : List UInt8), AV.str ([58, 32, 97] : List UInt8), AV.str ([45] : List UInt8), AV.str ([35, 97] : List UInt8), AV.str ([38, 97] : List UInt8), AV.str ([42, 97] : List UInt8), AV.str ([33, 97] : List UInt8), AV.str ([124] : List UInt8), AV.str ([62] : List UInt8), AV.str ([39, 97, 39] : List UInt8), AV.str ([34, 97, 34] : List UInt8), AV.str ([37, 97] : List UInt8), AV.str ([64, 97] : List UInt8), AV.str ([96, 97] : List UInt8), AV.str ([91, 97] : List UInt8), AV.str ([123, 97] : List UInt8), AV.str ([93] : List UInt8), AV.str ([125] : List UInt8), AV.str ([44, 97] : List UInt8), AV.str ([45, 45, 45, 32, 97] : List UInt8), AV.str ([46, 46, 46] : List UInt8), AV.str ([97, 58, 32, 98] : List UInt8), AV.str ([97, 32, 35, 98] : List UInt8), AV.str ([32, 97] : List UInt8), AV.str ([97, 32] : List UInt8), AV.str ([97, 9, 98] : List UInt8), AV.str ([97, 58] : List UInt8), AV.str ([97, 10, 98] : List UInt8)].length : Nat) : Int) 0)
                        else
                          (R id_plainValid [AV.str s2, AV.bool true]).bind fun r106 =>
                          asB r106.v fun b135 =>
                          bif b135 then
                            ((R id_plainValid [AV.str s2, AV.bool false]).bind fun r107 =>
                            asB r107.v fun b136 =>
                            bif !b136 then
                              (some ⟨AV.bool false, false, []⟩)
                            else
                              law04PlainParts_L1 R N
                                (fun b137 =>
                                  some ⟨AV.bool b137, false, []⟩)
                                (fun b138 =>
                                  (R id_plainValid [AV.str ([45, 97] : List UInt8), AV.bool b138]).bind fun r108 =>
                                  asB r108.v fun b139 =>
                                  bif b139 then
                                    ((R id_plainValid [AV.str ([97, 58, 98] : List UInt8), AV.bool b138]).bind fun r109 =>
                                    asB r109.v fun b140 =>
                                    bif b140 then
                                      ((R id_plainValid [AV.str ([97, 35, 98] : List UInt8), AV.bool b138]).bind fun r110 =>
                                      asB r110.v fun b141 =>
                                      bif b141 then
                                        ((R id_plainValid [AV.str ([97, 44, 32, 98] : List UInt8), AV.bool false]).bind fun r111 =>
                                        asB r111.v fun b142 =>
                                        bif b142 then
                                          ((R id_plainValid [AV.str ([97, 44, 32, 98] : List UInt8), AV.bool true]).bind fun r112 =>
                                          asB r112.v fun b143 =>
                                          bif !b143 then
                                            ((R id_law04Wakes []).bind fun r113 =>
                                            asB r113.v fun b144 =>
                                            some ⟨AV.bool b144, false, []⟩)
                                          else
                                            some ⟨AV.bool false, false, []⟩)
                                        else
                                          some ⟨AV.bool false, false, []⟩)
                                      else
                                        some ⟨AV.bool false, false, []⟩)
                                    else
                                      some ⟨AV.bool false, false, []⟩)
                                  else
                                    some ⟨AV.bool false, false, []⟩)
                                N b1 [AV.str ([] : List UInt8), AV.str ([45, 32, 97] : List UInt8), AV.str ([63, 32, 97] : List UInt8), AV.str ([58, 32, 97] : List UInt8), AV.str ([45] : List UInt8), AV.str ([35, 97] : List UInt8), AV.str ([38, 97] : List UInt8), AV.str ([42, 97] : List UInt8), AV.str ([33, 97] : List UInt8), AV.str ([124] : List UInt8), AV.str ([62] : List UInt8), AV.str ([39, 97, 39] : List UInt8), AV.str ([34, 97, 34] : List UInt8), AV.str ([37, 97] : List UInt8), AV.str ([64, 97] : List UInt8), AV.str ([96, 97] : List UInt8), AV.str ([91, 97] : List UInt8), AV.str ([123, 97] : List UInt8), AV.str ([93] : List UInt8), AV.str ([125] : List UInt8), AV.str ([44, 97] : List UInt8), AV.str ([45, 45, 45, 32, 97] : List UInt8), AV.str ([46, 46, 46] : List UInt8), AV.str ([97, 58, 32, 98] : List UInt8), AV.str ([97, 32, 35, 98] : List UInt8), AV.str ([32, 97] : List UInt8), AV.str ([97, 32] : List UInt8), AV.str ([97, 9, 98] : List UInt8), AV.str ([97, 58] : List UInt8), AV.str ([97, 10, 98] : List UInt8)] (([AV.str ([] : List UInt8), AV.str ([45, 32, 97] : List UInt8), AV.str ([63, 32, 97] : List UInt8), AV.str ([58, 32, 97] : List UInt8), AV.str ([45] : List UInt8), AV.str ([35, 97] : List UInt8), AV.str ([38, 97] : List UInt8), AV.str ([42, 97] : List UInt8), AV.str ([33, 97] : List UInt8), AV.str ([124] : List UInt8), AV.str ([62] : List UInt8), AV.str ([39, 97, 39] : List UInt8), AV.str ([34, 97, 34] : List UInt8), AV.str ([37, 97] : List UInt8), AV.str ([64, 97] : List UInt8), AV.str ([96, 97] : List UInt8), AV.str ([91, 97] : List UInt8), AV.str ([123, 97] : List UInt8), AV.str ([93] : List UInt8), AV.str ([125] : List UInt8), AV.str ([44, 97] : List UInt8), AV.str ([45, 45, 45, 32, 97] : List UInt8), AV.str ([46, 46, 46] : List UInt8), AV.str ([97, 58, 32, 98] : List UInt8), AV.str ([97, 32, 35, 98] : List UInt8), AV.str ([32, 97] : List UInt8), AV.str ([97, 32] : List UInt8), AV.str ([97, 9, 98] : List UInt8), AV.str ([97, 58] : List UInt8), AV.str ([97, 10, 98] : List UInt8)].length : Nat) : Int) 0)
                          else
                            law04PlainParts_L1 R N
                              (fun b145 =>
                                some ⟨AV.bool b145, false, []⟩)
                              (fun b146 =>
                                (R id_plainValid [AV.str ([45, 97] : List UInt8), AV.bool b146]).bind fun r114 =>
                                asB r114.v fun b147 =>
                                bif b147 then
                                  ((R id_plainValid [AV.str ([97, 58, 98] : List UInt8), AV.bool b146]).bind fun r115 =>
                                  asB r115.v fun b148 =>
                                  bif b148 then
                                    ((R id_plainValid [AV.str ([97, 35, 98] : List UInt8), AV.bool b146]).bind fun r116 =>
                                    asB r116.v fun b149 =>
                                    bif b149 then
                                      ((R id_plainValid [AV.str ([97, 44, 32, 98] : List UInt8), AV.bool false]).bind fun r117 =>
                                      asB r117.v fun b150 =>
                                      bif b150 then
                                        ((R id_plainValid [AV.str ([97, 44, 32, 98] : List UInt8), AV.bool true]).bind fun r118 =>
                                        asB r118.v fun b151 =>
                                        bif !b151 then
                                          ((R id_law04Wakes []).bind fun r119 =>
                                          asB r119.v fun b152 =>
                                          some ⟨AV.bool b152, false, []⟩)
                                        else
                                          some ⟨AV.bool false, false, []⟩)
                                      else
                                        some ⟨AV.bool false, false, []⟩)
                                    else
                                      some ⟨AV.bool false, false, []⟩)
                                  else
                                    some ⟨AV.bool false, false, []⟩)
                                else
                                  some ⟨AV.bool false, false, []⟩)
                              N b1 [AV.str ([] : List UInt8), AV.str ([45, 32, 97] : List UInt8), AV.str ([63, 32, 97] : List UInt8), AV.str ([58, 32, 97] : List UInt8), AV.str ([45] : List UInt8), AV.str ([35, 97] : List UInt8), AV.str ([38, 97] : List UInt8), AV.str ([42, 97] : List UInt8), AV.str ([33, 97] : List UInt8), AV.str ([124] : List UInt8), AV.str ([62] : List UInt8), AV.str ([39, 97, 39] : List UInt8), AV.str ([34, 97, 34] : List UInt8), AV.str ([37, 97] : List UInt8), AV.str ([64, 97] : List UInt8), AV.str ([96, 97] : List UInt8), AV.str ([91, 97] : List UInt8), AV.str ([123, 97] : List UInt8), AV.str ([93] : List UInt8), AV.str ([125] : List UInt8), AV.str ([44, 97] : List UInt8), AV.str ([45, 45, 45, 32, 97] : List UInt8), AV.str ([46, 46, 46] : List UInt8), AV.str ([97, 58, 32, 98] : List UInt8), AV.str ([97, 32, 35, 98] : List UInt8), AV.str ([32, 97] : List UInt8), AV.str ([97, 32] : List UInt8), AV.str ([97, 9, 98] : List UInt8), AV.str ([97, 58] : List UInt8), AV.str ([97, 10, 98] : List UInt8)] (([AV.str ([] : List UInt8), AV.str ([45, 32, 97] : List UInt8), AV.str ([63, 32, 97] : List UInt8), AV.str ([58, 32, 97] : List UInt8), AV.str ([45] : List UInt8), AV.str ([35, 97] : List UInt8), AV.str ([38, 97] : List UInt8), AV.str ([42, 97] : List UInt8), AV.str ([33, 97] : List UInt8), AV.str ([124] : List UInt8), AV.str ([62] : List UInt8), AV.str ([39, 97, 39] : List UInt8), AV.str ([34, 97, 34] : List UInt8), AV.str ([37, 97] : List UInt8), AV.str ([64, 97] : List UInt8), AV.str ([96, 97] : List UInt8), AV.str ([91, 97] : List UInt8), AV.str ([123, 97] : List UInt8), AV.str ([93] : List UInt8), AV.str ([125] : List UInt8), AV.str ([44, 97] : List UInt8), AV.str ([45, 45, 45, 32, 97] : List UInt8), AV.str ([46, 46, 46] : List UInt8), AV.str ([97, 58, 32, 98] : List UInt8), AV.str ([97, 32, 35, 98] : List UInt8), AV.str ([32, 97] : List UInt8), AV.str ([97, 32] : List UInt8), AV.str ([97, 9, 98] : List UInt8), AV.str ([97, 58] : List UInt8), AV.str ([97, 10, 98] : List UInt8)].length : Nat) : Int) 0)
                    else
                      (R id_plainValid [AV.str s2, AV.bool true]).bind fun r120 =>
                      asB r120.v fun b153 =>
                      bif b153 then
                        ((R id_plainValid [AV.str s2, AV.bool false]).bind fun r121 =>
                        asB r121.v fun b154 =>
                        bif !b154 then
                          (some ⟨AV.bool false, false, []⟩)
                        else
                          law04PlainParts_L1 R N
                            (fun b155 =>
                              some ⟨AV.bool b155, false, []⟩)
                            (fun b156 =>
                              (R id_plainValid [AV.str ([45, 97] : List UInt8), AV.bool b156]).bind fun r122 =>
                              asB r122.v fun b157 =>
                              bif b157 then
                                ((R id_plainValid [AV.str ([97, 58, 98] : List UInt8), AV.bool b156]).bind fun r123 =>
                                asB r123.v fun b158 =>
                                bif b158 then
                                  ((R id_plainValid [AV.str ([97, 35, 98] : List UInt8), AV.bool b156]).bind fun r124 =>
                                  asB r124.v fun b159 =>
                                  bif b159 then
                                    ((R id_plainValid [AV.str ([97, 44, 32, 98] : List UInt8), AV.bool false]).bind fun r125 =>
                                    asB r125.v fun b160 =>
                                    bif b160 then
                                      ((R id_plainValid [AV.str ([97, 44, 32, 98] : List UInt8), AV.bool true]).bind fun r126 =>
                                      asB r126.v fun b161 =>
                                      bif !b161 then
                                        ((R id_law04Wakes []).bind fun r127 =>
                                        asB r127.v fun b162 =>
                                        some ⟨AV.bool b162, false, []⟩)
                                      else
                                        some ⟨AV.bool false, false, []⟩)
                                    else
                                      some ⟨AV.bool false, false, []⟩)
                                  else
                                    some ⟨AV.bool false, false, []⟩)
                                else
                                  some ⟨AV.bool false, false, []⟩)
                              else
                                some ⟨AV.bool false, false, []⟩)
                            N b1 [AV.str ([] : List UInt8), AV.str ([45, 32, 97] : List UInt8), AV.str ([63, 32, 97] : List UInt8), AV.str ([58, 32, 97] : List UInt8), AV.str ([45] : List UInt8), AV.str ([35, 97] : List UInt8), AV.str ([38, 97] : List UInt8), AV.str ([42, 97] : List UInt8), AV.str ([33, 97] : List UInt8), AV.str ([124] : List UInt8), AV.str ([62] : List UInt8), AV.str ([39, 97, 39] : List UInt8), AV.str ([34, 97, 34] : List UInt8), AV.str ([37, 97] : List UInt8), AV.str ([64, 97] : List UInt8), AV.str ([96, 97] : List UInt8), AV.str ([91, 97] : List UInt8), AV.str ([123, 97] : List UInt8), AV.str ([93] : List UInt8), AV.str ([125] : List UInt8), AV.str ([44, 97] : List UInt8), AV.str ([45, 45, 45, 32, 97] : List UInt8), AV.str ([46, 46, 46] : List UInt8), AV.str ([97, 58, 32, 98] : List UInt8), AV.str ([97, 32, 35, 98] : List UInt8), AV.str ([32, 97] : List UInt8), AV.str ([97, 32] : List UInt8), AV.str ([97, 9, 98] : List UInt8), AV.str ([97, 58] : List UInt8), AV.str ([97, 10, 98] : List UInt8)] (([AV.str ([] : List UInt8), AV.str ([45, 32, 97] : List UInt8), AV.str ([63, 32, 97] : List UInt8), AV.str ([58, 32, 97] : List UInt8), AV.str ([45] : List UInt8), AV.str ([35, 97] : List UInt8), AV.str ([38, 97] : List UInt8), AV.str ([42, 97] : List UInt8), AV.str ([33, 97] : List UInt8), AV.str ([124] : List UInt8), AV.str ([62] : List UInt8), AV.str ([39, 97, 39] : List UInt8), AV.str ([34, 97, 34] : List UInt8), AV.str ([37, 97] : List UInt8), AV.str ([64, 97] : List UInt8), AV.str ([96, 97] : List UInt8), AV.str ([91, 97] : List UInt8), AV.str ([123, 97] : List UInt8), AV.str ([93] : List UInt8), AV.str ([125] : List UInt8), AV.str ([44, 97] : List UInt8), AV.str ([45, 45, 45, 32, 97] : List UInt8), AV.str ([46, 46, 46] : List UInt8), AV.str ([97, 58, 32, 98] : List UInt8), AV.str ([97, 32, 35, 98] : List UInt8), AV.str ([32, 97] : List UInt8), AV.str ([97, 32] : List UInt8), AV.str ([97, 9, 98] : List UInt8), AV.str ([97, 58] : List UInt8), AV.str ([97, 10, 98] : List UInt8)].length : Nat) : Int) 0)
                      else
                        law04PlainParts_L1 R N
                          (fun b163 =>
                            some ⟨AV.bool b163, false, []⟩)
                          (fun b164 =>
                            (R id_plainValid [AV.str ([45, 97] : List UInt8), AV.bool b164]).bind fun r128 =>
                            asB r128.v fun b165 =>
                            bif b165 then
                              ((R id_plainValid [AV.str ([97, 58, 98] : List UInt8), AV.bool b164]).bind fun r129 =>
                              asB r129.v fun b166 =>
                              bif b166 then
                                ((R id_plainValid [AV.str ([97, 35, 98] : List UInt8), AV.bool b164]).bind fun r130 =>
                                asB r130.v fun b167 =>
                                bif b167 then
                                  ((R id_plainValid [AV.str ([97, 44, 32, 98] : List UInt8), AV.bool false]).bind fun r131 =>
                                  asB r131.v fun b168 =>
                                  bif b168 then
                                    ((R id_plainValid [AV.str ([97, 44, 32, 98] : List UInt8), AV.bool true]).bind fun r132 =>
                                    asB r132.v fun b169 =>
                                    bif !b169 then
                                      ((R id_law04Wakes []).bind fun r133 =>
                                      asB r133.v fun b170 =>
                                      some ⟨AV.bool b170, false, []⟩)
                                    else
                                      some ⟨AV.bool false, false, []⟩)
                                  else
                                    some ⟨AV.bool false, false, []⟩)
                                else
                                  some ⟨AV.bool false, false, []⟩)
                              else
                                some ⟨AV.bool false, false, []⟩)
                            else
                              some ⟨AV.bool false, false, []⟩)
                          N b1 [AV.str ([] : List UInt8), AV.str ([45, 32, 97] : List UInt8), AV.str ([63, 32, 97] : List UInt8), AV.str ([58, 32, 97] : List UInt8), AV.str ([45] : List UInt8), AV.str ([35, 97] : List UInt8), AV.str ([38, 97] : List UInt8), AV.str ([42, 97] : List UInt8), AV.str ([33, 97] : List UInt8), AV.str ([124] : List UInt8), AV.str ([62] : List UInt8), AV.str ([39, 97, 39] : List UInt8), AV.str ([34, 97, 34] : List UInt8), AV.str ([37, 97] : List UInt8), AV.str ([64, 97] : List UInt8), AV.str ([96, 97] : List UInt8), AV.str ([91, 97] : List UInt8), AV.str ([123, 97] : List UInt8), AV.str ([93] : List UInt8), AV.str ([125] : List UInt8), AV.str ([44, 97] : List UInt8), AV.str ([45, 45, 45, 32, 97] : List UInt8), AV.str ([46, 46, 46] : List UInt8), AV.str ([97, 58, 32, 98] : List UInt8), AV.str ([97, 32, 35, 98] : List UInt8), AV.str ([32, 97] : List UInt8), AV.str ([97, 32] : List UInt8), AV.str ([97, 9, 98] : List UInt8), AV.str ([97, 58] : List UInt8), AV.str ([97, 10, 98] : List UInt8)] (([AV.str ([] : List UInt8), AV.str ([45, 32, 97] : List UInt8), AV.str ([63, 32, 97] : List UInt8), AV.str ([58, 32, 97] : List UInt8), AV.str ([45] : List UInt8), AV.str ([35, 97] : List UInt8), AV.str ([38, 97] : List UInt8), AV.str ([42, 97] : List UInt8), AV.str ([33, 97] : List UInt8), AV.str ([124] : List UInt8), AV.str ([62] : List UInt8), AV.str ([39, 97, 39] : List UInt8), AV.str ([34, 97, 34] : List UInt8), AV.str ([37, 97] : List UInt8), AV.str ([64, 97] : List UInt8), AV.str ([96, 97] : List UInt8), AV.str ([91, 97] : List UInt8), AV.str ([123, 97] : List UInt8), AV.str ([93] : List UInt8), AV.str ([125] : List UInt8), AV.str ([44, 97] : List UInt8), AV.str ([45, 45, 45, 32, 97] : List UInt8), AV.str ([46, 46, 46] : List UInt8), AV.str ([97, 58, 32, 98] : List UInt8), AV.str ([97, 32, 35, 98] : List UInt8), AV.str ([32, 97] : List UInt8), AV.str ([97, 32] : List UInt8), AV.str ([97, 9, 98] : List UInt8), AV.str ([97, 58] : List UInt8), AV.str ([97, 10, 98] : List UInt8)].length : Nat) : Int) 0)
                  else
                    bif decide ((i1 : Int) > 0) then
                      (need (decide (0 ≤ (IntKind.i64.wrap (i1 - 1) : Int))) <|
                      (s2[Int.toNat (IntKind.i64.wrap (i1 - 1))]?).bind fun c9 =>
                      bif ((c9.toNat : Int) : Int) == 32 then
                        (some ⟨AV.bool false, false, []⟩)
                      else
                        need (decide (0 ≤ (i1 : Int)) && decide ((i1 : Int) ≤ ((s2.length : Nat) : Int))) <|
                        (R id_plainLength [AV.bytes ((s2.take (Int.toNat i1)).drop 0), AV.bool b1]).bind fun r134 =>
                        asI .i64 r134.v fun i7 =>
                        bif (i7 : Int) != i1 then
                          (some ⟨AV.bool false, false, []⟩)
                        else
                          (R id_plainValid [AV.str s2, AV.bool true]).bind fun r135 =>
                          asB r135.v fun b171 =>
                          bif b171 then
                            ((R id_plainValid [AV.str s2, AV.bool false]).bind fun r136 =>
                            asB r136.v fun b172 =>
                            bif !b172 then
                              (some ⟨AV.bool false, false, []⟩)
                            else
                              law04PlainParts_L1 R N
                                (fun b173 =>
                                  some ⟨AV.bool b173, false, []⟩)
                                (fun b174 =>
                                  (R id_plainValid [AV.str ([45, 97] : List UInt8), AV.bool b174]).bind fun r137 =>
                                  asB r137.v fun b175 =>
                                  bif b175 then
                                    ((R id_plainValid [AV.str ([97, 58, 98] : List UInt8), AV.bool b174]).bind fun r138 =>
                                    asB r138.v fun b176 =>
                                    bif b176 then
                                      ((R id_plainValid [AV.str ([97, 35, 98] : List UInt8), AV.bool b174]).bind fun r139 =>
                                      asB r139.v fun b177 =>
                                      bif b177 then
                                        ((R id_plainValid [AV.str ([97, 44, 32, 98] : List UInt8), AV.bool false]).bind fun r140 =>
                                        asB r140.v fun b178 =>
                                        bif b178 then
                                          ((R id_plainValid [AV.str ([97, 44, 32, 98] : List UInt8), AV.bool true]).bind fun r141 =>
                                          asB r141.v fun b179 =>
                                          bif !b179 then
                                            ((R id_law04Wakes []).bind fun r142 =>
                                            asB r142.v fun b180 =>
                                            some ⟨AV.bool b180, false, []⟩)
                                          else
                                            some ⟨AV.bool false, false, []⟩)
                                        else
                                          some ⟨AV.bool false, false, []⟩)
                                      else
                                        some ⟨AV.bool false, false, []⟩)
                                    else
                                      some ⟨AV.bool false, false, []⟩)
                                  else
                                    some ⟨AV.bool false, false, []⟩)
                                N b1 [AV.str ([] : List UInt8), AV.str ([45, 32, 97] : List UInt8), AV.str ([63, 32, 97] : List UInt8), AV.str ([58, 32, 97] : List UInt8), AV.str ([45] : List UInt8), AV.str ([35, 97] : List UInt8), AV.str ([38, 97] : List UInt8), AV.str ([42, 97] : List UInt8), AV.str ([33, 97] : List UInt8), AV.str ([124] : List UInt8), AV.str ([62] : List UInt8), AV.str ([39, 97, 39] : List UInt8), AV.str ([34, 97, 34] : List UInt8), AV.str ([37, 97] : List UInt8), AV.str ([64, 97] : List UInt8), AV.str ([96, 97] : List UInt8), AV.str ([91, 97] : List UInt8), AV.str ([123, 97] : List UInt8), AV.str ([93] : List UInt8), AV.str ([125] : List UInt8), AV.str ([44, 97] : List UInt8), AV.str ([45, 45, 45, 32, 97] : List UInt8), AV.str ([46, 46, 46] : List UInt8), AV.str ([97, 58, 32, 98] : List UInt8), AV.str ([97, 32, 35, 98] : List UInt8), AV.str ([32, 97] : List UInt8), AV.str ([97, 32] : List UInt8), AV.str ([97, 9, 98] : List UInt8), AV.str ([97, 58] : List UInt8), AV.str ([97, 10, 98] : List UInt8)] (([AV.str ([] : List UInt8), AV.str ([45, 32, 97] : List UInt8), AV.str ([63, 32, 97] : List UInt8), AV.str ([58, 32, 97] : List UInt8), AV.str ([45] : List UInt8), AV.str ([35, 97] : List UInt8), AV.str ([38, 97] : List UInt8), AV.str ([42, 97] : List UInt8), AV.str ([33, 97] : List UInt8), AV.str ([124] : List UInt8), AV.str ([62] : List UInt8), AV.str ([39, 97, 39] : List UInt8), AV.str ([34, 97, 34] : List UInt8), AV.str ([37, 97] : List UInt8), AV.str ([64, 97] : List UInt8), AV.str ([96, 97] : List UInt8), AV.str ([91, 97] : List UInt8), AV.str ([123, 97] : List UInt8), AV.str ([93] : List UInt8), AV.str ([125] : List UInt8), AV.str ([44, 97] : List UInt8), AV.str ([45, 45, 45, 32, 97] : List UInt8), AV.str ([46, 46, 46] : List UInt8), AV.str ([97, 58, 32, 98] : List UInt8), AV.str ([97, 32, 35, 98] : List UInt8), AV.str ([32, 97] : List UInt8), AV.str ([97, 32] : List UInt8), AV.str ([97, 9, 98] : List UInt8), AV.str ([97, 58] : List UInt8), AV.str ([97, 10, 98] : List UInt8)].length : Nat) : Int) 0)
                          else
                            law04PlainParts_L1 R N
                              (fun b181 =>
                                some ⟨AV.bool b181, false, []⟩)
                              (fun b182 =>
                                (R id_plainValid [AV.str ([45, 97] : List UInt8), AV.bool b182]).bind fun r143 =>
                                asB r143.v fun b183 =>
                                bif b183 then
                                  ((R id_plainValid [AV.str ([97, 58, 98] : List UInt8), AV.bool b182]).bind fun r144 =>
                                  asB r144.v fun b184 =>
                                  bif b184 then
                                    ((R id_plainValid [AV.str ([97, 35, 98] : List UInt8), AV.bool b182]).bind fun r145 =>
                                    asB r145.v fun b185 =>
                                    bif b185 then
                                      ((R id_plainValid [AV.str ([97, 44, 32, 98] : List UInt8), AV.bool false]).bind fun r146 =>
                                      asB r146.v fun b186 =>
                                      bif b186 then
                                        ((R id_plainValid [AV.str ([97, 44, 32, 98] : List UInt8), AV.bool true]).bind fun r147 =>
                                        asB r147.v fun b187 =>
                                        bif !b187 then
                                          ((R id_law04Wakes []).bind fun r148 =>
                                          asB r148.v fun b188 =>
                                          some ⟨AV.bool b188, false, []⟩)
                                        else
                                          some ⟨AV.bool false, false, []⟩)
                                      else
                                        some ⟨AV.bool false, false, []⟩)
                                    else
                                      some ⟨AV.bool false, false, []⟩)
                                  else
                                    some ⟨AV.bool false, false, []⟩)
                                else
                                  some ⟨AV.bool false, false, []⟩)
                              N b1 [AV.str ([] : List UInt8), AV.str ([45, 32, 97] : List UInt8), AV.str ([63, 32, 97] : List UInt8), AV.str ([58, 32, 97] : List UInt8), AV.str ([45] : List UInt8), AV.str ([35, 97] : List UInt8), AV.str ([38, 97] : List UInt8), AV.str ([42, 97] : List UInt8), AV.str ([33, 97] : List UInt8), AV.str ([124] : List UInt8), AV.str ([62] : List UInt8), AV.str ([39, 97, 39] : List UInt8), AV.str ([34, 97, 34] : List UInt8), AV.str ([37, 97] : List UInt8), AV.str ([64, 97] : List UInt8), AV.str ([96, 97] : List UInt8), AV.str ([91, 97] : List UInt8), AV.str ([123, 97] : List UInt8), AV.str ([93] : List UInt8), AV.str ([125] : List UInt8), AV.str ([44, 97] : List UInt8), AV.str ([45, 45, 45, 32, 97] : List UInt8), AV.str ([46, 46, 46] : List UInt8), AV.str ([97, 58, 32, 98] : List UInt8), AV.str ([97, 32, 35, 98] : List UInt8), AV.str ([32, 97] : List UInt8), AV.str ([97, 32] : List UInt8), AV.str ([97, 9, 98] : List UInt8), AV.str ([97, 58] : List UInt8), AV.str ([97, 10, 98] : List UInt8)] (([AV.str ([] : List UInt8), AV.str ([45, 32, 97] : List UInt8), AV.str ([63, 32, 97] : List UInt8), AV.str ([58, 32, 97] : List UInt8), AV.str ([45] : List UInt8), AV.str ([35, 97] : List UInt8), AV.str ([38, 97] : List UInt8), AV.str ([42, 97] : List UInt8), AV.str ([33, 97] : List UInt8), AV.str ([124] : List UInt8), AV.str ([62] : List UInt8), AV.str ([39, 97, 39] : List UInt8), AV.str ([34, 97, 34] : List UInt8), AV.str ([37, 97] : List UInt8), AV.str ([64, 97] : List UInt8), AV.str ([96, 97] : List UInt8), AV.str ([91, 97] : List UInt8), AV.str ([123, 97] : List UInt8), AV.str ([93] : List UInt8), AV.str ([125] : List UInt8), AV.str ([44, 97] : List UInt8), AV.str ([45, 45, 45, 32, 97] : List UInt8), AV.str ([46, 46, 46] : List UInt8), AV.str ([97, 58, 32, 98] : List UInt8), AV.str ([97, 32, 35, 98] : List UInt8), AV.str ([32, 97] : List UInt8), AV.str ([97, 32] : List UInt8), AV.str ([97, 9, 98] : List UInt8), AV.str ([97, 58] : List UInt8), AV.str ([97, 10, 98] : List UInt8)].length : Nat) : Int) 0)
                    else
                      (R id_plainValid [AV.str s2, AV.bool true]).bind fun r149 =>
                      asB r149.v fun b189 =>
                      bif b189 then
                        ((R id_plainValid [AV.str s2, AV.bool false]).bind fun r150 =>
                        asB r150.v fun b190 =>
                        bif !b190 then
                          (some ⟨AV.bool false, false, []⟩)
                        else
                          law04PlainParts_L1 R N
                            (fun b191 =>
                              some ⟨AV.bool b191, false, []⟩)
                            (fun b192 =>
                              (R id_plainValid [AV.str ([45, 97] : List UInt8), AV.bool b192]).bind fun r151 =>
                              asB r151.v fun b193 =>
                              bif b193 then
                                ((R id_plainValid [AV.str ([97, 58, 98] : List UInt8), AV.bool b192]).bind fun r152 =>
                                asB r152.v fun b194 =>
                                bif b194 then
                                  ((R id_plainValid [AV.str ([97, 35, 98] : List UInt8), AV.bool b192]).bind fun r153 =>
                                  asB r153.v fun b195 =>
                                  bif b195 then
                                    ((R id_plainValid [AV.str ([97, 44, 32, 98] : List UInt8), AV.bool false]).bind fun r154 =>
                                    asB r154.v fun b196 =>
                                    bif b196 then
                                      ((R id_plainValid [AV.str ([97, 44, 32, 98] : List UInt8), AV.bool true]).bind fun r155 =>
                                      asB r155.v fun b197 =>
                                      bif !b197 then
                                        ((R id_law04Wakes []).bind fun r156 =>
                                        asB r156.v fun b198 =>
                                        some ⟨AV.bool b198, false, []⟩)
                                      else
                                        some ⟨AV.bool false, false, []⟩)
                                    else
                                      some ⟨AV.bool false, false, []⟩)
                                  else
                                    some ⟨AV.bool false, false, []⟩)
                                else
                                  some ⟨AV.bool false, false, []⟩)
                              else
                                some ⟨AV.bool false, false, []⟩)
                            N b1 [AV.str ([] : List UInt8), AV.str ([45, 32, 97] : List UInt8), AV.str ([63, 32, 97] : List UInt8), AV.str ([58, 32, 97] : List UInt8), AV.str ([45] : List UInt8), AV.str ([35, 97] : List UInt8), AV.str ([38, 97] : List UInt8), AV.str ([42, 97] : List UInt8), AV.str ([33, 97] : List UInt8), AV.str ([124] : List UInt8), AV.str ([62] : List UInt8), AV.str ([39, 97, 39] : List UInt8), AV.str ([34, 97, 34] : List UInt8), AV.str ([37, 97] : List UInt8), AV.str ([64, 97] : List UInt8), AV.str ([96, 97] : List UInt8), AV.str ([91, 97] : List UInt8), AV.str ([123, 97] : List UInt8), AV.str ([93] : List UInt8), AV.str ([125] : List UInt8), AV.str ([44, 97] : List UInt8), AV.str ([45, 45, 45, 32, 97] : List UInt8), AV.str ([46, 46, 46] : List UInt8), AV.str ([97, 58, 32, 98] : List UInt8), AV.str ([97, 32, 35, 98] : List UInt8), AV.str ([32, 97] : List UInt8), AV.str ([97, 32] : List UInt8), AV.str ([97, 9, 98] : List UInt8), AV.str ([97, 58] : List UInt8), AV.str ([97, 10, 98] : List UInt8)] (([AV.str ([] : List UInt8), AV.str ([45, 32, 97] : List UInt8), AV.str ([63, 32, 97] : List UInt8), AV.str ([58, 32, 97] : List UInt8), AV.str ([45] : List UInt8), AV.str ([35, 97] : List UInt8), AV.str ([38, 97] : List UInt8), AV.str ([42, 97] : List UInt8), AV.str ([33, 97] : List UInt8), AV.str ([124] : List UInt8), AV.str ([62] : List UInt8), AV.str ([39, 97, 39] : List UInt8), AV.str ([34, 97, 34] : List UInt8), AV.str ([37, 97] : List UInt8), AV.str ([64, 97] : List UInt8), AV.str ([96, 97] : List UInt8), AV.str ([91, 97] : List UInt8), AV.str ([123, 97] : List UInt8), AV.str ([93] : List UInt8), AV.str ([125] : List UInt8), AV.str ([44, 97] : List UInt8), AV.str ([45, 45, 45, 32, 97] : List UInt8), AV.str ([46, 46, 46] : List UInt8), AV.str ([97, 58, 32, 98] : List UInt8), AV.str ([97, 32, 35, 98] : List UInt8), AV.str ([32, 97] : List UInt8), AV.str ([97, 32] : List UInt8), AV.str ([97, 9, 98] : List UInt8), AV.str ([97, 58] : List UInt8), AV.str ([97, 10, 98] : List UInt8)].length : Nat) : Int) 0)
                      else
                        law04PlainParts_L1 R N
                          (fun b199 =>
                            some ⟨AV.bool b199, false, []⟩)
                          (fun b200 =>
                            (R id_plainValid [AV.str ([45, 97] : List UInt8), AV.bool b200]).bind fun r157 =>
                            asB r157.v fun b201 =>
                            bif b201 then
                              ((R id_plainValid [AV.str ([97, 58, 98] : List UInt8), AV.bool b200]).bind fun r158 =>
                              asB r158.v fun b202 =>
                              bif b202 then
                                ((R id_plainValid [AV.str ([97, 35, 98] : List UInt8), AV.bool b200]).bind fun r159 =>
                                asB r159.v fun b203 =>
                                bif b203 then
                                  ((R id_plainValid [AV.str ([97, 44, 32, 98] : List UInt8), AV.bool false]).bind fun r160 =>
                                  asB r160.v fun b204 =>
                                  bif b204 then
                                    ((R id_plainValid [AV.str ([97, 44, 32, 98] : List UInt8), AV.bool true]).bind fun r161 =>
                                    asB r161.v fun b205 =>
                                    bif !b205 then
                                      ((R id_law04Wakes []).bind fun r162 =>
                                      asB r162.v fun b206 =>
                                      some ⟨AV.bool b206, false, []⟩)
                                    else
                                      some ⟨AV.bool false, false, []⟩)
                                  else
                                    some ⟨AV.bool false, false, []⟩)
                                else
                                  some ⟨AV.bool false, false, []⟩)
                              else
                                some ⟨AV.bool false, false, []⟩)
                            else
                              some ⟨AV.bool false, false, []⟩)
                          N b1 [AV.str ([] : List UInt8), AV.str ([45, 32, 97] : List UInt8), AV.str ([63, 32, 97] : List UInt8), AV.str ([58, 32, 97] : List UInt8), AV.str ([45] : List UInt8), AV.str ([35, 97] : List UInt8), AV.str ([38, 97] : List UInt8), AV.str ([42, 97] : List UInt8), AV.str ([33, 97] : List UInt8), AV.str ([124] : List UInt8), AV.str ([62] : List UInt8), AV.str ([39, 97, 39] : List UInt8), AV.str ([34, 97, 34] : List UInt8), AV.str ([37, 97] : List UInt8), AV.str ([64, 97] : List UInt8), AV.str ([96, 97] : List UInt8), AV.str ([91, 97] : List UInt8), AV.str ([123, 97] : List UInt8), AV.str ([93] : List UInt8), AV.str ([125] : List UInt8), AV.str ([44, 97] : List UInt8), AV.str ([45, 45, 45, 32, 97] : List UInt8), AV.str ([46, 46, 46] : List UInt8), AV.str ([97, 58, 32, 98] : List UInt8), AV.str ([97, 32, 35, 98] : List UInt8), AV.str ([32, 97] : List UInt8), AV.str ([97, 32] : List UInt8), AV.str ([97, 9, 98] : List UInt8), AV.str ([97, 58] : List UInt8), AV.str ([97, 10, 98] : List UInt8)] (([AV.str ([] : List UInt8), AV.str ([45, 32, 97] : List UInt8), AV.str ([63, 32, 97] : List UInt8), AV.str ([58, 32, 97] : List UInt8), AV.str ([45] : List UInt8), AV.str ([35, 97] : List UInt8), AV.str ([38, 97] : List UInt8), AV.str ([42, 97] : List UInt8), AV.str ([33, 97] : List UInt8), AV.str ([124] : List UInt8), AV.str ([62] : List UInt8), AV.str ([39, 97, 39] : List UInt8), AV.str ([34, 97, 34] : List UInt8), AV.str ([37, 97] : List UInt8), AV.str ([64, 97] : List UInt8), AV.str ([96, 97] : List UInt8), AV.str ([91, 97] : List UInt8), AV.str ([123, 97] : List UInt8), AV.str ([93] : List UInt8), AV.str ([125] : List UInt8), AV.str ([44, 97] : List UInt8), AV.str ([45, 45, 45, 32, 97] : List UInt8), AV.str ([46, 46, 46] : List UInt8), AV.str ([97, 58, 32, 98] : List UInt8), AV.str ([97, 32, 35, 98] : List UInt8), AV.str ([32, 97] : List UInt8), AV.str ([97, 32] : List UInt8), AV.str ([97, 9, 98] : List UInt8), AV.str ([97, 58] : List UInt8), AV.str ([97, 10, 98] : List UInt8)].length : Nat) : Int) 0)
          else
            bif decide ((i1 : Int) > 0) then
              (need (decide (0 ≤ (IntKind.i64.wrap (i1 - 1) : Int))) <|
              (s2[Int.toNat (IntKind.i64.wrap (i1 - 1))]?).bind fun c10 =>
              bif decide ((i1 : Int) > 0) then
                (need (decide (0 ≤ (IntKind.i64.wrap (i1 - 1) : Int))) <|
                (s2[Int.toNat (IntKind.i64.wrap (i1 - 1))]?).bind fun c11 =>
                bif ((c11.toNat : Int) : Int) == 32 then
                  (some ⟨AV.bool false, false, []⟩)
                else
                  bif !(((c10.toNat : Int) : Int) == 58) then
                    (need (decide (0 ≤ (i1 : Int)) && decide ((i1 : Int) ≤ ((s2.length : Nat) : Int))) <|
                    (R id_plainLength [AV.bytes ((s2.take (Int.toNat i1)).drop 0), AV.bool b1]).bind fun r163 =>
                    asI .i64 r163.v fun i8 =>
                    bif (i8 : Int) != i1 then
                      (some ⟨AV.bool false, false, []⟩)
                    else
                      (R id_plainValid [AV.str s2, AV.bool true]).bind fun r164 =>
                      asB r164.v fun b207 =>
                      bif b207 then
                        ((R id_plainValid [AV.str s2, AV.bool false]).bind fun r165 =>
                        asB r165.v fun b208 =>
                        bif !b208 then
                          (some ⟨AV.bool false, false, []⟩)
                        else
                          law04PlainParts_L1 R N
                            (fun b209 =>
                              some ⟨AV.bool b209, false, []⟩)
                            (fun b210 =>
                              (R id_plainValid [AV.str ([45, 97] : List UInt8), AV.bool b210]).bind fun r166 =>
                              asB r166.v fun b211 =>
                              bif b211 then
                                ((R id_plainValid [AV.str ([97, 58, 98] : List UInt8), AV.bool b210]).bind fun r167 =>
                                asB r167.v fun b212 =>
                                bif b212 then
                                  ((R id_plainValid [AV.str ([97, 35, 98] : List UInt8), AV.bool b210]).bind fun r168 =>
                                  asB r168.v fun b213 =>
                                  bif b213 then
                                    ((R id_plainValid [AV.str ([97, 44, 32, 98] : List UInt8), AV.bool false]).bind fun r169 =>
                                    asB r169.v fun b214 =>
                                    bif b214 then
                                      ((R id_plainValid [AV.str ([97, 44, 32, 98] : List UInt8), AV.bool true]).bind fun r170 =>
                                      asB r170.v fun b215 =>
                                      bif !b215 then
                                        ((R id_law04Wakes []).bind fun r171 =>
                                        asB r171.v fun b216 =>
                                        some ⟨AV.bool b216, false, []⟩)
                                      else
                                        some ⟨AV.bool false, false, []⟩)
                                    else
                                      some ⟨AV.bool false, false, []⟩)
                                  else
                                    some ⟨AV.bool false, false, []⟩)
                                else
                                  some ⟨AV.bool false, false, []⟩)
                              else
                                some ⟨AV.bool false, false, []⟩)
                            N b1 [AV.str ([] : List UInt8), AV.str ([45, 32, 97] : List UInt8), AV.str ([63, 32, 97] : List UInt8), AV.str ([58, 32, 97] : List UInt8), AV.str ([45] : List UInt8), AV.str ([35, 97] : List UInt8), AV.str ([38, 97] : List UInt8), AV.str ([42, 97] : List UInt8), AV.str ([33, 97] : List UInt8), AV.str ([124] : List UInt8), AV.str ([62] : List UInt8), AV.str ([39, 97, 39] : List UInt8), AV.str ([34, 97, 34] : List UInt8), AV.str ([37, 97] : List UInt8), AV.str ([64, 97] : List UInt8), AV.str ([96, 97] : List UInt8), AV.str ([91, 97] : List UInt8), AV.str ([123, 97] : List UInt8), AV.str ([93] : List UInt8), AV.str ([125] : List UInt8), AV.str ([44, 97] : List UInt8), AV.str ([45, 45, 45, 32, 97] : List UInt8), AV.str ([46, 46, 46] : List UInt8), AV.str ([97, 58, 32, 98] : List UInt8), AV.str ([97, 32, 35, 98] : List UInt8), AV.str ([32, 97] : List UInt8), AV.str ([97, 32] : List UInt8), AV.str ([97, 9, 98] : List UInt8), AV.str ([97, 58] : List UInt8), AV.str ([97, 10, 98] : List UInt8)] (([AV.str ([] : List UInt8), AV.str ([45, 32, 97] : List UInt8), AV.str ([63, 32, 97] : List UInt8), AV.str ([58, 32, 97] : List UInt8), AV.str ([45] : List UInt8), AV.str ([35, 97] : List UInt8), AV.str ([38, 97] : List UInt8), AV.str ([42, 97] : List UInt8), AV.str ([33, 97] : List UInt8), AV.str ([124] : List UInt8), AV.str ([62] : List UInt8), AV.str ([39, 97, 39] : List UInt8), AV.str ([34, 97, 34] : List UInt8), AV.str ([37, 97] : List UInt8), AV.str ([64, 97] : List UInt8), AV.str ([96, 97] : List UInt8), AV.str ([91, 97] : List UInt8), AV.str ([123, 97] : List UInt8), AV.str ([93] : List UInt8), AV.str ([125] : List UInt8), AV.str ([44, 97] : List UInt8), AV.str ([45, 45, 45, 32, 97] : List UInt8), AV.str ([46, 46, 46] : List UInt8), AV.str ([97, 58, 32, 98] : List UInt8), AV.str ([97, 32, 35, 98] : List UInt8), AV.str ([32, 97] : List UInt8), AV.str ([97, 32] : List UInt8), AV.str ([97, 9, 98] : List UInt8), AV.str ([97, 58] : List UInt8), AV.str ([97, 10, 98] : List UInt8)].length : Nat) : Int) 0)
                      else
                        law04PlainParts_L1 R N
                          (fun b217 =>
                            some ⟨AV.bool b217, false, []⟩)
                          (fun b218 =>
                            (R id_plainValid [AV.str ([45, 97] : List UInt8), AV.bool b218]).bind fun r172 =>
                            asB r172.v fun b219 =>
                            bif b219 then
                              ((R id_plainValid [AV.str ([97, 58, 98] : List UInt8), AV.bool b218]).bind fun r173 =>
                              asB r173.v fun b220 =>
                              bif b220 then
                                ((R id_plainValid [AV.str ([97, 35, 98] : List UInt8), AV.bool b218]).bind fun r174 =>
                                asB r174.v fun b221 =>
                                bif b221 then
                                  ((R id_plainValid [AV.str ([97, 44, 32, 98] : List UInt8), AV.bool false]).bind fun r175 =>
                                  asB r175.v fun b222 =>
                                  bif b222 then
                                    ((R id_plainValid [AV.str ([97, 44, 32, 98] : List UInt8), AV.bool true]).bind fun r176 =>
                                    asB r176.v fun b223 =>
                                    bif !b223 then
                                      ((R id_law04Wakes []).bind fun r177 =>
                                      asB r177.v fun b224 =>
                                      some ⟨AV.bool b224, false, []⟩)
                                    else
                                      some ⟨AV.bool false, false, []⟩)
                                  else
                                    some ⟨AV.bool false, false, []⟩)
                                else
                                  some ⟨AV.bool false, false, []⟩)
                              else
                                some ⟨AV.bool false, false, []⟩)
                            else
                              some ⟨AV.bool false, false, []⟩)
                          N b1 [AV.str ([] : List UInt8), AV.str ([45, 32, 97] : List UInt8), AV.str ([63, 32, 97] : List UInt8), AV.str ([58, 32, 97] : List UInt8), AV.str ([45] : List UInt8), AV.str ([35, 97] : List UInt8), AV.str ([38, 97] : List UInt8), AV.str ([42, 97] : List UInt8), AV.str ([33, 97] : List UInt8), AV.str ([124] : List UInt8), AV.str ([62] : List UInt8), AV.str ([39, 97, 39] : List UInt8), AV.str ([34, 97, 34] : List UInt8), AV.str ([37, 97] : List UInt8), AV.str ([64, 97] : List UInt8), AV.str ([96, 97] : List UInt8), AV.str ([91, 97] : List UInt8), AV.str ([123, 97] : List UInt8), AV.str ([93] : List UInt8), AV.str ([125] : List UInt8), AV.str ([44, 97] : List UInt8), AV.str ([45, 45, 45, 32, 97] : List UInt8), AV.str ([46, 46, 46] : List UInt8), AV.str ([97, 58, 32, 98] : List UInt8), AV.str ([97, 32, 35, 98] : List UInt8), AV.str ([32, 97] : List UInt8), AV.str ([97, 32] : List UInt8), AV.str ([97, 9, 98] : List UInt8), AV.str ([97, 58] : List UInt8), AV.str ([97, 10, 98] : List UInt8)] (([AV.str ([] : List UInt8), AV.str ([45, 32, 97] : List UInt8), AV.str ([63, 32, 97] : List UInt8), AV.str ([58, 32, 97] : List UInt8), AV.str ([45] : List UInt8), AV.str ([35, 97] : List UInt8), AV.str ([38, 97] : List UInt8), AV.str ([42, 97] : List UInt8), AV.str ([33, 97] : List UInt8), AV.str ([124] : List UInt8), AV.str ([62] : List UInt8), AV.str ([39, 97, 39] : List UInt8), AV.str ([34, 97, 34] : List UInt8), AV.str ([37, 97] : List UInt8), AV.str ([64, 97] : List UInt8), AV.str ([96, 97] : List UInt8), AV.str ([91, 97] : List UInt8), AV.str ([123, 97] : List UInt8), AV.str ([93] : List UInt8), AV.str ([125] : List UInt8), AV.str ([44, 97] : List UInt8), AV.str ([45, 45, 45, 32, 97] : List UInt8), AV.str ([46, 46, 46] : List UInt8), AV.str ([97, 58, 32, 98] : List UInt8), AV.str ([97, 32, 35, 98] : List UInt8), AV.str ([32, 97] : List UInt8), AV.str ([97, 32] : List UInt8), AV.str ([97, 9, 98] : List UInt8), AV.str ([97, 58] : List UInt8), AV.str ([97, 10, 98] : List UInt8)].length : Nat) : Int) 0)
                  else
                    (R id_plainValid [AV.str s2, AV.bool true]).bind fun r178 =>
                    asB r178.v fun b225 =>
                    bif b225 then
                      ((R id_plainValid [AV.str s2, AV.bool false]).bind fun r179 =>
                      asB r179.v fun b226 =>
                      bif !b226 then
                        (some ⟨AV.bool false, false, []⟩)
                      else
                        law04PlainParts_L1 R N
                          (fun b227 =>
                            some ⟨AV.bool b227, false, []⟩)
                          (fun b228 =>
                            (R id_plainValid [AV.str ([45, 97] : List UInt8), AV.bool b228]).bind fun r180 =>
                            asB r180.v fun b229 =>
                            bif b229 then
                              ((R id_plainValid [AV.str ([97, 58, 98] : List UInt8), AV.bool b228]).bind fun r181 =>
                              asB r181.v fun b230 =>
                              bif b230 then
                                ((R id_plainValid [AV.str ([97, 35, 98] : List UInt8), AV.bool b228]).bind fun r182 =>
                                asB r182.v fun b231 =>
                                bif b231 then
                                  ((R id_plainValid [AV.str ([97, 44, 32, 98] : List UInt8), AV.bool false]).bind fun r183 =>
                                  asB r183.v fun b232 =>
                                  bif b232 then
                                    ((R id_plainValid [AV.str ([97, 44, 32, 98] : List UInt8), AV.bool true]).bind fun r184 =>
                                    asB r184.v fun b233 =>
                                    bif !b233 then
                                      ((R id_law04Wakes []).bind fun r185 =>
                                      asB r185.v fun b234 =>
                                      some ⟨AV.bool b234, false, []⟩)
                                    else
                                      some ⟨AV.bool false, false, []⟩)
                                  else
                                    some ⟨AV.bool false, false, []⟩)
                                else
                                  some ⟨AV.bool false, false, []⟩)
                              else
                                some ⟨AV.bool false, false, []⟩)
                            else
                              some ⟨AV.bool false, false, []⟩)
                          N b1 [AV.str ([] : List UInt8), AV.str ([45, 32, 97] : List UInt8), AV.str ([63, 32, 97] : List UInt8), AV.str ([58, 32, 97] : List UInt8), AV.str ([45] : List UInt8), AV.str ([35, 97] : List UInt8), AV.str ([38, 97] : List UInt8), AV.str ([42, 97] : List UInt8), AV.str ([33, 97] : List UInt8), AV.str ([124] : List UInt8), AV.str ([62] : List UInt8), AV.str ([39, 97, 39] : List UInt8), AV.str ([34, 97, 34] : List UInt8), AV.str ([37, 97] : List UInt8), AV.str ([64, 97] : List UInt8), AV.str ([96, 97] : List UInt8), AV.str ([91, 97] : List UInt8), AV.str ([123, 97] : List UInt8), AV.str ([93] : List UInt8), AV.str ([125] : List UInt8), AV.str ([44, 97] : List UInt8), AV.str ([45, 45, 45, 32, 97] : List UInt8), AV.str ([46, 46, 46] : List UInt8), AV.str ([97, 58, 32, 98] : List UInt8), AV.str ([97, 32, 35, 98] : List UInt8), AV.str ([32, 97] : List UInt8), AV.str ([97, 32] : List UInt8), AV.str ([97, 9, 98] : List UInt8), AV.str ([97, 58] : List UInt8), AV.str ([97, 10, 98] : List UInt8)] (([AV.str ([] : List UInt8), AV.str ([45, 32, 97] : List UInt8), AV.str ([63, 32, 97] : List UInt8), AV.str ([58, 32, 97] : List UInt8), AV.str ([45] : List UInt8), AV.str ([35, 97] : List UInt8), AV.str ([38, 97] : List UInt8), AV.str ([42, 97] : List UInt8), AV.str ([33, 97] : List UInt8), AV.str ([124] : List UInt8), AV.str ([62] : List UInt8), AV.str ([39, 97, 39] : List UInt8), AV.str ([34, 97, 34] : List UInt8), AV.str ([37, 97] : List UInt8), AV.str ([64, 97] : List UInt8), AV.str ([96, 97] : List UInt8), AV.str ([91, 97] : List UInt8), AV.str ([123, 97] : List UInt8), AV.str ([93] : List UInt8), AV.str ([125] : List UInt8), AV.str ([44, 97] : List UInt8), AV.str ([45, 45, 45, 32, 97] : List UInt8), AV.str ([46, 46, 46] : List UInt8), AV.str ([97, 58, 32, 98] : List UInt8), AV.str ([97, 32, 35, 98] : List UInt8), AV.str ([32, 97] : List UInt8), AV.str ([97, 32] : List UInt8), AV.str ([97, 9, 98] : List UInt8), AV.str ([97, 58] : List UInt8), AV.str ([97, 10, 98] : List UInt8)].length : Nat) : Int) 0)
                    else
                      law04PlainParts_L1 R N
                        (fun b235 =>
                          some ⟨AV.bool b235, false, []⟩)
                        (fun b236 =>
                          (R id_plainValid [AV.str ([45, 97] : List UInt8), AV.bool b236]).bind fun r186 =>
                          asB r186.v fun b237 =>
                          bif b237 then
                            ((R id_plainValid [AV.str ([97, 58, 98] : List UInt8), AV.bool b236]).bind fun r187 =>
                            asB r187.v fun b238 =>
                            bif b238 then
                              ((R id_plainValid [AV.str ([97, 35, 98] : List UInt8), AV.bool b236]).bind fun r188 =>
                              asB r188.v fun b239 =>
                              bif b239 then
                                ((R id_plainValid [AV.str ([97, 44, 32, 98] : List UInt8), AV.bool false]).bind fun r189 =>
                                asB r189.v fun b240 =>
                                bif b240 then
                                  ((R id_plainValid [AV.str ([97, 44, 32, 98] : List UInt8), AV.bool true]).bind fun r190 =>
                                  asB r190.v fun b241 =>
                                  bif !b241 then
                                    ((R id_law04Wakes []).bind fun r191 =>
                                    asB r191.v fun b242 =>
                                    some ⟨AV.bool b242, false, []⟩)
                                  else
                                    some ⟨AV.bool false, false, []⟩)
                                else
                                  some ⟨AV.bool false, false, []⟩)
                              else
                                some ⟨AV.bool false, false, []⟩)
                            else
                              some ⟨AV.bool false, false, []⟩)
                          else
                            some ⟨AV.bool false, false, []⟩)
                        N b1 [AV.str ([] : List UInt8), AV.str ([45, 32, 97] : List UInt8), AV.str ([63, 32, 97] : List UInt8), AV.str ([58, 32, 97] : List UInt8), AV.str ([45] : List UInt8), AV.str ([35, 97] : List UInt8), AV.str ([38, 97] : List UInt8), AV.str ([42, 97] : List UInt8), AV.str ([33, 97] : List UInt8), AV.str ([124] : List UInt8), AV.str ([62] : List UInt8), AV.str ([39, 97, 39] : List UInt8), AV.str ([34, 97, 34] : List UInt8), AV.str ([37, 97] : List UInt8), AV.str ([64, 97] : List UInt8), AV.str ([96, 97] : List UInt8), AV.str ([91, 97] : List UInt8), AV.str ([123, 97] : List UInt8), AV.str ([93] : List UInt8), AV.str ([125] : List UInt8), AV.str ([44, 97] : List UInt8), AV.str ([45, 45, 45, 32, 97] : List UInt8), AV.str ([46, 46, 46] : List UInt8), AV.str ([97, 58, 32, 98] : List UInt8), AV.str ([97, 32, 35, 98] : List UInt8), AV.str ([32, 97] : List UInt8), AV.str ([97, 32] : List UInt8), AV.str ([97, 9, 98] : List UInt8), AV.str ([97, 58] : List UInt8), AV.str ([97, 10, 98] : List UInt8)] (([AV.str ([] : List UInt8), AV.str ([45, 32, 97] : List UInt8), AV.str ([63, 32, 97] : List UInt8), AV.str ([58, 32, 97] : List UInt8), AV.str ([45] : List UInt8), AV.str ([35, 97] : List UInt8), AV.str ([38, 97] : List UInt8), AV.str ([42, 97] : List UInt8), AV.str ([33, 97] : List UInt8), AV.str ([124] : List UInt8), AV.str ([62] : List UInt8), AV.str ([39, 97, 39] : List UInt8), AV.str ([34, 97, 34] : List UInt8), AV.str ([37, 97] : List UInt8), AV.str ([64, 97] : List UInt8), AV.str ([96, 97] : List UInt8), AV.str ([91, 97] : List UInt8), AV.str ([123, 97] : List UInt8), AV.str ([93] : List UInt8), AV.str ([125] : List UInt8), AV.str ([44, 97] : List UInt8), AV.str ([45, 45, 45, 32, 97] : List UInt8), AV.str ([46, 46, 46] : List UInt8), AV.str ([97, 58, 32, 98] : List UInt8), AV.str ([97, 32, 35, 98] : List UInt8), AV.str ([32, 97] : List UInt8), AV.str ([97, 32] : List UInt8), AV.str ([97, 9, 98] : List UInt8), AV.str ([97, 58] : List UInt8), AV.str ([97, 10, 98] : List UInt8)].length : Nat) : Int) 0)
              else
                (R id_plainValid [AV.str s2, AV.bool true]).bind fun r192 =>
                asB r192.v fun b243 =>
                bif b243 then
                  ((R id_plainValid [AV.str s2, AV.bool false]).bind fun r193 =>
                  asB r193.v fun b244 =>
                  bif !b244 then
                    (some ⟨AV.bool false, false, []⟩)
                  else
                    law04PlainParts_L1 R N
                      (fun b245 =>
                        some ⟨AV.bool b245, false, []⟩)
                      (fun b246 =>
                        (R id_plainValid [AV.str ([45, 97] : List UInt8), AV.bool b246]).bind fun r194 =>
                        asB r194.v fun b247 =>
                        bif b247 then
                          ((R id_plainValid [AV.str ([97, 58, 98] : List UInt8), AV.bool b246]).bind fun r195 =>
                          asB r195.v fun b248 =>
                          bif b248 then
                            ((R id_plainValid [AV.str ([97, 35, 98] : List UInt8), AV.bool b246]).bind fun r196 =>
                            asB r196.v fun b249 =>
                            bif b249 then
                              ((R id_plainValid [AV.str ([97, 44, 32, 98] : List UInt8), AV.bool false]).bind fun r197 =>
                              asB r197.v fun b250 =>
                              bif b250 then
                                ((R id_plainValid [AV.str ([97, 44, 32, 98] : List UInt8), AV.bool true]).bind fun r198 =>
                                asB r198.v fun b251 =>
                                bif !b251 then
                                  ((R id_law04Wakes []).bind fun r199 =>
                                  asB r199.v fun b252 =>
                                  some ⟨AV.bool b252, false, []⟩)
                                else
                                  some ⟨AV.bool false, false, []⟩)
                              else
                                some ⟨AV.bool false, false, []⟩)
                            else
                              some ⟨AV.bool false, false, []⟩)
                          else
                            some ⟨AV.bool false, false, []⟩)
                        else
                          some ⟨AV.bool false, false, []⟩)
                      N b1 [AV.str ([] : List UInt8), AV.str ([45, 32, 97] : List UInt8), AV.str ([63, 32, 97] : List UInt8), AV.str ([58, 32, 97] : List UInt8), AV.str ([45] : List UInt8), AV.str ([35, 97] : List UInt8), AV.str ([38, 97] : List UInt8), AV.str ([42, 97] : List UInt8), AV.str ([33, 97] : List UInt8), AV.str ([124] : List UInt8), AV.str ([62] : List UInt8), AV.str ([39, 97, 39] : List UInt8), AV.str ([34, 97, 34] : List UInt8), AV.str ([37, 97] : List UInt8), AV.str ([64, 97] : List UInt8), AV.str ([96, 97] : List UInt8), AV.str ([91, 97] : List UInt8), AV.str ([123, 97] : List UInt8), AV.str ([93] : List UInt8), AV.str ([125] : List UInt8), AV.str ([44, 97] : List UInt8), AV.str ([45, 45, 45, 32, 97] : List UInt8), AV.str ([46, 46, 46] : List UInt8), AV.str ([97, 58, 32, 98] : List UInt8), AV.str ([97, 32, 35, 98] : List UInt8), AV.str ([32, 97] : List UInt8), AV.str ([97, 32] : List UInt8), AV.str ([97, 9, 98] : List UInt8), AV.str ([97, 58] : List UInt8), AV.str ([97, 10, 98] : List UInt8)] (([AV.str ([] : List UInt8), AV.str ([45, 32, 97] : List UInt8), AV.str ([63, 32, 97] : List UInt8), AV.str ([58, 32, 97] : List UInt8), AV.str ([45] : List UInt8), AV.str ([35, 97] : List UInt8), AV.str ([38, 97] : List UInt8), AV.str ([42, 97] : List UInt8), AV.str ([33, 97] : List UInt8), AV.str ([124] : List UInt8), AV.str ([62] : List UInt8), AV.str ([39, 97, 39] : List UInt8), AV.str ([34, 97, 34] : List UInt8), AV.str ([37, 97] : List UInt8), AV.str ([64, 97] : List UInt8), AV.str ([96, 97] : List UInt8), AV.str ([91, 97] : List UInt8), AV.str ([123, 97] : List UInt8), AV.str ([93] : List UInt8), AV.str ([125] : List UInt8), AV.str ([44, 97] : List UInt8), AV.str ([45, 45, 45, 32, 97] : List UInt8), AV.str ([46, 46, 46] : List UInt8), AV.str ([97, 58, 32, 98] : List UInt8), AV.str ([97, 32, 35, 98] : List UInt8), AV.str ([32, 97] : List UInt8), AV.str ([97, 32] : List UInt8), AV.str ([97, 9, 98] : List UInt8), AV.str ([97, 58] : List UInt8), AV.str ([97, 10, 98] : List UInt8)].length : Nat) : Int) 0)
                else
                  law04PlainParts_L1 R N
                    (fun b253 =>
                      some ⟨AV.bool b253, false, []⟩)
                    (fun b254 =>
                      (R id_plainValid [AV.str ([45, 97] : List UInt8), AV.bool b254]).bind fun r200 =>
                      asB r200.v fun b255 =>
                      bif b255 then
                        ((R id_plainValid [AV.str ([97, 58, 98] : List UInt8), AV.bool b254]).bind fun r201 =>
                        asB r201.v fun b256 =>
                        bif b256 then
                          ((R id_plainValid [AV.str ([97, 35, 98] : List UInt8), AV.bool b254]).bind fun r202 =>
                          asB r202.v fun b257 =>
                          bif b257 then
                            ((R id_plainValid [AV.str ([97, 44, 32, 98] : List UInt8), AV.bool false]).bind fun r203 =>
                            asB r203.v fun b258 =>
                            bif b258 then
                              ((R id_plainValid [AV.str ([97, 44, 32, 98] : List UInt8), AV.bool true]).bind fun r204 =>
                              asB r204.v fun b259 =>
                              bif !b259 then
                                ((R id_law04Wakes []).bind fun r205 =>
                                asB r205.v fun b260 =>
                                some ⟨AV.bool b260, false, []⟩)
                              else
                                some ⟨AV.bool false, false, []⟩)
                            else
                              some ⟨AV.bool false, false, []⟩)
                          else
                            some ⟨AV.bool false, false, []⟩)
                        else
                          some ⟨AV.bool false, false, []⟩)
                      else
                        some ⟨AV.bool false, false, []⟩)
                    N b1 [AV.str ([] : List UInt8), AV.str ([45, 32, 97] : List UInt8), AV.str ([63, 32, 97] : List UInt8), AV.str ([58, 32, 97] : List UInt8), AV.str ([45] : List UInt8), AV.str ([35, 97] : List UInt8), AV.str ([38, 97] : List UInt8), AV.str ([42, 97] : List UInt8), AV.str ([33, 97] : List UInt8), AV.str ([124] : List UInt8), AV.str ([62] : List UInt8), AV.str ([39, 97, 39] : List UInt8), AV.str ([34, 97, 34] : List UInt8), AV.str ([37, 97] : List UInt8), AV.str ([64, 97] : List UInt8), AV.str ([96, 97] : List UInt8), AV.str ([91, 97] : List UInt8), AV.str ([123, 97] : List UInt8), AV.str ([93] : List UInt8), AV.str ([125] : List UInt8), AV.str ([44, 97] : List UInt8), AV.str ([45, 45, 45, 32, 97] : List UInt8), AV.str ([46, 46, 46] : List UInt8), AV.str ([97, 58, 32, 98] : List UInt8), AV.str ([97, 32, 35, 98] : List UInt8), AV.str ([32, 97] : List UInt8), AV.str ([97, 32] : List UInt8), AV.str ([97, 9, 98] : List UInt8), AV.str ([97, 58] : List UInt8), AV.str ([97, 10, 98] : List UInt8)] (([AV.str ([] : List UInt8), AV.str ([45, 32, 97] : List UInt8), AV.str ([63, 32, 97] : List UInt8), AV.str ([58, 32, 97] : List UInt8), AV.str ([45] : List UInt8), AV.str ([35, 97] : List UInt8), AV.str ([38, 97] : List UInt8), AV.str ([42, 97] : List UInt8), AV.str ([33, 97] : List UInt8), AV.str ([124] : List UInt8), AV.str ([62] : List UInt8), AV.str ([39, 97, 39] : List UInt8), AV.str ([34, 97, 34] : List UInt8), AV.str ([37, 97] : List UInt8), AV.str ([64, 97] : List UInt8), AV.str ([96, 97] : List UInt8), AV.str ([91, 97] : List UInt8), AV.str ([123, 97] : List UInt8), AV.str ([93] : List UInt8), AV.str ([125] : List UInt8), AV.str ([44, 97] : List UInt8), AV.str ([45, 45, 45, 32, 97] : List UInt8), AV.str ([46, 46, 46] : List UInt8), AV.str ([97, 58, 32, 98] : List UInt8), AV.str ([97, 32, 35, 98] : List UInt8), AV.str ([32, 97] : List UInt8), AV.str ([97, 32] : List UInt8), AV.str ([97, 9, 98] : List UInt8), AV.str ([97, 58] : List UInt8), AV.str ([97, 10, 98] : List UInt8)].length : Nat) : Int) 0)
            else
              bif decide ((i1 : Int) > 0) then
                (need (decide (0 ≤ (IntKind.i64.wrap (i1 - 1) : Int))) <|
                (s2[Int.toNat (IntKind.i64.wrap (i1 - 1))]?).bind fun c12 =>
                bif ((c12.toNat : Int) : Int) == 32 then
                  (some ⟨AV.bool false, false, []⟩)
                else
                  need (decide (0 ≤ (i1 : Int)) && decide ((i1 : Int) ≤ ((s2.length : Nat) : Int))) <|
                  (R id_plainLength [AV.bytes ((s2.take (Int.toNat i1)).drop 0), AV.bool b1]).bind fun r206 =>
                  asI .i64 r206.v fun i9 =>
                  bif (i9 : Int) != i1 then
                    (some ⟨AV.bool false, false, []⟩)
                  else
                    (R id_plainValid [AV.str s2, AV.bool true]).bind fun r207 =>
                    asB r207.v fun b261 =>
                    bif b261 then
                      ((R id_plainValid [AV.str s2, AV.bool false]).bind fun r208 =>
                      asB r208.v fun b262 =>
                      bif !b262 then
                        (some ⟨AV.bool false, false, []⟩)
                      else
                        law04PlainParts_L1 R N
                          (fun b263 =>
                            some ⟨AV.bool b263, false, []⟩)
                          (fun b264 =>
                            (R id_plainValid [AV.str ([45, 97] : List UInt8), AV.bool b264]).bind fun r209 =>
                            asB r209.v fun b265 =>
                            bif b265 then
                              ((R id_plainValid [AV.str ([97, 58, 98] : List UInt8), AV.bool b264]).bind fun r210 =>
                              asB r210.v fun b266 =>
                              bif b266 then
                                ((R id_plainValid [AV.str ([97, 35, 98] : List UInt8), AV.bool b264]).bind fun r211 =>
                                asB r211.v fun b267 =>
                                bif b267 then
                                  ((R id_plainValid [AV.str ([97, 44, 32, 98] : List UInt8), AV.bool false]).bind fun r212 =>
                                  asB r212.v fun b268 =>
                                  bif b268 then
                                    ((R id_plainValid [AV.str ([97, 44, 32, 98] : List UInt8), AV.bool true]).bind fun r213 =>
                                    asB r213.v fun b269 =>
                                    bif !b269 then
                                      ((R id_law04Wakes []).bind fun r214 =>
                                      asB r214.v fun b270 =>
                                      some ⟨AV.bool b270, false, []⟩)
                                    else
                                      some ⟨AV.bool false, false, []⟩)
                                  else
                                    some ⟨AV.bool false, false, []⟩)
                                else
                                  some ⟨AV.bool false, false, []⟩)
                              else
                                some ⟨AV.bool false, false, []⟩)
                            else
                              some ⟨AV.bool false, false, []⟩)
                          N b1 [AV.str ([] : List UInt8), AV.str ([45, 32, 97] : List UInt8), AV.str ([63, 32, 97] : List UInt8), AV.str ([58, 32, 97] : List UInt8), AV.str ([45] : List UInt8), AV.str ([35, 97] : List UInt8), AV.str ([38, 97] : List UInt8), AV.str ([42, 97] : List UInt8), AV.str ([33, 97] : List UInt8), AV.str ([124] : List UInt8), AV.str ([62] : List UInt8), AV.str ([39, 97, 39] : List UInt8), AV.str ([34, 97, 34] : List UInt8), AV.str ([37, 97] : List UInt8), AV.str ([64, 97] : List UInt8), AV.str ([96, 97] : List UInt8), AV.str ([91, 97] : List UInt8), AV.str ([123, 97] : List UInt8), AV.str ([93] : List UInt8), AV.str ([125] : List UInt8), AV.str ([44, 97] : List UInt8), AV.str ([45, 45, 45, 32, 97] : List UInt8), AV.str ([46, 46, 46] : List UInt8), AV.str ([97, 58, 32, 98] : List UInt8), AV.str ([97, 32, 35, 98] : List UInt8), AV.str ([32, 97] : List UInt8), AV.str ([97, 32] : List UInt8), AV.str ([97, 9, 98] : List UInt8), AV.str ([97, 58] : List UInt8), AV.str ([97, 10, 98] : List UInt8)] (([AV.str ([] : List UInt8), AV.str ([45, 32, 97] : List UInt8), AV.str ([63, 32, 97] : List UInt8), AV.str ([58, 32, 97] : List UInt8), AV.str ([45] : List UInt8), AV.str ([35, 97] : List UInt8), AV.str ([38, 97] : List UInt8), AV.str ([42, 97] : List UInt8), AV.str ([33, 97] : List UInt8), AV.str ([124] : List UInt8), AV.str ([62] : List UInt8), AV.str ([39, 97, 39] : List UInt8), AV.str ([34, 97, 34] : List UInt8), AV.str ([37, 97] : List UInt8), AV.str ([64, 97] : List UInt8), AV.str ([96, 97] : List UInt8), AV.str ([91, 97] : List UInt8), AV.str ([123, 97] : List UInt8), AV.str ([93] : List UInt8), AV.str ([125] : List UInt8), AV.str ([44, 97] : List UInt8), AV.str ([45, 45, 45, 32, 97] : List UInt8), AV.str ([46, 46, 46] : List UInt8), AV.str ([97, 58, 32, 98] : List UInt8), AV.str ([97, 32, 35, 98] : List UInt8), AV.str ([32, 97] : List UInt8), AV.str ([97, 32] : List UInt8), AV.str ([97, 9, 98] : List UInt8), AV.str ([97, 58] : List UInt8), AV.str ([97, 10, 98] : List UInt8)].length : Nat) : Int) 0)
                    else
                      law04PlainParts_L1 R N
                        (fun b271 =>
                          some ⟨AV.bool b271, false, []⟩)
                        (fun b272 =>
                          (R id_plainValid [AV.str ([45, 97] : List UInt8), AV.bool b272]).bind fun r215 =>
                          asB r215.v fun b273 =>
                          bif b273 then
                            ((R id_plainValid [AV.str ([97, 58, 98] : List UInt8), AV.bool b272]).bind fun r216 =>
                            asB r216.v fun b274 =>
                            bif b274 then
                              ((R id_plainValid [AV.str ([97, 35, 98] : List UInt8), AV.bool b272]).bind fun r217 =>
                              asB r217.v fun b275 =>
                              bif b275 then
                                ((R id_plainValid [AV.str ([97, 44, 32, 98] : List UInt8), AV.bool false]).bind fun r218 =>
                                asB r218.v fun b276 =>
                                bif b276 then
                                  ((R id_plainValid [AV.str ([97, 44, 32, 98] : List UInt8), AV.bool true]).bind fun r219 =>
                                  asB r219.v fun b277 =>
                                  bif !b277 then
                                    ((R id_law04Wakes []).bind fun r220 =>
                                    asB r220.v fun b278 =>
                                    some ⟨AV.bool b278, false, []⟩)
                                  else
                                    some ⟨AV.bool false, false, []⟩)
                                else
                                  some ⟨AV.bool false, false, []⟩)
                              else
                                some ⟨AV.bool false, false, []⟩)
                            else
                              some ⟨AV.bool false, false, []⟩)
                          else
                            some ⟨AV.bool false, false, []⟩)
                        N b1 [AV.str ([] : List UInt8), AV.str ([45, 32, 97] : List UInt8), AV.str ([63, 32, 97] : List UInt8), AV.str ([58, 32, 97] : List UInt8), AV.str ([45] : List UInt8), AV.str ([35, 97] : List UInt8), AV.str ([38, 97] : List UInt8), AV.str ([42, 97] : List UInt8), AV.str ([33, 97] : List UInt8), AV.str ([124] : List UInt8), AV.str ([62] : List UInt8), AV.str ([39, 97, 39] : List UInt8), AV.str ([34, 97, 34] : List UInt8), AV.str ([37, 97] : List UInt8), AV.str ([64, 97] : List UInt8), AV.str ([96, 97] : List UInt8), AV.str ([91, 97] : List UInt8), AV.str ([123, 97] : List UInt8), AV.str ([93] : List UInt8), AV.str ([125] : List UInt8), AV.str ([44, 97] : List UInt8), AV.str ([45, 45, 45, 32, 97] : List UInt8), AV.str ([46, 46, 46] : List UInt8), AV.str ([97, 58, 32, 98] : List UInt8), AV.str ([97, 32, 35, 98] : List UInt8), AV.str ([32, 97] : List UInt8), AV.str ([97, 32] : List UInt8), AV.str ([97, 9, 98] : List UInt8), AV.str ([97, 58] : List UInt8), AV.str ([97, 10, 98] : List UInt8)] (([AV.str ([] : List UInt8), AV.str ([45, 32, 97] : List UInt8), AV.str ([63, 32, 97] : List UInt8), AV.str ([58, 32, 97] : List UInt8), AV.str ([45] : List UInt8), AV.str ([35, 97] : List UInt8), AV.str ([38, 97] : List UInt8), AV.str ([42, 97] : List UInt8), AV.str ([33, 97] : List UInt8), AV.str ([124] : List UInt8), AV.str ([62] : List UInt8), AV.str ([39, 97, 39] : List UInt8), AV.str ([34, 97, 34] : List UInt8), AV.str ([37, 97] : List UInt8), AV.str ([64, 97] : List UInt8), AV.str ([96, 97] : List UInt8), AV.str ([91, 97] : List UInt8), AV.str ([123, 97] : List UInt8), AV.str ([93] : List UInt8), AV.str ([125] : List UInt8), AV.str ([44, 97] : List UInt8), AV.str ([45, 45, 45, 32, 97] : List UInt8), AV.str ([46, 46, 46] : List UInt8), AV.str ([97, 58, 32, 98] : List UInt8), AV.str ([97, 32, 35, 98] : List UInt8), AV.str ([32, 97] : List UInt8), AV.str ([97, 32] : List UInt8), AV.str ([97, 9, 98] : List UInt8), AV.str ([97, 58] : List UInt8), AV.str ([97, 10, 98] : List UInt8)].length : Nat) : Int) 0)
              else
                (R id_plainValid [AV.str s2, AV.bool true]).bind fun r221 =>
                asB r221.v fun b279 =>
                bif b279 then
                  ((R id_plainValid [AV.str s2, AV.bool false]).bind fun r222 =>
                  asB r222.v fun b280 =>
                  bif !b280 then
                    (some ⟨AV.bool false, false, []⟩)
                  else
                    law04PlainParts_L1 R N
                      (fun b281 =>
                        some ⟨AV.bool b281, false, []⟩)
                      (fun b282 =>
                        (R id_plainValid [AV.str ([45, 97] : List UInt8), AV.bool b282]).bind fun r223 =>
                        asB r223.v fun b283 =>
                        bif b283 then
                          ((R id_plainValid [AV.str ([97, 58, 98] : List UInt8), AV.bool b282]).bind fun r224 =>
                          asB r224.v fun b284 =>
                          bif b284 then
                            ((R id_plainValid [AV.str ([97, 35, 98] : List UInt8), AV.bool b282]).bind fun r225 =>
                            asB r225.v fun b285 =>
                            bif b285 then
                              ((R id_plainValid [AV.str ([97, 44, 32, 98] : List UInt8), AV.bool false]).bind fun r226 =>
                              asB r226.v fun b286 =>
                              bif b286 then
                                ((R id_plainValid [AV.str ([97, 44, 32, 98] : List UInt8), AV.bool true]).bind fun r227 =>
                                asB r227.v fun b287 =>
                                bif !b287 then
                                  ((R id_law04Wakes []).bind fun r228 =>
                                  asB r228.v fun b288 =>
                                  some ⟨AV.bool b288, false, []⟩)
                                else
                                  some ⟨AV.bool false, false, []⟩)
                              else
                                some ⟨AV.bool false, false, []⟩)
                            else
                              some ⟨AV.bool false, false, []⟩)
                          else
                            some ⟨AV.bool false, false, []⟩)
                        else
                          some ⟨AV.bool false, false, []⟩)
                      N b1 [AV.str ([] : List UInt8), AV.str ([45, 32, 97] : List UInt8), AV.str ([63, 32, 97] : List UInt8), AV.str ([58, 32, 97] : List UInt8), AV.str ([45] : List UInt8), AV.str ([35, 97] : List UInt8), AV.str ([38, 97] : List UInt8), AV.str ([42, 97] : List UInt8), AV.str ([33, 97] : List UInt8), AV.str ([124] : List UInt8), AV.str ([62] : List UInt8), AV.str ([39, 97, 39] : List UInt8), AV.str ([34, 97, 34] : List UInt8), AV.str ([37, 97] : List UInt8), AV.str ([64, 97] : List UInt8), AV.str ([96, 97] : List UInt8), AV.str ([91, 97] : List UInt8), AV.str ([123, 97] : List UInt8), AV.str ([93] : List UInt8), AV.str ([125] : List UInt8), AV.str ([44, 97] : List UInt8), AV.str ([45, 45, 45, 32, 97] : List UInt8), AV.str ([46, 46, 46] : List UInt8), AV.str ([97, 58, 32, 98] : List UInt8), AV.str ([97, 32, 35, 98] : List UInt8), AV.str ([32, 97] : List UInt8), AV.str ([97, 32] : List UInt8), AV.str ([97, 9, 98] : List UInt8), AV.str ([97, 58] : List UInt8), AV.str ([97, 10, 98] : List UInt8)] (([AV.str ([] : List UInt8), AV.str ([45, 32, 97] : List UInt8), AV.str ([63, 32, 97] : List UInt8), AV.str ([58, 32, 97] : List UInt8), AV.str ([45] : List UInt8), AV.str ([35, 97] : List UInt8), AV.str ([38, 97] : List UInt8), AV.str ([42, 97] : List UInt8), AV.str ([33, 97] : List UInt8), AV.str ([124] : List UInt8), AV.str ([62] : List UInt8), AV.str ([39, 97, 39] : List UInt8), AV.str ([34, 97, 34] : List UInt8), AV.str ([37, 97] : List UInt8), AV.str ([64, 97] : List UInt8), AV.str ([96, 97] : List UInt8), AV.str ([91, 97] : List UInt8), AV.str ([123, 97] : List UInt8), AV.str ([93] : List UInt8), AV.str ([125] : List UInt8), AV.str ([44, 97] : List UInt8), AV.str ([45, 45, 45, 32, 97] : List UInt8), AV.str ([46, 46, 46] : List UInt8), AV.str ([97, 58, 32, 98] : List UInt8), AV.str ([97, 32, 35, 98] : List UInt8), AV.str ([32, 97] : List UInt8), AV.str ([97, 32] : List UInt8), AV.str ([97, 9, 98] : List UInt8), AV.str ([97, 58] : List UInt8), AV.str ([97, 10, 98] : List UInt8)].length : Nat) : Int) 0)
                else
                  law04PlainParts_L1 R N
                    (fun b289 =>
                      some ⟨AV.bool b289, false, []⟩)
                    (fun b290 =>
                      (R id_plainValid [AV.str ([45, 97] : List UInt8), AV.bool b290]).bind fun r229 =>
                      asB r229.v fun b291 =>
                      bif b291 then
                        ((R id_plainValid [AV.str ([97, 58, 98] : List UInt8), AV.bool b290]).bind fun r230 =>
                        asB r230.v fun b292 =>
                        bif b292 then
                          ((R id_plainValid [AV.str ([97, 35, 98] : List UInt8), AV.bool b290]).bind fun r231 =>
                          asB r231.v fun b293 =>
                          bif b293 then
                            ((R id_plainValid [AV.str ([97, 44, 32, 98] : List UInt8), AV.bool false]).bind fun r232 =>
                            asB r232.v fun b294 =>
                            bif b294 then
                              ((R id_plainValid [AV.str ([97, 44, 32, 98] : List UInt8), AV.bool true]).bind fun r233 =>
                              asB r233.v fun b295 =>
                              bif !b295 then
                                ((R id_law04Wakes []).bind fun r234 =>
                                asB r234.v fun b296 =>
                                some ⟨AV.bool b296, false, []⟩)
                              else
                                some ⟨AV.bool false, false, []⟩)
                            else
                              some ⟨AV.bool false, false, []⟩)
                          else
                            some ⟨AV.bool false, false, []⟩)
                        else
                          some ⟨AV.bool false, false, []⟩)
                      else
                        some ⟨AV.bool false, false, []⟩)
                    N b1 [AV.str ([] : List UInt8), AV.str ([45, 32, 97] : List UInt8), AV.str ([63, 32, 97] : List UInt8), AV.str ([58, 32, 97] : List UInt8), AV.str ([45] : List UInt8), AV.str ([35, 97] : List UInt8), AV.str ([38, 97] : List UInt8), AV.str ([42, 97] : List UInt8), AV.str ([33, 97] : List UInt8), AV.str ([124] : List UInt8), AV.str ([62] : List UInt8), AV.str ([39, 97, 39] : List UInt8), AV.str ([34, 97, 34] : List UInt8), AV.str ([37, 97] : List UInt8), AV.str ([64, 97] : List UInt8), AV.str ([96, 97] : List UInt8), AV.str ([91, 97] : List UInt8), AV.str ([123, 97] : List UInt8), AV.str ([93] : List UInt8), AV.str ([125] : List UInt8), AV.str ([44, 97] : List UInt8), AV.str ([45, 45, 45, 32, 97] : List UInt8), AV.str ([46, 46, 46] : List UInt8), AV.str ([97, 58, 32, 98] : List UInt8), AV.str ([97, 32, 35, 98] : List UInt8), AV.str ([32, 97] : List UInt8), AV.str ([97, 32] : List UInt8), AV.str ([97, 9, 98] : List UInt8), AV.str ([97, 58] : List UInt8), AV.str ([97, 10, 98] : List UInt8)] (([AV.str ([] : List UInt8), AV.str ([45, 32, 97] : List UInt8), AV.str ([63, 32, 97] : List UInt8), AV.str ([58, 32, 97] : List UInt8), AV.str ([45] : List UInt8), AV.str ([35, 97] : List UInt8), AV.str ([38, 97] : List UInt8), AV.str ([42, 97] : List UInt8), AV.str ([33, 97] : List UInt8), AV.str ([124] : List UInt8), AV.str ([62] : List UInt8), AV.str ([39, 97, 39] : List UInt8), AV.str ([34, 97, 34] : List UInt8), AV.str ([37, 97] : List UInt8), AV.str ([64, 97] : List UInt8), AV.str ([96, 97] : List UInt8), AV.str ([91, 97] : List UInt8), AV.str ([123, 97] : List UInt8), AV.str ([93] : List UInt8), AV.str ([125] : List UInt8), AV.str ([44, 97] : List UInt8), AV.str ([45, 45, 45, 32, 97] : List UInt8), AV.str ([46, 46, 46] : List UInt8), AV.str ([97, 58, 32, 98] : List UInt8), AV.str ([97, 32, 35, 98] : List UInt8), AV.str ([32, 97] : List UInt8), AV.str ([97, 32] : List UInt8), AV.str ([97, 9, 98] : List UInt8), AV.str ([97, 58] : List UInt8), AV.str ([97, 10, 98] : List UInt8)].length : Nat) : Int) 0
theorem law04PlainParts_eq (R : Nat → List AV → Option Res) (N : Nat) (s1 : List UInt8) (b1 : Bool) : runF gl R N law04PlainParts [AV.str s1, AV.bool b1] = law04PlainPartsr R N s1 b1 := by
  refine Eq.trans (b :=
      (R id_keepText [AV.str s1, AV.int .i64 80]).bind fun r1 =>
      asS r1.v fun s2 =>
      (R id_plainLength [AV.bytes s2, AV.bool b1]).bind fun r2 =>
      asI .i64 r2.v fun i1 =>
      bif decide ((i1 : Int) < 0) then
        (some ⟨AV.bool false, false, []⟩)
      else
        bif decide ((i1 : Int) > ((s2.length : Nat) : Int)) then
          (some ⟨AV.bool false, false, []⟩)
        else
          (R id_plainStarts [AV.bytes s2, AV.bool b1]).bind fun r3 =>
          asB r3.v fun b2 =>
          bif !((decide ((i1 : Int) > 0)) == b2) then
            (some ⟨AV.bool false, false, []⟩)
          else
            (R id_plainLength [AV.bytes s2, AV.bool true]).bind fun r4 =>
            asI .i64 r4.v fun i2 =>
            (R id_plainLength [AV.bytes s2, AV.bool false]).bind fun r5 =>
            asI .i64 r5.v fun i3 =>
            bif decide ((i2 : Int) > i3) then
              (some ⟨AV.bool false, false, []⟩)
            else
              bif (i1 : Int) == 1 then
                (need (decide (0 ≤ (0 : Int))) <|
                (s2[Int.toNat 0]?).bind fun c1 =>
                bif ((c1.toNat : Int) : Int) == 45 then
                  (bif decide ((i1 : Int) > 0) then
                    (need (decide (0 ≤ (IntKind.i64.wrap (i1 - 1) : Int))) <|
                    (s2[Int.toNat (IntKind.i64.wrap (i1 - 1))]?).bind fun c2 =>
                    bif ((c2.toNat : Int) : Int) == 32 then
                      (some ⟨AV.bool false, false, []⟩)
                    else
                      (R id_plainValid [AV.str s2, AV.bool true]).bind fun r6 =>
                      asB r6.v fun b3 =>
                      bif b3 then
                        ((R id_plainValid [AV.str s2, AV.bool false]).bind fun r7 =>
                        asB r7.v fun b4 =>
                        bif !b4 then
                          (some ⟨AV.bool false, false, []⟩)
                        else
                          rounds [1, 102, 103, 104] [] (evC gl R N law04PlainParts_c0) (Kblock 0 (Kthen gl R N law04PlainParts_c1 (Kret law04PlainParts.rets []))) N ⟨[(1, .imm (AV.bool b1)), (102, .imm (AV.row 1 [AV.str ([] : List UInt8), AV.str ([45, 32, 97] : List UInt8), AV.str ([63, 32, 97] : List UInt8), AV.str ([58, 32, 97] : List UInt8), AV.str ([45] : List UInt8), AV.str ([35, 97] : List UInt8), AV.str ([38, 97] : List UInt8), AV.str ([42, 97] : List UInt8), AV.str ([33, 97] : List UInt8), AV.str ([124] : List UInt8), AV.str ([62] : List UInt8), AV.str ([39, 97, 39] : List UInt8), AV.str ([34, 97, 34] : List UInt8), AV.str ([37, 97] : List UInt8), AV.str ([64, 97] : List UInt8), AV.str ([96, 97] : List UInt8), AV.str ([91, 97] : List UInt8), AV.str ([123, 97] : List UInt8), AV.str ([93] : List UInt8), AV.str ([125] : List UInt8), AV.str ([44, 97] : List UInt8), AV.str ([45, 45, 45, 32, 97] : List UInt8), AV.str ([46, 46, 46] : List UInt8), AV.str ([97, 58, 32, 98] : List UInt8), AV.str ([97, 32, 35, 98] : List UInt8), AV.str ([32, 97] : List UInt8), AV.str ([97, 32] : List UInt8), AV.str ([97, 9, 98] : List UInt8), AV.str ([97, 58] : List UInt8), AV.str ([97, 10, 98] : List UInt8)])), (103, .imm (AV.int .i64 (([AV.str ([] : List UInt8), AV.str ([45, 32, 97] : List UInt8), AV.str ([63, 32, 97] : List UInt8), AV.str ([58, 32, 97] : List UInt8), AV.str ([45] : List UInt8), AV.str ([35, 97] : List UInt8), AV.str ([38, 97] : List UInt8), AV.str ([42, 97] : List UInt8), AV.str ([33, 97] : List UInt8), AV.str ([124] : List UInt8), AV.str ([62] : List UInt8), AV.str ([39, 97, 39] : List UInt8), AV.str ([34, 97, 34] : List UInt8), AV.str ([37, 97] : List UInt8), AV.str ([64, 97] : List UInt8), AV.str ([96, 97] : List UInt8), AV.str ([91, 97] : List UInt8), AV.str ([123, 97] : List UInt8), AV.str ([93] : List UInt8), AV.str ([125] : List UInt8), AV.str ([44, 97] : List UInt8), AV.str ([45, 45, 45, 32, 97] : List UInt8), AV.str ([46, 46, 46] : List UInt8), AV.str ([97, 58, 32, 98] : List UInt8), AV.str ([97, 32, 35, 98] : List UInt8), AV.str ([32, 97] : List UInt8), AV.str ([97, 32] : List UInt8), AV.str ([97, 9, 98] : List UInt8), AV.str ([97, 58] : List UInt8), AV.str ([97, 10, 98] : List UInt8)].length : Nat) : Int))), (104, .imm (AV.int .i64 0))], []⟩)
                      else
                        rounds [1, 102, 103, 104] [] (evC gl R N law04PlainParts_c0) (Kblock 0 (Kthen gl R N law04PlainParts_c1 (Kret law04PlainParts.rets []))) N ⟨[(1, .imm (AV.bool b1)), (102, .imm (AV.row 1 [AV.str ([] : List UInt8), AV.str ([45, 32, 97] : List UInt8), AV.str ([63, 32, 97] : List UInt8), AV.str ([58, 32, 97] : List UInt8), AV.str ([45] : List UInt8), AV.str ([35, 97] : List UInt8), AV.str ([38, 97] : List UInt8), AV.str ([42, 97] : List UInt8), AV.str ([33, 97] : List UInt8), AV.str ([124] : List UInt8), AV.str ([62] : List UInt8), AV.str ([39, 97, 39] : List UInt8), AV.str ([34, 97, 34] : List UInt8), AV.str ([37, 97] : List UInt8), AV.str ([64, 97] : List UInt8), AV.str ([96, 97] : List UInt8), AV.str ([91, 97] : List UInt8), AV.str ([123, 97] : List UInt8), AV.str ([93] : List UInt8), AV.str ([125] : List UInt8), AV.str ([44, 97] : List UInt8), AV.str ([45, 45, 45, 32, 97] : List UInt8), AV.str ([46, 46, 46] : List UInt8), AV.str ([97, 58, 32, 98] : List UInt8), AV.str ([97, 32, 35, 98] : List UInt8), AV.str ([32, 97] : List UInt8), AV.str ([97, 32] : List UInt8), AV.str ([97, 9, 98] : List UInt8), AV.str ([97, 58] : List UInt8), AV.str ([97, 10, 98] : List UInt8)])), (103, .imm (AV.int .i64 (([AV.str ([] : List UInt8), AV.str ([45, 32, 97] : List UInt8), AV.str ([63, 32, 97] : List UInt8), AV.str ([58, 32, 97] : List UInt8), AV.str ([45] : List UInt8), AV.str ([35, 97] : List UInt8), AV.str ([38, 97] : List UInt8), AV.str ([42, 97] : List UInt8), AV.str ([33, 97] : List UInt8), AV.str ([124] : List UInt8), AV.str ([62] : List UInt8), AV.str ([39, 97, 39] : List UInt8), AV.str ([34, 97, 34] : List UInt8), AV.str ([37, 97] : List UInt8), AV.str ([64, 97] : List UInt8), AV.str ([96, 97] : List UInt8), AV.str ([91, 97] : List UInt8), AV.str ([123, 97] : List UInt8), AV.str ([93] : List UInt8), AV.str ([125] : List UInt8), AV.str ([44, 97] : List UInt8), AV.str ([45, 45, 45, 32, 97] : List UInt8), AV.str ([46, 46, 46] : List UInt8), AV.str ([97, 58, 32, 98] : List UInt8), AV.str ([97, 32, 35, 98] : List UInt8), AV.str ([32, 97] : List UInt8), AV.str ([97, 32] : List UInt8), AV.str ([97, 9, 98] : List UInt8), AV.str ([97, 58] : List UInt8), AV.str ([97, 10, 98] : List UInt8)].length : Nat) : Int))), (104, .imm (AV.int .i64 0))], []⟩)
                  else
                    (R id_plainValid [AV.str s2, AV.bool true]).bind fun r21 =>
                    asB r21.v fun b27 =>
                    bif b27 then
                      ((R id_plainValid [AV.str s2, AV.bool false]).bind fun r22 =>
                      asB r22.v fun b28 =>
                      bif !b28 then
                        (some ⟨AV.bool false, false, []⟩)
                      else
                        rounds [1, 102, 103, 104] [] (evC gl R N law04PlainParts_c0) (Kblock 0 (Kthen gl R N law04PlainParts_c1 (Kret law04PlainParts.rets []))) N ⟨[(1, .imm (AV.bool b1)), (102, .imm (AV.row 1 [AV.str ([] : List UInt8), AV.str ([45, 32, 97] : List UInt8), AV.str ([63, 32, 97] : List UInt8), AV.str ([58, 32, 97] : List UInt8), AV.str ([45] : List UInt8), AV.str ([35, 97] : List UInt8), AV.str ([38, 97] : List UInt8), AV.str ([42, 97] : List UInt8), AV.str ([33, 97] : List UInt8), AV.str ([124] : List UInt8), AV.str ([62] : List UInt8), AV.str ([39, 97, 39] : List UInt8), AV.str ([34, 97, 34] : List UInt8), AV.str ([37, 97] : List UInt8), AV.str ([64, 97] : List UInt8), AV.str ([96, 97] : List UInt8), AV.str ([91, 97] : List UInt8), AV.str ([123, 97] : List UInt8), AV.str ([93] : List UInt8), AV.str ([125] : List UInt8), AV.str ([44, 97] : List UInt8), AV.str ([45, 45, 45, 32, 97] : List UInt8), AV.str ([46, 46, 46] : List UInt8), AV.str ([97, 58, 32, 98] : List UInt8), AV.str ([97, 32, 35, 98] : List UInt8), AV.str ([32, 97] : List UInt8), AV.str ([97, 32] : List UInt8), AV.str ([97, 9, 98] : List UInt8), AV.str ([97, 58] : List UInt8), AV.str ([97, 10, 98] : List UInt8)])), (103, .imm (AV.int .i64 (([AV.str ([] : List UInt8), AV.str ([45, 32, 97] : List UInt8), AV.str ([63, 32, 97] : List UInt8), AV.str ([58, 32, 97] : List UInt8), AV.str ([45] : List UInt8), AV.str ([35, 97] : List UInt8), AV.str ([38, 97] : List UInt8), AV.str ([42, 97] : List UInt8), AV.str ([33, 97] : List UInt8), AV.str ([124] : List UInt8), AV.str ([62] : List UInt8), AV.str ([39, 97, 39] : List UInt8), AV.str ([34, 97, 34] : List UInt8), AV.str ([37, 97] : List UInt8), AV.str ([64, 97] : List UInt8), AV.str ([96, 97] : List UInt8), AV.str ([91, 97] : List UInt8), AV.str ([123, 97] : List UInt8), AV.str ([93] : List UInt8), AV.str ([125] : List UInt8), AV.str ([44, 97] : List UInt8), AV.str ([45, 45, 45, 32, 97] : List UInt8), AV.str ([46, 46, 46] : List UInt8), AV.str ([97, 58, 32, 98] : List UInt8), AV.str ([97, 32, 35, 98] : List UInt8), AV.str ([32, 97] : List UInt8), AV.str ([97, 32] : List UInt8), AV.str ([97, 9, 98] : List UInt8), AV.str ([97, 58] : List UInt8), AV.str ([97, 10, 98] : List UInt8)].length : Nat) : Int))), (104, .imm (AV.int .i64 0))], []⟩)
                    else
                      rounds [1, 102, 103, 104] [] (evC gl R N law04PlainParts_c0) (Kblock 0 (Kthen gl R N law04PlainParts_c1 (Kret law04PlainParts.rets []))) N ⟨[(1, .imm (AV.bool b1)), (102, .imm (AV.row 1 [AV.str ([] : List UInt8), AV.str ([45, 32, 97] : List UInt8), AV.str ([63, 32, 97] : List UInt8), AV.str ([58, 32, 97] : List UInt8), AV.str ([45] : List UInt8), AV.str ([35, 97] : List UInt8), AV.str ([38, 97] : List UInt8), AV.str ([42, 97] : List UInt8), AV.str ([33, 97] : List UInt8), AV.str ([124] : List UInt8), AV.str ([62] : List UInt8), AV.str ([39, 97, 39] : List UInt8), AV.str ([34, 97, 34] : List UInt8), AV.str ([37, 97] : List UInt8), AV.str ([64, 97] : List UInt8), AV.str ([96, 97] : List UInt8), AV.str ([91, 97] : List UInt8), AV.str ([123, 97] : List UInt8), AV.str ([93] : List UInt8), AV.str ([125] : List UInt8), AV.str ([44, 97] : List UInt8), AV.str ([45, 45, 45, 32, 97] : List UInt8), AV.str ([46, 46, 46] : List UInt8), AV.str ([97, 58, 32, 98] : List UInt8), AV.str ([97, 32, 35, 98] : List UInt8), AV.str ([32, 97] : List UInt8), AV.str ([97, 32] : List UInt8), AV.str ([97, 9, 98] : List UInt8), AV.str ([97, 58] : List UInt8), AV.str ([97, 10, 98] : List UInt8)])), (103, .imm (AV.int .i64 (([AV.str ([] : List UInt8), AV.str ([45, 32, 97] : List UInt8), AV.str ([63, 32, 97] : List UInt8), AV.str ([58, 32, 97] : List UInt8), AV.str ([45] : List UInt8), AV.str ([35, 97] : List UInt8), AV.str ([38, 97] : List UInt8), AV.str ([42, 97] : List UInt8), AV.str ([33, 97] : List UInt8), AV.str ([124] : List UInt8), AV.str ([62] : List UInt8), AV.str ([39, 97, 39] : List UInt8), AV.str ([34, 97, 34] : List UInt8), AV.str ([37, 97] : List UInt8), AV.str ([64, 97] : List UInt8), AV.str ([96, 97] : List UInt8), AV.str ([91, 97] : List UInt8), AV.str ([123, 97] : List UInt8), AV.str ([93] : List UInt8), AV.str ([125] : List UInt8), AV.str ([44, 97] : List UInt8), AV.str ([45, 45, 45, 32, 97] : List UInt8), AV.str ([46, 46, 46] : List UInt8), AV.str ([97, 58, 32, 98] : List UInt8), AV.str ([97, 32, 35, 98] : List UInt8), AV.str ([32, 97] : List UInt8), AV.str ([97, 32] : List UInt8), AV.str ([97, 9, 98] : List UInt8), AV.str ([97, 58] : List UInt8), AV.str ([97, 10, 98] : List UInt8)].length : Nat) : Int))), (104, .imm (AV.int .i64 0))], []⟩)
                else
                  need (decide (0 ≤ (0 : Int))) <|
                  (s2[Int.toNat 0]?).bind fun c3 =>
                  bif ((c3.toNat : Int) : Int) == 63 then
                    (bif decide ((i1 : Int) > 0) then
                      (need (decide (0 ≤ (IntKind.i64.wrap (i1 - 1) : Int))) <|
                      (s2[Int.toNat (IntKind.i64.wrap (i1 - 1))]?).bind fun c4 =>
                      bif ((c4.toNat : Int) : Int) == 32 then
                        (some ⟨AV.bool false, false, []⟩)
                      else
                        (R id_plainValid [AV.str s2, AV.bool true]).bind fun r35 =>
                        asB r35.v fun b45 =>
                        bif b45 then
                          ((R id_plainValid [AV.str s2, AV.bool false]).bind fun r36 =>
                          asB r36.v fun b46 =>
                          bif !b46 then
                            (some ⟨AV.bool false, false, []⟩)
                          else
                            rounds [1, 102, 103, 104] [] (evC gl R N law04PlainParts_c0) (Kblock 0 (Kthen gl R N law04PlainParts_c1 (Kret law04PlainParts.rets []))) N ⟨[(1, .imm (AV.bool b1)), (102, .imm (AV.row 1 [AV.str ([] : List UInt8), AV.str ([45, 32, 97] : List UInt8), AV.str ([63, 32, 97] : List UInt8), AV.str ([58, 32, 97] : List UInt8), AV.str ([45] : List UInt8), AV.str ([35, 97] : List UInt8), AV.str ([38, 97] : List UInt8), AV.str ([42, 97] : List UInt8), AV.str ([33, 97] : List UInt8), AV.str ([124] : List UInt8), AV.str ([62] : List UInt8), AV.str ([39, 97, 39] : List UInt8), AV.str ([34, 97, 34] : List UInt8), AV.str ([37, 97] : List UInt8), AV.str ([64, 97] : List UInt8), AV.str ([96, 97] : List UInt8), AV.str ([91, 97] : List UInt8), AV.str ([123, 97] : List UInt8), AV.str ([93] : List UInt8), AV.str ([125] : List UInt8), AV.str ([44, 97] : List UInt8), AV.str ([45, 45, 45, 32, 97] : List UInt8), AV.str ([46, 46, 46] : List UInt8), AV.str ([97, 58, 32, 98] : List UInt8), AV.str ([97, 32, 35, 98] : List UInt8), AV.str ([32, 97] : List UInt8), AV.str ([97, 32] : List UInt8), AV.str ([97, 9, 98] : List UInt8), AV.str ([97, 58] : List UInt8), AV.str ([97, 10, 98] : List UInt8)])), (103, .imm (AV.int .i64 (([AV.str ([] : List UInt8), AV.str ([45, 32, 97] : List UInt8), AV.str ([63, 32, 97] : List UInt8), AV.str ([58, 32, 97] : List UInt8), AV.str ([45] : List UInt8), AV.str ([35, 97] : List UInt8), AV.str ([38, 97] : List UInt8), AV.str ([42, 97] : List UInt8), AV.str ([33, 97] : List UInt8), AV.str ([124] : List UInt8), AV.str ([62] : List UInt8), AV.str ([39, 97, 39] : List UInt8), AV.str ([34, 97, 34] : List UInt8), AV.str ([37, 97] : List UInt8), AV.str ([64, 97] : List UInt8), AV.str ([96, 97] : List UInt8), AV.str ([91, 97] : List UInt8), AV.str ([123, 97] : List UInt8), AV.str ([93] : List UInt8), AV.str ([125] : List UInt8), AV.str ([44, 97] : List UInt8), AV.str ([45, 45, 45, 32, 97] : List UInt8), AV.str ([46, 46, 46] : List UInt8), AV.str ([97, 58, 32, 98] : List UInt8), AV.str ([97, 32, 35, 98] : List UInt8), AV.str ([32, 97] : List UInt8), AV.str ([97, 32] : List UInt8), AV.str ([97, 9, 98] : List UInt8), AV.str ([97, 58] : List UInt8), AV.str ([97, 10, 98] : List UInt8)].length : Nat) : Int))), (104, .imm (AV.int .i64 0))], []⟩)
                        else
                          rounds [1, 102, 103, 104] [] (evC gl R N law04PlainParts_c0) (Kblock 0 (Kthen gl R N law04PlainParts_c1 (Kret law04PlainParts.rets []))) N ⟨[(1, .imm (AV.bool b1)), (102, .imm (AV.row 1 [AV.str ([] : List UInt8), AV.str ([45, 32, 97] : List UInt8), AV.str ([63, 32, 97] : List UInt8), AV.str ([58, 32, 97] : List UInt8), AV.str ([45] : List UInt8), AV.str ([35, 97] : List UInt8), AV.str ([38, 97] : List UInt8), AV.str ([42, 97] : List UInt8), AV.str ([33, 97] : List UInt8), AV.str ([124] : List UInt8), AV.str ([62] : List UInt8), AV.str ([39, 97, 39] : List UInt8), AV.str ([34, 97, 34] : List UInt8), AV.str ([37, 97] : List UInt8), AV.str ([64, 97] : List UInt8), AV.str ([96, 97] : List UInt8), AV.str ([91, 97] : List UInt8), AV.str ([123, 97] : List UInt8), AV.str ([93] : List UInt8), AV.str ([125] : List UInt8), AV.str ([44, 97] : List UInt8), AV.str ([45, 45, 45, 32, 97] : List UInt8), AV.str ([46, 46, 46] : List UInt8), AV.str ([97, 58, 32, 98] : List UInt8), AV.str ([97, 32, 35, 98] : List UInt8), AV.str ([32, 97] : List UInt8), AV.str ([97, 32] : List UInt8), AV.str ([97, 9, 98] : List UInt8), AV.str ([97, 58] : List UInt8), AV.str ([97, 10, 98] : List UInt8)])), (103, .imm (AV.int .i64 (([AV.str ([] : List UInt8), AV.str ([45, 32, 97] : List UInt8), AV.str ([63, 32, 97] : List UInt8), AV.str ([58, 32, 97] : List UInt8), AV.str ([45] : List UInt8), AV.str ([35, 97] : List UInt8), AV.str ([38, 97] : List UInt8), AV.str ([42, 97] : List UInt8), AV.str ([33, 97] : List UInt8), AV.str ([124] : List UInt8), AV.str ([62] : List UInt8), AV.str ([39, 97, 39] : List UInt8), AV.str ([34, 97, 34] : List UInt8), AV.str ([37, 97] : List UInt8), AV.str ([64, 97] : List UInt8), AV.str ([96, 97] : List UInt8), AV.str ([91, 97] : List UInt8), AV.str ([123, 97] : List UInt8), AV.str ([93] : List UInt8), AV.str ([125] : List UInt8), AV.str ([44, 97] : List UInt8), AV.str ([45, 45, 45, 32, 97] : List UInt8), AV.str ([46, 46, 46] : List UInt8), AV.str ([97, 58, 32, 98] : List UInt8), AV.str ([97, 32, 35, 98] : List UInt8), AV.str ([32, 97] : List UInt8), AV.str ([97, 32] : List UInt8), AV.str ([97, 9, 98] : List UInt8), AV.str ([97, 58] : List UInt8), AV.str ([97, 10, 98] : List UInt8)].length : Nat) : Int))), (104, .imm (AV.int .i64 0))], []⟩)
                    else
                      (R id_plainValid [AV.str s2, AV.bool true]).bind fun r49 =>
                      asB r49.v fun b63 =>
                      bif b63 then
                        ((R id_plainValid [AV.str s2, AV.bool false]).bind fun r50 =>
                        asB r50.v fun b64 =>
                        bif !b64 then
                          (some ⟨AV.bool false, false, []⟩)
                        else
                          rounds [1, 102, 103, 104] [] (evC gl R N law04PlainParts_c0) (Kblock 0 (Kthen gl R N law04PlainParts_c1 (Kret law04PlainParts.rets []))) N ⟨[(1, .imm (AV.bool b1)), (102, .imm (AV.row 1 [AV.str ([] : List UInt8), AV.str ([45, 32, 97] : List UInt8), AV.str ([63, 32, 97] : List UInt8), AV.str ([58, 32, 97] : List UInt8), AV.str ([45] : List UInt8), AV.str ([35, 97] : List UInt8), AV.str ([38, 97] : List UInt8), AV.str ([42, 97] : List UInt8), AV.str ([33, 97] : List UInt8), AV.str ([124] : List UInt8), AV.str ([62] : List UInt8), AV.str ([39, 97, 39] : List UInt8), AV.str ([34, 97, 34] : List UInt8), AV.str ([37, 97] : List UInt8), AV.str ([64, 97] : List UInt8), AV.str ([96, 97] : List UInt8), AV.str ([91, 97] : List UInt8), AV.str ([123, 97] : List UInt8), AV.str ([93] : List UInt8), AV.str ([125] : List UInt8), AV.str ([44, 97] : List UInt8), AV.str ([45, 45, 45, 32, 97] : List UInt8), AV.str ([46, 46, 46] : List UInt8), AV.str ([97, 58, 32, 98] : List UInt8), AV.str ([97, 32, 35, 98] : List UInt8), AV.str ([32, 97] : List UInt8), AV.str ([97, 32] : List UInt8), AV.str ([97, 9, 98] : List UInt8), AV.str ([97, 58] : List UInt8), AV.str ([97, 10, 98] : List UInt8)])), (103, .imm (AV.int .i64 (([AV.str ([] : List UInt8), AV.str ([45, 32, 97] : List UInt8), AV.str ([63, 32, 97] : List UInt8), AV.str ([58, 32, 97] : List UInt8), AV.str ([45] : List UInt8), AV.str ([35, 97] : List UInt8), AV.str ([38, 97] : List UInt8), AV.str ([42, 97] : List UInt8), AV.str ([33, 97] : List UInt8), AV.str ([124] : List UInt8), AV.str ([62] : List UInt8), AV.str ([39, 97, 39] : List UInt8), AV.str ([34, 97, 34] : List UInt8), AV.str ([37, 97] : List UInt8), AV.str ([64, 97] : List UInt8), AV.str ([96, 97] : List UInt8), AV.str ([91, 97] : List UInt8), AV.str ([123, 97] : List UInt8), AV.str ([93] : List UInt8), AV.str ([125] : List UInt8), AV.str ([44, 97] : List UInt8), AV.str ([45, 45, 45, 32, 97] : List UInt8), AV.str ([46, 46, 46] : List UInt8), AV.str ([97, 58, 32, 98] : List UInt8), AV.str ([97, 32, 35, 98] : List UInt8), AV.str ([32, 97] : List UInt8), AV.str ([97, 32] : List UInt8), AV.str ([97, 9, 98] : List UInt8), AV.str ([97, 58] : List UInt8), AV.str ([97, 10, 98] : List UInt8)].length : Nat) : Int))), (104, .imm (AV.int .i64 0))], []⟩)
                      else
                        rounds [1, 102, 103, 104] [] (evC gl R N law04PlainParts_c0) (Kblock 0 (Kthen gl R N law04PlainParts_c1 (Kret law04PlainParts.rets []))) N ⟨[(1, .imm (AV.bool b1)), (102, .imm (AV.row 1 [AV.str ([] : List UInt8), AV.str ([45, 32, 97] : List UInt8), AV.str ([63, 32, 97] : List UInt8), AV.str ([58, 32, 97] : List UInt8), AV.str ([45] : List UInt8), AV.str ([35, 97] : List UInt8), AV.str ([38, 97] : List UInt8), AV.str ([42, 97] : List UInt8), AV.str ([33, 97] : List UInt8), AV.str ([124] : List UInt8), AV.str ([62] : List UInt8), AV.str ([39, 97, 39] : List UInt8), AV.str ([34, 97, 34] : List UInt8), AV.str ([37, 97] : List UInt8), AV.str ([64, 97] : List UInt8), AV.str ([96, 97] : List UInt8), AV.str ([91, 97] : List UInt8), AV.str ([123, 97] : List UInt8), AV.str ([93] : List UInt8), AV.str ([125] : List UInt8), AV.str ([44, 97] : List UInt8), AV.str ([45, 45, 45, 32, 97] : List UInt8), AV.str ([46, 46, 46] : List UInt8), AV.str ([97, 58, 32, 98] : List UInt8), AV.str ([97, 32, 35, 98] : List UInt8), AV.str ([32, 97] : List UInt8), AV.str ([97, 32] : List UInt8), AV.str ([97, 9, 98] : List UInt8), AV.str ([97, 58] : List UInt8), AV.str ([97, 10, 98] : List UInt8)])), (103, .imm (AV.int .i64 (([AV.str ([] : List UInt8), AV.str ([45, 32, 97] : List UInt8), AV.str ([63, 32, 97] : List UInt8), AV.str ([58, 32, 97] : List UInt8), AV.str ([45] : List UInt8), AV.str ([35, 97] : List UInt8), AV.str ([38, 97] : List UInt8), AV.str ([42, 97] : List UInt8), AV.str ([33, 97] : List UInt8), AV.str ([124] : List UInt8), AV.str ([62] : List UInt8), AV.str ([39, 97, 39] : List UInt8), AV.str ([34, 97, 34] : List UInt8), AV.str ([37, 97] : List UInt8), AV.str ([64, 97] : List UInt8), AV.str ([96, 97] : List UInt8), AV.str ([91, 97] : List UInt8), AV.str ([123, 97] : List UInt8), AV.str ([93] : List UInt8), AV.str ([125] : List UInt8), AV.str ([44, 97] : List UInt8), AV.str ([45, 45, 45, 32, 97] : List UInt8), AV.str ([46, 46, 46] : List UInt8), AV.str ([97, 58, 32, 98] : List UInt8), AV.str ([97, 32, 35, 98] : List UInt8), AV.str ([32, 97] : List UInt8), AV.str ([97, 32] : List UInt8), AV.str ([97, 9, 98] : List UInt8), AV.str ([97, 58] : List UInt8), AV.str ([97, 10, 98] : List UInt8)].length : Nat) : Int))), (104, .imm (AV.int .i64 0))], []⟩)
                  else
                    need (decide (0 ≤ (0 : Int))) <|
                    (s2[Int.toNat 0]?).bind fun c5 =>
                    bif ((c5.toNat : Int) : Int) == 58 then
                      (bif decide ((i1 : Int) > 0) then
                        (need (decide (0 ≤ (IntKind.i64.wrap (i1 - 1) : Int))) <|
                        (s2[Int.toNat (IntKind.i64.wrap (i1 - 1))]?).bind fun c6 =>
                        bif ((c6.toNat : Int) : Int) == 32 then
                          (some ⟨AV.bool false, false, []⟩)
                        else
                          (R id_plainValid [AV.str s2, AV.bool true]).bind fun r63 =>
                          asB r63.v fun b81 =>
                          bif b81 then
                            ((R id_plainValid [AV.str s2, AV.bool false]).bind fun r64 =>
                            asB r64.v fun b82 =>
                            bif !b82 then
                              (some ⟨AV.bool false, false, []⟩)
                            else
                              rounds [1, 102, 103, 104] [] (evC gl R N law04PlainParts_c0) (Kblock 0 (Kthen gl R N law04PlainParts_c1 (Kret law04PlainParts.rets []))) N ⟨[(1, .imm (AV.bool b1)), (102, .imm (AV.row 1 [AV.str ([] : List UInt8), AV.str ([45, 32, 97] : List UInt8), AV.str ([63, 32, 97] : List UInt8), AV.str ([58, 32, 97] : List UInt8), AV.str ([45] : List UInt8), AV.str ([35, 97] : List UInt8), AV.str ([38, 97] : List UInt8), AV.str ([42, 97] : List UInt8), AV.str ([33, 97] : List UInt8), AV.str ([124] : List UInt8), AV.str ([62] : List UInt8), AV.str ([39, 97, 39] : List UInt8), AV.str ([34, 97, 34] : List UInt8), AV.str ([37, 97] : List UInt8), AV.str ([64, 97] : List UInt8), AV.str ([96, 97] : List UInt8), AV.str ([91, 97] : List UInt8), AV.str ([123, 97] : List UInt8), AV.str ([93] : List UInt8), AV.str ([125] : List UInt8), AV.str ([44, 97] : List UInt8), AV.str ([45, 45, 45, 32, 97] : List UInt8), AV.str ([46, 46, 46] : List UInt8), AV.str ([97, 58, 32, 98] : List UInt8), AV.str ([97, 32, 35, 98] : List UInt8), AV.str ([32, 97] : List UInt8), AV.str ([97, 32] : List UInt8), AV.str ([97, 9, 98] : List UInt8), AV.str ([97, 58] : List UInt8), AV.str ([97, 10, 98] : List UInt8)])), (103, .imm (AV.int .i64 (([AV.str ([] : List UInt8), AV.str ([45, 32, 97] : List UInt8), AV.str ([63, 32, 97] : List UInt8), AV.str ([58, 32, 97] : List UInt8), AV.str ([45] : List UInt8), AV.str ([35, 97] : List UInt8), AV.str ([38, 97] : List UInt8), AV.str ([42, 97] : List UInt8), AV.str ([33, 97] : List UInt8), AV.str ([124] : List UInt8), AV.str ([62] : List UInt8), AV.str ([39, 97, 39] : List UInt8), AV.str ([34, 97, 34] : List UInt8), AV.str ([37, 97] : List UInt8), AV.str ([64, 97] : List UInt8), AV.str ([96, 97] : List UInt8), AV.str ([91, 97] : List UInt8), AV.str ([123, 97] : List UInt8), AV.str ([93] : List UInt8), AV.str ([125] : List UInt8), AV.str ([44, 97] : List UInt8), AV.str ([45, 45, 45, 32, 97] : List UInt8), AV.str ([46, 46, 46] : List UInt8), AV.str ([97, 58, 32, 98] : List UInt8), AV.str ([97, 32, 35, 98] : List UInt8), AV.str ([32, 97] : List UInt8), AV.str ([97, 32] : List UInt8), AV.str ([97, 9, 98] : List UInt8), AV.str ([97, 58] : List UInt8), AV.str ([97, 10, 98] : List UInt8)].length : Nat) : Int))), (104, .imm (AV.int .i64 0))], []⟩)
                          else
                            rounds [1, 102, 103, 104] [] (evC gl R N law04PlainParts_c0) (Kblock 0 (Kthen gl R N law04PlainParts_c1 (Kret law04PlainParts.rets []))) N ⟨[(1, .imm (AV.bool b1)), (102, .imm (AV.row 1 [AV.str ([] : List UInt8), AV.str ([45, 32, 97] : List UInt8), AV.str ([63, 32, 97] : List UInt8), AV.str ([58, 32, 97] : List UInt8), AV.str ([45] : List UInt8), AV.str ([35, 97] : List UInt8), AV.str ([38, 97] : List UInt8), AV.str ([42, 97] : List UInt8), AV.str ([33, 97] : List UInt8), AV.str ([124] : List UInt8), AV.str ([62] : List UInt8), AV.str ([39, 97, 39] : List UInt8), AV.str ([34, 97, 34] : List UInt8), AV.str ([37, 97] : List UInt8), AV.str ([64, 97] : List UInt8), AV.str ([96, 97] : List UInt8), AV.str ([91, 97] : List UInt8), AV.str ([123, 97] : List UInt8), AV.str ([93] : List UInt8), AV.str ([125] : List UInt8), AV.str ([44, 97] : List UInt8), AV.str ([45, 45, 45, 32, 97] : List UInt8), AV.str ([46, 46, 46] : List UInt8), AV.str ([97, 58, 32, 98] : List UInt8), AV.str ([97, 32, 35, 98] : List UInt8), AV.str ([32, 97] : List UInt8), AV.str ([97, 32] : List UInt8), AV.str ([97, 9, 98] : List UInt8), AV.str ([97, 58] : List UInt8), AV.str ([97, 10, 98] : List UInt8)])), (103, .imm (AV.int .i64 (([AV.str ([] : List UInt8), AV.str ([45, 32, 97] : List UInt8), AV.str ([63, 32, 97] : List UInt8), AV.str ([58, 32, 97] : List UInt8), AV.str ([45] : List UInt8), AV.str ([35, 97] : List UInt8), AV.str ([38, 97] : List UInt8), AV.str ([42, 97] : List UInt8), AV.str ([33, 97] : List UInt8), AV.str ([124] : List UInt8), AV.str ([62] : List UInt8), AV.str ([39, 97, 39] : List UInt8), AV.str ([34, 97, 34] : List UInt8), AV.str ([37, 97] : List UInt8), AV.str ([64, 97] : List UInt8), AV.str ([96, 97] : List UInt8), AV.str ([91, 97] : List UInt8), AV.str ([123, 97] : List UInt8), AV.str ([93] : List UInt8), AV.str ([125] : List UInt8), AV.str ([44, 97] : List UInt8), AV.str ([45, 45, 45, 32, 97] : List UInt8), AV.str ([46, 46, 46] : List UInt8), AV.str ([97, 58, 32, 98] : List UInt8), AV.str ([97, 32, 35, 98] : List UInt8), AV.str ([32, 97] : List UInt8), AV.str ([97, 32] : List UInt8), AV.str ([97, 9, 98] : List UInt8), AV.str ([97, 58] : List UInt8), AV.str ([97, 10, 98] : List UInt8)].length : Nat) : Int))), (104, .imm (AV.int .i64 0))], []⟩)
                      else
                        (R id_plainValid [AV.str s2, AV.bool true]).bind fun r77 =>
                        asB r77.v fun b99 =>
                        bif b99 then
                          ((R id_plainValid [AV.str s2, AV.bool false]).bind fun r78 =>
                          asB r78.v fun b100 =>
                          bif !b100 then
                            (some ⟨AV.bool false, false, []⟩)
                          else
                            rounds [1, 102, 103, 104] [] (evC gl R N law04PlainParts_c0) (Kblock 0 (Kthen gl R N law04PlainParts_c1 (Kret law04PlainParts.rets []))) N ⟨[(1, .imm (AV.bool b1)), (102, .imm (AV.row 1 [AV.str ([] : List UInt8), AV.str ([45, 32, 97] : List UInt8), AV.str ([63, 32, 97] : List UInt8), AV.str ([58, 32, 97] : List UInt8), AV.str ([45] : List UInt8), AV.str ([35, 97] : List UInt8), AV.str ([38, 97] : List UInt8), AV.str ([42, 97] : List UInt8), AV.str ([33, 97] : List UInt8), AV.str ([124] : List UInt8), AV.str ([62] : List UInt8), AV.str ([39, 97, 39] : List UInt8), AV.str ([34, 97, 34] : List UInt8), AV.str ([37, 97] : List UInt8), AV.str ([64, 97] : List UInt8), AV.str ([96, 97] : List UInt8), AV.str ([91, 97] : List UInt8), AV.str ([123, 97] : List UInt8), AV.str ([93] : List UInt8), AV.str ([125] : List UInt8), AV.str ([44, 97] : List UInt8), AV.str ([45, 45, 45, 32, 97] : List UInt8), AV.str ([46, 46, 46] : List UInt8), AV.str ([97, 58, 32, 98] : List UInt8), AV.str ([97, 32, 35, 98] : List UInt8), AV.str ([32, 97] : List UInt8), AV.str ([97, 32] : List UInt8), AV.str ([97, 9, 98] : List UInt8), AV.str ([97, 58] : List UInt8), AV.str ([97, 10, 98] : List UInt8)])), (103, .imm (AV.int .i64 (([AV.str ([] : List UInt8), AV.str ([45, 32, 97] : List UInt8), AV.str ([63, 32, 97] : List UInt8), AV.str ([58, 32, 97] : List UInt8), AV.str ([45] : List UInt8), AV.str ([35, 97] : List UInt8), AV.str ([38, 97] : List UInt8), AV.str ([42, 97] : List UInt8), AV.str ([33, 97] : List UInt8), AV.str ([124] : List UInt8), AV.str ([62] : List UInt8), AV.str ([39, 97, 39] : List UInt8), AV.str ([34, 97, 34] : List UInt8), AV.str ([37, 97] : List UInt8), AV.str ([64, 97] : List UInt8), AV.str ([96, 97] : List UInt8), AV.str ([91, 97] : List UInt8), AV.str ([123, 97] : List UInt8), AV.str ([93] : List UInt8), AV.str ([125] : List UInt8), AV.str ([44, 97] : List UInt8), AV.str ([45, 45, 45, 32, 97] : List UInt8), AV.str ([46, 46, 46] : List UInt8), AV.str ([97, 58, 32, 98] : List UInt8), AV.str ([97, 32, 35, 98] : List UInt8), AV.str ([32, 97] : List UInt8), AV.str ([97, 32] : List UInt8), AV.str ([97, 9, 98] : List UInt8), AV.str ([97, 58] : List UInt8), AV.str ([97, 10, 98] : List UInt8)].length : Nat) : Int))), (104, .imm (AV.int .i64 0))], []⟩)
                        else
                          rounds [1, 102, 103, 104] [] (evC gl R N law04PlainParts_c0) (Kblock 0 (Kthen gl R N law04PlainParts_c1 (Kret law04PlainParts.rets []))) N ⟨[(1, .imm (AV.bool b1)), (102, .imm (AV.row 1 [AV.str ([] : List UInt8), AV.str ([45, 32, 97] : List UInt8), AV.str ([63, 32, 97] : List UInt8), AV.str ([58, 32, 97] : List UInt8), AV.str ([45] : List UInt8), AV.str ([35, 97] : List UInt8), AV.str ([38, 97] : List UInt8), AV.str ([42, 97] : List UInt8), AV.str ([33, 97] : List UInt8), AV.str ([124] : List UInt8), AV.str ([62] : List UInt8), AV.str ([39, 97, 39] : List UInt8), AV.str ([34, 97, 34] : List UInt8), AV.str ([37, 97] : List UInt8), AV.str ([64, 97] : List UInt8), AV.str ([96, 97] : List UInt8), AV.str ([91, 97] : List UInt8), AV.str ([123, 97] : List UInt8), AV.str ([93] : List UInt8), AV.str ([125] : List UInt8), AV.str ([44, 97] : List UInt8), AV.str ([45, 45, 45, 32, 97] : List UInt8), AV.str ([46, 46, 46] : List UInt8), AV.str ([97, 58, 32, 98] : List UInt8), AV.str ([97, 32, 35, 98] : List UInt8), AV.str ([32, 97] : List UInt8), AV.str ([97, 32] : List UInt8), AV.str ([97, 9, 98] : List UInt8), AV.str ([97, 58] : List UInt8), AV.str ([97, 10, 98] : List UInt8)])), (103, .imm (AV.int .i64 (([AV.str ([] : List UInt8), AV.str ([45, 32, 97] : List UInt8), AV.str ([63, 32, 97] : List UInt8), AV.str ([58, 32, 97] : List UInt8), AV.str ([45] : List UInt8), AV.str ([35, 97] : List UInt8), AV.str ([38, 97] : List UInt8), AV.str ([42, 97] : List UInt8), AV.str ([33, 97] : List UInt8), AV.str ([124] : List UInt8), AV.str ([62] : List UInt8), AV.str ([39, 97, 39] : List UInt8), AV.str ([34, 97, 34] : List UInt8), AV.str ([37, 97] : List UInt8), AV.str ([64, 97] : List UInt8), AV.str ([96, 97] : List UInt8), AV.str ([91, 97] : List UInt8), AV.str ([123, 97] : List UInt8), AV.str ([93] : List UInt8), AV.str ([125] : List UInt8), AV.str ([44, 97] : List UInt8), AV.str ([45, 45, 45, 32, 97] : List UInt8), AV.str ([46, 46, 46] : List UInt8), AV.str ([97, 58, 32, 98] : List UInt8), AV.str ([97, 32, 35, 98] : List UInt8), AV.str ([32, 97] : List UInt8), AV.str ([97, 32] : List UInt8), AV.str ([97, 9, 98] : List UInt8), AV.str ([97, 58] : List UInt8), AV.str ([97, 10, 98] : List UInt8)].length : Nat) : Int))), (104, .imm (AV.int .i64 0))], []⟩)
                    else
                      bif decide ((i1 : Int) > 0) then
                        (need (decide (0 ≤ (IntKind.i64.wrap (i1 - 1) : Int))) <|
                        (s2[Int.toNat (IntKind.i64.wrap (i1 - 1))]?).bind fun c7 =>
                        bif decide ((i1 : Int) > 0) then
                          (need (decide (0 ≤ (IntKind.i64.wrap (i1 - 1) : Int))) <|
                          (s2[Int.toNat (IntKind.i64.wrap (i1 - 1))]?).bind fun c8 =>
                          bif ((c8.toNat : Int) : Int) == 32 then
                            (some ⟨AV.bool false, false, []⟩)
                          else
                            bif !(((c7.toNat : Int) : Int) == 58) then
                              (need (decide (0 ≤ (i1 : Int)) && decide ((i1 : Int) ≤ ((s2.length : Nat) : Int))) <|
                              (R id_plainLength [AV.bytes ((s2.take (Int.toNat i1)).drop 0), AV.bool b1]).bind fun r91 =>
                              asI .i64 r91.v fun i6 =>
                              bif (i6 : Int) != i1 then
                                (some ⟨AV.bool false, false, []⟩)
                              else
                                (R id_plainValid [AV.str s2, AV.bool true]).bind fun r92 =>
                                asB r92.v fun b117 =>
                                bif b117 then
                                  ((R id_plainValid [AV.str s2, AV.bool false]).bind fun r93 =>
                                  asB r93.v fun b118 =>
                                  bif !b118 then
                                    (some ⟨AV.bool false, false, []⟩)
                                  else
                                    rounds [1, 102, 103, 104] [] (evC gl R N law04PlainParts_c0) (Kblock 0 (Kthen gl R N law04PlainParts_c1 (Kret law04PlainParts.rets []))) N ⟨[(1, .imm (AV.bool b1)), (102, .imm (AV.row 1 [AV.str ([] : List UInt8), AV.str ([45, 32, 97] : List UInt8), AV.str ([63, 32, 97] : List UInt8), AV.str ([58, 32, 97] : List UInt8), AV.str ([45] : List UInt8), AV.str ([35, 97] : List UInt8), AV.str ([38, 97] : List UInt8), AV.str ([42, 97] : List UInt8), AV.str ([33, 97] : List UInt8), AV.str ([124] : List UInt8), AV.str ([62] : List UInt8), AV.str ([39, 97, 39] : List UInt8), AV.str ([34, 97, 34] : List UInt8), AV.str ([37, 97] : List UInt8), AV.str ([64, 97] : List UInt8), AV.str ([96, 97] : List UInt8), AV.str ([91, 97] : List UInt8), AV.str ([123, 97] : List UInt8), AV.str ([93] : List UInt8), AV.str ([125] : List UInt8), AV.str ([44, 97] : List UInt8), AV.str ([45, 45, 45, 32, 97] : List UInt8), AV.str ([46, 46, 46] : List UInt8), AV.str ([97, 58, 32, 98] : List UInt8), AV.str ([97, 32, 35, 98] : List UInt8), AV.str ([32, 97] : List UInt8), AV.str ([97, 32] : List UInt8), AV.str ([97, 9, 98] : List UInt8), AV.str ([97, 58] : List UInt8), AV.str ([97, 10, 98] : List UInt8)])), (103, .imm (AV.int .i64 (([AV.str ([] : List UInt8), AV.str ([45, 32, 97] : List UInt8), AV.str ([63, 32, 97] : List UInt8), AV.str ([58, 32, 97] : List UInt8), AV.str ([45] : List UInt8), AV.str ([35, 97] : List UInt8), AV.str ([38, 97] : List UInt8), AV.str ([42, 97] : List UInt8), AV.str ([33, 97] : List UInt8), AV.str ([124] : List UInt8), AV.str ([62] : List UInt8), AV.str ([39, 97, 39] : List UInt8), AV.str ([34, 97, 34] : List UInt8), AV.str ([37, 97] : List UInt8), AV.str ([64, 97] : List UInt8), AV.str ([96, 97] : List UInt8), AV.str ([91, 97] : List UInt8), AV.str ([123, 97] : List UInt8), AV.str ([93] : List UInt8), AV.str ([125] : List UInt8), AV.str ([44, 97] : List UInt8), AV.str ([45, 45, 45, 32, 97] : List UInt8), AV.str ([46, 46, 46] : List UInt8), AV.str ([97, 58, 32, 98] : List UInt8), AV.str ([97, 32, 35, 98] : List UInt8), AV.str ([32, 97] : List UInt8), AV.str ([97, 32] : List UInt8), AV.str ([97, 9, 98] : List UInt8), AV.str ([97, 58] : List UInt8), AV.str ([97, 10, 98] : List UInt8)].length : Nat) : Int))), (104, .imm (AV.int .i64 0))], []⟩)
                                else
                                  rounds [1, 102, 103, 104] [] (evC gl R N law04PlainParts_c0) (Kblock 0 (Kthen gl R N law04PlainParts_c1 (Kret law04PlainParts.rets []))) N ⟨[(1, .imm (AV.bool b1)), (102, .imm (AV.row 1 [AV.str ([] : List UInt8), AV.str ([45, 32, 97] : List UInt8), AV.str ([63, 32, 97] : List UInt8), AV.str ([58, 32, 97] : List UInt8), AV.str ([45] : List UInt8), AV.str ([35, 97] : List UInt8), AV.str ([38, 97] : List UInt8), AV.str ([42, 97] : List UInt8), AV.str ([33, 97] : List UInt8), AV.str ([124] : List UInt8), AV.str ([62] : List UInt8), AV.str ([39, 97, 39] : List UInt8), AV.str ([34, 97, 34] : List UInt8), AV.str ([37, 97] : List UInt8), AV.str ([64, 97] : List UInt8), AV.str ([96, 97] : List UInt8), AV.str ([91, 97] : List UInt8), AV.str ([123, 97] : List UInt8), AV.str ([93] : List UInt8), AV.str ([125] : List UInt8), AV.str ([44, 97] : List UInt8), AV.str ([45, 45, 45, 32, 97] : List UInt8), AV.str ([46, 46, 46] : List UInt8), AV.str ([97, 58, 32, 98] : List UInt8), AV.str ([97, 32, 35, 98] : List UInt8), AV.str ([32, 97] : List UInt8), AV.str ([97, 32] : List UInt8), AV.str ([97, 9, 98] : List UInt8), AV.str ([97, 58] : List UInt8), AV.str ([97, 10, 98] : List UInt8)])), (103, .imm (AV.int .i64 (([AV.str ([] : List UInt8), AV.str ([45, 32, 97] : List UInt8), AV.str ([63, 32, 97] : List UInt8), AV.str ([58, 32, 97] : List UInt8), AV.str ([45] : List UInt8), AV.str ([35, 97] : List UInt8), AV.str ([38, 97] : List UInt8), AV.str ([42, 97] : List UInt8), AV.str ([33, 97] : List UInt8), AV.str ([124] : List UInt8), AV.str ([62] : List UInt8), AV.str ([39, 97, 39] : List UInt8), AV.str ([34, 97, 34] : List UInt8), AV.str ([37, 97] : List UInt8), AV.str ([64, 97] : List UInt8), AV.str ([96, 97] : List UInt8), AV.str ([91, 97] : List UInt8), AV.str ([123, 97] : List UInt8), AV.str ([93] : List UInt8), AV.str ([125] : List UInt8), AV.str ([44, 97] : List UInt8), AV.str ([45, 45, 45, 32, 97] : List UInt8), AV.str ([46, 46, 46] : List UInt8), AV.str ([97, 58, 32, 98] : List UInt8), AV.str ([97, 32, 35, 98] : List UInt8), AV.str ([32, 97] : List UInt8), AV.str ([97, 32] : List UInt8), AV.str ([97, 9, 98] : List UInt8), AV.str ([97, 58] : List UInt8), AV.str ([97, 10, 98] : List UInt8)].length : Nat) : Int))), (104, .imm (AV.int .i64 0))], []⟩)
                            else
                              (R id_plainValid [AV.str s2, AV.bool true]).bind fun r106 =>
                              asB r106.v fun b135 =>
                              bif b135 then
                                ((R id_plainValid [AV.str s2, AV.bool false]).bind fun r107 =>
                                asB r107.v fun b136 =>
                                bif !b136 then
                                  (some ⟨AV.bool false, false, []⟩)
                                else
                                  rounds [1, 102, 103, 104] [] (evC gl R N law04PlainParts_c0) (Kblock 0 (Kthen gl R N law04PlainParts_c1 (Kret law04PlainParts.rets []))) N ⟨[(1, .imm (AV.bool b1)), (102, .imm (AV.row 1 [AV.str ([] : List UInt8), AV.str ([45, 32, 97] : List UInt8), AV.str ([63, 32, 97] : List UInt8), AV.str ([58, 32, 97] : List UInt8), AV.str ([45] : List UInt8), AV.str ([35, 97] : List UInt8), AV.str ([38, 97] : List UInt8), AV.str ([42, 97] : List UInt8), AV.str ([33, 97] : List UInt8), AV.str ([124] : List UInt8), AV.str ([62] : List UInt8), AV.str ([39, 97, 39] : List UInt8), AV.str ([34, 97, 34] : List UInt8), AV.str ([37, 97] : List UInt8), AV.str ([64, 97] : List UInt8), AV.str ([96, 97] : List UInt8), AV.str ([91, 97] : List UInt8), AV.str ([123, 97] : List UInt8), AV.str ([93] : List UInt8), AV.str ([125] : List UInt8), AV.str ([44, 97] : List UInt8), AV.str ([45, 45, 45, 32, 97] : List UInt8), AV.str ([46, 46, 46] : List UInt8), AV.str ([97, 58, 32, 98] : List UInt8), AV.str ([97, 32, 35, 98] : List UInt8), AV.str ([32, 97] : List UInt8), AV.str ([97, 32] : List UInt8), AV.str ([97, 9, 98] : List UInt8), AV.str ([97, 58] : List UInt8), AV.str ([97, 10, 98] : List UInt8)])), (103, .imm (AV.int .i64 (([AV.str ([] : List UInt8), AV.str ([45, 32, 97] : List UInt8), AV.str ([63, 32, 97] : List UInt8), AV.str ([58, 32, 97] : List UInt8), AV.str ([45] : List UInt8), AV.str ([35, 97] : List UInt8), AV.str ([38, 97] : List UInt8), AV.str ([42, 97] : List UInt8), AV.str ([33, 97] : List UInt8), AV.str ([124] : List UInt8), AV.str ([62] : List UInt8), AV.str ([39, 97, 39] : List UInt8), AV.str ([34, 97, 34] : List UInt8), AV.str ([37, 97] : List UInt8), AV.str ([64, 97] : List UInt8), AV.str ([96, 97] : List UInt8), AV.str ([91, 97] : List UInt8), AV.str ([123, 97] : List UInt8), AV.str ([93] : List UInt8), AV.str ([125] : List UInt8), AV.str ([44, 97] : List UInt8), AV.str ([45, 45, 45, 32, 97] : List UInt8), AV.str ([46, 46, 46] : List UInt8), AV.str ([97, 58, 32, 98] : List UInt8), AV.str ([97, 32, 35, 98] : List UInt8), AV.str ([32, 97] : List UInt8), AV.str ([97, 32] : List UInt8), AV.str ([97, 9, 98] : List UInt8), AV.str ([97, 58] : List UInt8), AV.str ([97, 10, 98] : List UInt8)].length : Nat) : Int))), (104, .imm (AV.int .i64 0))], []⟩)
                              else
                                rounds [1, 102, 103, 104] [] (evC gl R N law04PlainParts_c0) (Kblock 0 (Kthen gl R N law04PlainParts_c1 (Kret law04PlainParts.rets []))) N ⟨[(1, .imm (AV.bool b1)), (102, .imm (AV.row 1 [AV.str ([] : List UInt8), AV.str ([45, 32, 97] : List UInt8), AV.str ([63, 32, 97] : List UInt8), AV.str ([58, 32, 97] : List UInt8), AV.str ([45] : List UInt8), AV.str ([35, 97] : List UInt8), AV.str ([38, 97] : List UInt8), AV.str ([42, 97] : List UInt8), AV.str ([33, 97] : List UInt8), AV.str ([124] : List UInt8), AV.str ([62] : List UInt8), AV.str ([39, 97, 39] : List UInt8), AV.str ([34, 97, 34] : List UInt8), AV.str ([37, 97] : List UInt8), AV.str ([64, 97] : List UInt8), AV.str ([96, 97] : List UInt8), AV.str ([91, 97] : List UInt8), AV.str ([123, 97] : List UInt8), AV.str ([93] : List UInt8), AV.str ([125] : List UInt8), AV.str ([44, 97] : List UInt8), AV.str ([45, 45, 45, 32, 97] : List UInt8), AV.str ([46, 46, 46] : List UInt8), AV.str ([97, 58, 32, 98] : List UInt8), AV.str ([97, 32, 35, 98] : List UInt8), AV.str ([32, 97] : List UInt8), AV.str ([97, 32] : List UInt8), AV.str ([97, 9, 98] : List UInt8), AV.str ([97, 58] : List UInt8), AV.str ([97, 10, 98] : List UInt8)])), (103, .imm (AV.int .i64 (([AV.str ([] : List UInt8), AV.str ([45, 32, 97] : List UInt8), AV.str ([63, 32, 97] : List UInt8), AV.str ([58, 32, 97] : List UInt8), AV.str ([45] : List UInt8), AV.str ([35, 97] : List UInt8), AV.str ([38, 97] : List UInt8), AV.str ([42, 97] : List UInt8), AV.str ([33, 97] : List UInt8), AV.str ([124] : List UInt8), AV.str ([62] : List UInt8), AV.str ([39, 97, 39] : List UInt8), AV.str ([34, 97, 34] : List UInt8), AV.str ([37, 97] : List UInt8), AV.str ([64, 97] : List UInt8), AV.str ([96, 97] : List UInt8), AV.str ([91, 97] : List UInt8), AV.str ([123, 97] : List UInt8), AV.str ([93] : List UInt8), AV.str ([125] : List UInt8), AV.str ([44, 97] : List UInt8), AV.str ([45, 45, 45, 32, 97] : List UInt8), AV.str ([46, 46, 46] : List UInt8), AV.str ([97, 58, 32, 98] : List UInt8), AV.str ([97, 32, 35, 98] : List UInt8), AV.str ([32, 97] : List UInt8), AV.str ([97, 32] : List UInt8), AV.str ([97, 9, 98] : List UInt8), AV.str ([97, 58] : List UInt8), AV.str ([97, 10, 98] : List UInt8)].length : Nat) : Int))), (104, .imm (AV.int .i64 0))], []⟩)
                        else
                          (R id_plainValid [AV.str s2, AV.bool true]).bind fun r120 =>
                          asB r120.v fun b153 =>
                          bif b153 then
                            ((R id_plainValid [AV.str s2, AV.bool false]).bind fun r121 =>
                            asB r121.v fun b154 =>
                            bif !b154 then
                              (some ⟨AV.bool false, false, []⟩)
                            else
                              rounds [1, 102, 103, 104] [] (evC gl R N law04PlainParts_c0) (Kblock 0 (Kthen gl R N law04PlainParts_c1 (Kret law04PlainParts.rets []))) N ⟨[(1, .imm (AV.bool b1)), (102, .imm (AV.row 1 [AV.str ([] : List UInt8), AV.str ([45, 32, 97] : List UInt8), AV.str ([63, 32, 97] : List UInt8), AV.str ([58, 32, 97] : List UInt8), AV.str ([45] : List UInt8), AV.str ([35, 97] : List UInt8), AV.str ([38, 97] : List UInt8), AV.str ([42, 97] : List UInt8), AV.str ([33, 97] : List UInt8), AV.str ([124] : List UInt8), AV.str ([62] : List UInt8), AV.str ([39, 97, 39] : List UInt8), AV.str ([34, 97, 34] : List UInt8), AV.str ([37, 97] : List UInt8), AV.str ([64, 97] : List UInt8), AV.str ([96, 97] : List UInt8), AV.str ([91, 97] : List UInt8), AV.str ([123, 97] : List UInt8), AV.str ([93] : List UInt8), AV.str ([125] : List UInt8), AV.str ([44, 97] : List UInt8), AV.str ([45, 45, 45, 32, 97] : List UInt8), AV.str ([46, 46, 46] : List UInt8), AV.str ([97, 58, 32, 98] : List UInt8), AV.str ([97, 32, 35, 98] : List UInt8), AV.str ([32, 97] : List UInt8), AV.str ([97, 32] : List UInt8), AV.str ([97, 9, 98] : List UInt8), AV.str ([97, 58] : List UInt8), AV.str ([97, 10, 98] : List UInt8)])), (103, .imm (AV.int .i64 (([AV.str ([] : List UInt8), AV.str ([45, 32, 97] : List UInt8), AV.str ([63, 32, 97] : List UInt8), AV.str ([58, 32, 97] : List UInt8), AV.str ([45] : List UInt8), AV.str ([35, 97] : List UInt8), AV.str ([38, 97] : List UInt8), AV.str ([42, 97] : List UInt8), AV.str ([33, 97] : List UInt8), AV.str ([124] : List UInt8), AV.str ([62] : List UInt8), AV.str ([39, 97, 39] : List UInt8), AV.str ([34, 97, 34] : List UInt8), AV.str ([37, 97] : List UInt8), AV.str ([64, 97] : List UInt8), AV.str ([96, 97] : List UInt8), AV.str ([91, 97] : List UInt8), AV.str ([123, 97] : List UInt8), AV.str ([93] : List UInt8), AV.str ([125] : List UInt8), AV.str ([44, 97] : List UInt8), AV.str ([45, 45, 45, 32, 97] : List UInt8), AV.str ([46, 46, 46] : List UInt8), AV.str ([97, 58, 32, 98] : List UInt8), AV.str ([97, 32, 35, 98] : List UInt8), AV.str ([32, 97] : List UInt8), AV.str ([97, 32] : List UInt8), AV.str ([97, 9, 98] : List UInt8), AV.str ([97, 58] : List UInt8), AV.str ([97, 10, 98] : List UInt8)].length : Nat) : Int))), (104, .imm (AV.int .i64 0))], []⟩)
                          else
                            rounds [1, 102, 103, 104] [] (evC gl R N law04PlainParts_c0) (Kblock 0 (Kthen gl R N law04PlainParts_c1 (Kret law04PlainParts.rets []))) N ⟨[(1, .imm (AV.bool b1)), (102, .imm (AV.row 1 [AV.str ([] : List UInt8), AV.str ([45, 32, 97] : List UInt8), AV.str ([63, 32, 97] : List UInt8), AV.str ([58, 32, 97] : List UInt8), AV.str ([45] : List UInt8), AV.str ([35, 97] : List UInt8), AV.str ([38, 97] : List UInt8), AV.str ([42, 97] : List UInt8), AV.str ([33, 97] : List UInt8), AV.str ([124] : List UInt8), AV.str ([62] : List UInt8), AV.str ([39, 97, 39] : List UInt8), AV.str ([34, 97, 34] : List UInt8), AV.str ([37, 97] : List UInt8), AV.str ([64, 97] : List UInt8), AV.str ([96, 97] : List UInt8), AV.str ([91, 97] : List UInt8), AV.str ([123, 97] : List UInt8), AV.str ([93] : List UInt8), AV.str ([125] : List UInt8), AV.str ([44, 97] : List UInt8), AV.str ([45, 45, 45, 32, 97] : List UInt8), AV.str ([46, 46, 46] : List UInt8), AV.str ([97, 58, 32, 98] : List UInt8), AV.str ([97, 32, 35, 98] : List UInt8), AV.str ([32, 97] : List UInt8), AV.str ([97, 32] : List UInt8), AV.str ([97, 9, 98] : List UInt8), AV.str ([97, 58] : List UInt8), AV.str ([97, 10, 98] : List UInt8)])), (103, .imm (AV.int .i64 (([AV.str ([] : List UInt8), AV.str ([45, 32, 97] : List UInt8), AV.str ([63, 32, 97] : List UInt8), AV.str ([58, 32, 97] : List UInt8), AV.str ([45] : List UInt8), AV.str ([35, 97] : List UInt8), AV.str ([38, 97] : List UInt8), AV.str ([42, 97] : List UInt8), AV.str ([33, 97] : List UInt8), AV.str ([124] : List UInt8), AV.str ([62] : List UInt8), AV.str ([39, 97, 39] : List UInt8), AV.str ([34, 97, 34] : List UInt8), AV.str ([37, 97] : List UInt8), AV.str ([64, 97] : List UInt8), AV.str ([96, 97] : List UInt8), AV.str ([91, 97] : List UInt8), AV.str ([123, 97] : List UInt8), AV.str ([93] : List UInt8), AV.str ([125] : List UInt8), AV.str ([44, 97] : List UInt8), AV.str ([45, 45, 45, 32, 97] : List UInt8), AV.str ([46, 46, 46] : List UInt8), AV.str ([97, 58, 32, 98] : List UInt8), AV.str ([97, 32, 35, 98] : List UInt8), AV.str ([32, 97] : List UInt8), AV.str ([97, 32] : List UInt8), AV.str ([97, 9, 98] : List UInt8), AV.str ([97, 58] : List UInt8), AV.str ([97, 10, 98] : List UInt8)].length : Nat) : Int))), (104, .imm (AV.int .i64 0))], []⟩)
                      else
                        bif decide ((i1 : Int) > 0) then
                          (need (decide (0 ≤ (IntKind.i64.wrap (i1 - 1) : Int))) <|
                          (s2[Int.toNat (IntKind.i64.wrap (i1 - 1))]?).bind fun c9 =>
                          bif ((c9.toNat : Int) : Int) == 32 then
                            (some ⟨AV.bool false, false, []⟩)
                          else
                            need (decide (0 ≤ (i1 : Int)) && decide ((i1 : Int) ≤ ((s2.length : Nat) : Int))) <|
                            (R id_plainLength [AV.bytes ((s2.take (Int.toNat i1)).drop 0), AV.bool b1]).bind fun r134 =>
                            asI .i64 r134.v fun i7 =>
                            bif (i7 : Int) != i1 then
                              (some ⟨AV.bool false, false, []⟩)
                            else
                              (R id_plainValid [AV.str s2, AV.bool true]).bind fun r135 =>
                              asB r135.v fun b171 =>
                              bif b171 then
                                ((R id_plainValid [AV.str s2, AV.bool false]).bind fun r136 =>
                                asB r136.v fun b172 =>
                                bif !b172 then
                                  (some ⟨AV.bool false, false, []⟩)
                                else
                                  rounds [1, 102, 103, 104] [] (evC gl R N law04PlainParts_c0) (Kblock 0 (Kthen gl R N law04PlainParts_c1 (Kret law04PlainParts.rets []))) N ⟨[(1, .imm (AV.bool b1)), (102, .imm (AV.row 1 [AV.str ([] : List UInt8), AV.str ([45, 32, 97] : List UInt8), AV.str ([63, 32, 97] : List UInt8), AV.str ([58, 32, 97] : List UInt8), AV.str ([45] : List UInt8), AV.str ([35, 97] : List UInt8), AV.str ([38, 97] : List UInt8), AV.str ([42, 97] : List UInt8), AV.str ([33, 97] : List UInt8), AV.str ([124] : List UInt8), AV.str ([62] : List UInt8), AV.str ([39, 97, 39] : List UInt8), AV.str ([34, 97, 34] : List UInt8), AV.str ([37, 97] : List UInt8), AV.str ([64, 97] : List UInt8), AV.str ([96, 97] : List UInt8), AV.str ([91, 97] : List UInt8), AV.str ([123, 97] : List UInt8), AV.str ([93] : List UInt8), AV.str ([125] : List UInt8), AV.str ([44, 97] : List UInt8), AV.str ([45, 45, 45, 32, 97] : List UInt8), AV.str ([46, 46, 46] : List UInt8), AV.str ([97, 58, 32, 98] : List UInt8), AV.str ([97, 32, 35, 98] : List UInt8), AV.str ([32, 97] : List UInt8), AV.str ([97, 32] : List UInt8), AV.str ([97, 9, 98] : List UInt8), AV.str ([97, 58] : List UInt8), AV.str ([97, 10, 98] : List UInt8)])), (103, .imm (AV.int .i64 (([AV.str ([] : List UInt8), AV.str ([45, 32, 97] : List UInt8), AV.str ([63, 32, 97] : List UInt8), AV.str ([58, 32, 97] : List UInt8), AV.str ([45] : List UInt8), AV.str ([35, 97] : List UInt8), AV.str ([38, 97] : List UInt8), AV.str ([42, 97] : List UInt8), AV.str ([33, 97] : List UInt8), AV.str ([124] : List UInt8), AV.str ([62] : List UInt8), AV.str ([39, 97, 39] : List UInt8), AV.str ([34, 97, 34] : List UInt8), AV.str ([37, 97] : List UInt8), AV.str ([64, 97] : List UInt8), AV.str ([96, 97] : List UInt8), AV.str ([91, 97] : List UInt8), AV.str ([123, 97] : List UInt8), AV.str ([93] : List UInt8), AV.str ([125] : List UInt8), AV.str ([44, 97] : List UInt8), AV.str ([45, 45, 45, 32, 97] : List UInt8), AV.str ([46, 46, 46] : List UInt8), AV.str ([97, 58, 32, 98] : List UInt8), AV.str ([97, 32, 35, 98] : List UInt8), AV.str ([32, 97] : List UInt8), AV.str ([97, 32] : List UInt8), AV.str ([97, 9, 98] : List UInt8), AV.str ([97, 58] : List UInt8), AV.str ([97, 10, 98] : List UInt8)].length : Nat) : Int))), (104, .imm (AV.int .i64 0))], []⟩)
                              else
                                rounds [1, 102, 103, 104] [] (evC gl R N law04PlainParts_c0) (Kblock 0 (Kthen gl R N law04PlainParts_c1 (Kret law04PlainParts.rets []))) N ⟨[(1, .imm (AV.bool b1)), (102, .imm (AV.row 1 [AV.str ([] : List UInt8), AV.str ([45, 32, 97] : List UInt8), AV.str ([63, 32, 97] : List UInt8), AV.str ([58, 32, 97] : List UInt8), AV.str ([45] : List UInt8), AV.str ([35, 97] : List UInt8), AV.str ([38, 97] : List UInt8), AV.str ([42, 97] : List UInt8), AV.str ([33, 97] : List UInt8), AV.str ([124] : List UInt8), AV.str ([62] : List UInt8), AV.str ([39, 97, 39] : List UInt8), AV.str ([34, 97, 34] : List UInt8), AV.str ([37, 97] : List UInt8), AV.str ([64, 97] : List UInt8), AV.str ([96, 97] : List UInt8), AV.str ([91, 97] : List UInt8), AV.str ([123, 97] : List UInt8), AV.str ([93] : List UInt8), AV.str ([125] : List UInt8), AV.str ([44, 97] : List UInt8), AV.str ([45, 45, 45, 32, 97] : List UInt8), AV.str ([46, 46, 46] : List UInt8), AV.str ([97, 58, 32, 98] : List UInt8), AV.str ([97, 32, 35, 98] : List UInt8), AV.str ([32, 97] : List UInt8), AV.str ([97, 32] : List UInt8), AV.str ([97, 9, 98] : List UInt8), AV.str ([97, 58] : List UInt8), AV.str ([97, 10, 98] : List UInt8)])), (103, .imm (AV.int .i64 (([AV.str ([] : List UInt8), AV.str ([45, 32, 97] : List UInt8), AV.str ([63, 32, 97] : List UInt8), AV.str ([58, 32, 97] : List UInt8), AV.str ([45] : List UInt8), AV.str ([35, 97] : List UInt8), AV.str ([38, 97] : List UInt8), AV.str ([42, 97] : List UInt8), AV.str ([33, 97] : List UInt8), AV.str ([124] : List UInt8), AV.str ([62] : List UInt8), AV.str ([39, 97, 39] : List UInt8), AV.str ([34, 97, 34] : List UInt8), AV.str ([37, 97] : List UInt8), AV.str ([64, 97] : List UInt8), AV.str ([96, 97] : List UInt8), AV.str ([91, 97] : List UInt8), AV.str ([123, 97] : List UInt8), AV.str ([93] : List UInt8), AV.str ([125] : List UInt8), AV.str ([44, 97] : List UInt8), AV.str ([45, 45, 45, 32, 97] : List UInt8), AV.str ([46, 46, 46] : List UInt8), AV.str ([97, 58, 32, 98] : List UInt8), AV.str ([97, 32, 35, 98] : List UInt8), AV.str ([32, 97] : List UInt8), AV.str ([97, 32] : List UInt8), AV.str ([97, 9, 98] : List UInt8), AV.str ([97, 58] : List UInt8), AV.str ([97, 10, 98] : List UInt8)].length : Nat) : Int))), (104, .imm (AV.int .i64 0))], []⟩)
                        else
                          (R id_plainValid [AV.str s2, AV.bool true]).bind fun r149 =>
                          asB r149.v fun b189 =>
                          bif b189 then
                            ((R id_plainValid [AV.str s2, AV.bool false]).bind fun r150 =>
                            asB r150.v fun b190 =>
                            bif !b190 then
                              (some ⟨AV.bool false, false, []⟩)
                            else
                              rounds [1, 102, 103, 104] [] (evC gl R N law04PlainParts_c0) (Kblock 0 (Kthen gl R N law04PlainParts_c1 (Kret law04PlainParts.rets []))) N ⟨[(1, .imm (AV.bool b1)), (102, .imm (AV.row 1 [AV.str ([] : List UInt8), AV.str ([45, 32, 97] : List UInt8), AV.str ([63, 32, 97] : List UInt8), AV.str ([58, 32, 97] : List UInt8), AV.str ([45] : List UInt8), AV.str ([35, 97] : List UInt8), AV.str ([38, 97] : List UInt8), AV.str ([42, 97] : List UInt8), AV.str ([33, 97] : List UInt8), AV.str ([124] : List UInt8), AV.str ([62] : List UInt8), AV.str ([39, 97, 39] : List UInt8), AV.str ([34, 97, 34] : List UInt8), AV.str ([37, 97] : List UInt8), AV.str ([64, 97] : List UInt8), AV.str ([96, 97] : List UInt8), AV.str ([91, 97] : List UInt8), AV.str ([123, 97] : List UInt8), AV.str ([93] : List UInt8), AV.str ([125] : List UInt8), AV.str ([44, 97] : List UInt8), AV.str ([45, 45, 45, 32, 97] : List UInt8), AV.str ([46, 46, 46] : List UInt8), AV.str ([97, 58, 32, 98] : List UInt8), AV.str ([97, 32, 35, 98] : List UInt8), AV.str ([32, 97] : List UInt8), AV.str ([97, 32] : List UInt8), AV.str ([97, 9, 98] : List UInt8), AV.str ([97, 58] : List UInt8), AV.str ([97, 10, 98] : List UInt8)])), (103, .imm (AV.int .i64 (([AV.str ([] : List UInt8), AV.str ([45, 32, 97] : List UInt8), AV.str ([63, 32, 97] : List UInt8), AV.str ([58, 32, 97] : List UInt8), AV.str ([45] : List UInt8), AV.str ([35, 97] : List UInt8), AV.str ([38, 97] : List UInt8), AV.str ([42, 97] : List UInt8), AV.str ([33, 97] : List UInt8), AV.str ([124] : List UInt8), AV.str ([62] : List UInt8), AV.str ([39, 97, 39] : List UInt8), AV.str ([34, 97, 34] : List UInt8), AV.str ([37, 97] : List UInt8), AV.str ([64, 97] : List UInt8), AV.str ([96, 97] : List UInt8), AV.str ([91, 97] : List UInt8), AV.str ([123, 97] : List UInt8), AV.str ([93] : List UInt8), AV.str ([125] : List UInt8), AV.str ([44, 97] : List UInt8), AV.str ([45, 45, 45, 32, 97] : List UInt8), AV.str ([46, 46, 46] : List UInt8), AV.str ([97, 58, 32, 98] : List UInt8), AV.str ([97, 32, 35, 98] : List UInt8), AV.str ([32, 97] : List UInt8), AV.str ([97, 32] : List UInt8), AV.str ([97, 9, 98] : List UInt8), AV.str ([97, 58] : List UInt8), AV.str ([97, 10, 98] : List UInt8)].length : Nat) : Int))), (104, .imm (AV.int .i64 0))], []⟩)
                          else
                            rounds [1, 102, 103, 104] [] (evC gl R N law04PlainParts_c0) (Kblock 0 (Kthen gl R N law04PlainParts_c1 (Kret law04PlainParts.rets []))) N ⟨[(1, .imm (AV.bool b1)), (102, .imm (AV.row 1 [AV.str ([] : List UInt8), AV.str ([45, 32, 97] : List UInt8), AV.str ([63, 32, 97] : List UInt8), AV.str ([58, 32, 97] : List UInt8), AV.str ([45] : List UInt8), AV.str ([35, 97] : List UInt8), AV.str ([38, 97] : List UInt8), AV.str ([42, 97] : List UInt8), AV.str ([33, 97] : List UInt8), AV.str ([124] : List UInt8), AV.str ([62] : List UInt8), AV.str ([39, 97, 39] : List UInt8), AV.str ([34, 97, 34] : List UInt8), AV.str ([37, 97] : List UInt8), AV.str ([64, 97] : List UInt8), AV.str ([96, 97] : List UInt8), AV.str ([91, 97] : List UInt8), AV.str ([123, 97] : List UInt8), AV.str ([93] : List UInt8), AV.str ([125] : List UInt8), AV.str ([44, 97] : List UInt8), AV.str ([45, 45, 45, 32, 97] : List UInt8), AV.str ([46, 46, 46] : List UInt8), AV.str ([97, 58, 32, 98] : List UInt8), AV.str ([97, 32, 35, 98] : List UInt8), AV.str ([32, 97] : List UInt8), AV.str ([97, 32] : List UInt8), AV.str ([97, 9, 98] : List UInt8), AV.str ([97, 58] : List UInt8), AV.str ([97, 10, 98] : List UInt8)])), (103, .imm (AV.int .i64 (([AV.str ([] : List UInt8), AV.str ([45, 32, 97] : List UInt8), AV.str ([63, 32, 97] : List UInt8), AV.str ([58, 32, 97] : List UInt8), AV.str ([45] : List UInt8), AV.str ([35, 97] : List UInt8), AV.str ([38, 97] : List UInt8), AV.str ([42, 97] : List UInt8), AV.str ([33, 97] : List UInt8), AV.str ([124] : List UInt8), AV.str ([62] : List UInt8), AV.str ([39, 97, 39] : List UInt8), AV.str ([34, 97, 34] : List UInt8), AV.str ([37, 97] : List UInt8), AV.str ([64, 97] : List UInt8), AV.str ([96, 97] : List UInt8), AV.str ([91, 97] : List UInt8), AV.str ([123, 97] : List UInt8), AV.str ([93] : List UInt8), AV.str ([125] : List UInt8), AV.str ([44, 97] : List UInt8), AV.str ([45, 45, 45, 32, 97] : List UInt8), AV.str ([46, 46, 46] : List UInt8), AV.str ([97, 58, 32, 98] : List UInt8), AV.str ([97, 32, 35, 98] : List UInt8), AV.str ([32, 97] : List UInt8), AV.str ([97, 32] : List UInt8), AV.str ([97, 9, 98] : List UInt8), AV.str ([97, 58] : List UInt8), AV.str ([97, 10, 98] : List UInt8)].length : Nat) : Int))), (104, .imm (AV.int .i64 0))], []⟩)
              else
                bif decide ((i1 : Int) > 0) then
                  (need (decide (0 ≤ (IntKind.i64.wrap (i1 - 1) : Int))) <|
                  (s2[Int.toNat (IntKind.i64.wrap (i1 - 1))]?).bind fun c10 =>
                  bif decide ((i1 : Int) > 0) then
                    (need (decide (0 ≤ (IntKind.i64.wrap (i1 - 1) : Int))) <|
                    (s2[Int.toNat (IntKind.i64.wrap (i1 - 1))]?).bind fun c11 =>
                    bif ((c11.toNat : Int) : Int) == 32 then
                      (some ⟨AV.bool false, false, []⟩)
                    else
                      bif !(((c10.toNat : Int) : Int) == 58) then
                        (need (decide (0 ≤ (i1 : Int)) && decide ((i1 : Int) ≤ ((s2.length : Nat) : Int))) <|
                        (R id_plainLength [AV.bytes ((s2.take (Int.toNat i1)).drop 0), AV.bool b1]).bind fun r163 =>
                        asI .i64 r163.v fun i8 =>
                        bif (i8 : Int) != i1 then
                          (some ⟨AV.bool false, false, []⟩)
                        else
                          (R id_plainValid [AV.str s2, AV.bool true]).bind fun r164 =>
                          asB r164.v fun b207 =>
                          bif b207 then
                            ((R id_plainValid [AV.str s2, AV.bool false]).bind fun r165 =>
                            asB r165.v fun b208 =>
                            bif !b208 then
                              (some ⟨AV.bool false, false, []⟩)
                            else
                              rounds [1, 102, 103, 104] [] (evC gl R N law04PlainParts_c0) (Kblock 0 (Kthen gl R N law04PlainParts_c1 (Kret law04PlainParts.rets []))) N ⟨[(1, .imm (AV.bool b1)), (102, .imm (AV.row 1 [AV.str ([] : List UInt8), AV.str ([45, 32, 97] : List UInt8), AV.str ([63, 32, 97] : List UInt8), AV.str ([58, 32, 97] : List UInt8), AV.str ([45] : List UInt8), AV.str ([35, 97] : List UInt8), AV.str ([38, 97] : List UInt8), AV.str ([42, 97] : List UInt8), AV.str ([33, 97] : List UInt8), AV.str ([124] : List UInt8), AV.str ([62] : List UInt8), AV.str ([39, 97, 39] : List UInt8), AV.str ([34, 97, 34] : List UInt8), AV.str ([37, 97] : List UInt8), AV.str ([64, 97] : List UInt8), AV.str ([96, 97] : List UInt8), AV.str ([91, 97] : List UInt8), AV.str ([123, 97] : List UInt8), AV.str ([93] : List UInt8), AV.str ([125] : List UInt8), AV.str ([44, 97] : List UInt8), AV.str ([45, 45, 45, 32, 97] : List UInt8), AV.str ([46, 46, 46] : List UInt8), AV.str ([97, 58, 32, 98] : List UInt8), AV.str ([97, 32, 35, 98] : List UInt8), AV.str ([32, 97] : List UInt8), AV.str ([97, 32] : List UInt8), AV.str ([97, 9, 98] : List UInt8), AV.str ([97, 58] : List UInt8), AV.str ([97, 10, 98] : List UInt8)])), (103, .imm (AV.int .i64 (([AV.str ([] : List UInt8), AV.str ([45, 32, 97] : List UInt8), AV.str ([63, 32, 97] : List UInt8), AV.str ([58, 32, 97] : List UInt8), AV.str ([45] : List UInt8), AV.str ([35, 97] : List UInt8), AV.str ([38, 97] : List UInt8), AV.str ([42, 97] : List UInt8), AV.str ([33, 97] : List UInt8), AV.str ([124] : List UInt8), AV.str ([62] : List UInt8), AV.str ([39, 97, 39] : List UInt8), AV.str ([34, 97, 34] : List UInt8), AV.str ([37, 97] : List UInt8), AV.str ([64, 97] : List UInt8), AV.str ([96, 97] : List UInt8), AV.str ([91, 97] : List UInt8), AV.str ([123, 97] : List UInt8), AV.str ([93] : List UInt8), AV.str ([125] : List UInt8), AV.str ([44, 97] : List UInt8), AV.str ([45, 45, 45, 32, 97] : List UInt8), AV.str ([46, 46, 46] : List UInt8), AV.str ([97, 58, 32, 98] : List UInt8), AV.str ([97, 32, 35, 98] : List UInt8), AV.str ([32, 97] : List UInt8), AV.str ([97, 32] : List UInt8), AV.str ([97, 9, 98] : List UInt8), AV.str ([97, 58] : List UInt8), AV.str ([97, 10, 98] : List UInt8)].length : Nat) : Int))), (104, .imm (AV.int .i64 0))], []⟩)
                          else
                            rounds [1, 102, 103, 104] [] (evC gl R N law04PlainParts_c0) (Kblock 0 (Kthen gl R N law04PlainParts_c1 (Kret law04PlainParts.rets []))) N ⟨[(1, .imm (AV.bool b1)), (102, .imm (AV.row 1 [AV.str ([] : List UInt8), AV.str ([45, 32, 97] : List UInt8), AV.str ([63, 32, 97] : List UInt8), AV.str ([58, 32, 97] : List UInt8), AV.str ([45] : List UInt8), AV.str ([35, 97] : List UInt8), AV.str ([38, 97] : List UInt8), AV.str ([42, 97] : List UInt8), AV.str ([33, 97] : List UInt8), AV.str ([124] : List UInt8), AV.str ([62] : List UInt8), AV.str ([39, 97, 39] : List UInt8), AV.str ([34, 97, 34] : List UInt8), AV.str ([37, 97] : List UInt8), AV.str ([64, 97] : List UInt8), AV.str ([96, 97] : List UInt8), AV.str ([91, 97] : List UInt8), AV.str ([123, 97] : List UInt8), AV.str ([93] : List UInt8), AV.str ([125] : List UInt8), AV.str ([44, 97] : List UInt8), AV.str ([45, 45, 45, 32, 97] : List UInt8), AV.str ([46, 46, 46] : List UInt8), AV.str ([97, 58, 32, 98] : List UInt8), AV.str ([97, 32, 35, 98] : List UInt8), AV.str ([32, 97] : List UInt8), AV.str ([97, 32] : List UInt8), AV.str ([97, 9, 98] : List UInt8), AV.str ([97, 58] : List UInt8), AV.str ([97, 10, 98] : List UInt8)])), (103, .imm (AV.int .i64 (([AV.str ([] : List UInt8), AV.str ([45, 32, 97] : List UInt8), AV.str ([63, 32, 97] : List UInt8), AV.str ([58, 32, 97] : List UInt8), AV.str ([45] : List UInt8), AV.str ([35, 97] : List UInt8), AV.str ([38, 97] : List UInt8), AV.str ([42, 97] : List UInt8), AV.str ([33, 97] : List UInt8), AV.str ([124] : List UInt8), AV.str ([62] : List UInt8), AV.str ([39, 97, 39] : List UInt8), AV.str ([34, 97, 34] : List UInt8), AV.str ([37, 97] : List UInt8), AV.str ([64, 97] : List UInt8), AV.str ([96, 97] : List UInt8), AV.str ([91, 97] : List UInt8), AV.str ([123, 97] : List UInt8), AV.str ([93] : List UInt8), AV.str ([125] : List UInt8), AV.str ([44, 97] : List UInt8), AV.str ([45, 45, 45, 32, 97] : List UInt8), AV.str ([46, 46, 46] : List UInt8), AV.str ([97, 58, 32, 98] : List UInt8), AV.str ([97, 32, 35, 98] : List UInt8), AV.str ([32, 97] : List UInt8), AV.str ([97, 32] : List UInt8), AV.str ([97, 9, 98] : List UInt8), AV.str ([97, 58] : List UInt8), AV.str ([97, 10, 98] : List UInt8)].length : Nat) : Int))), (104, .imm (AV.int .i64 0))], []⟩)
                      else
                        (R id_plainValid [AV.str s2, AV.bool true]).bind fun r178 =>
                        asB r178.v fun b225 =>
                        bif b225 then
                          ((R id_plainValid [AV.str s2, AV.bool false]).bind fun r179 =>
                          asB r179.v fun b226 =>
                          bif !b226 then
                            (some ⟨AV.bool false, false, []⟩)
                          else
                            rounds [1, 102, 103, 104] [] (evC gl R N law04PlainParts_c0) (Kblock 0 (Kthen gl R N law04PlainParts_c1 (Kret law04PlainParts.rets []))) N ⟨[(1, .imm (AV.bool b1)), (102, .imm (AV.row 1 [AV.str ([] : List UInt8), AV.str ([45, 32, 97] : List UInt8), AV.str ([63, 32, 97] : List UInt8), AV.str ([58, 32, 97] : List UInt8), AV.str ([45] : List UInt8), AV.str ([35, 97] : List UInt8), AV.str ([38, 97] : List UInt8), AV.str ([42, 97] : List UInt8), AV.str ([33, 97] : List UInt8), AV.str ([124] : List UInt8), AV.str ([62] : List UInt8), AV.str ([39, 97, 39] : List UInt8), AV.str ([34, 97, 34] : List UInt8), AV.str ([37, 97] : List UInt8), AV.str ([64, 97] : List UInt8), AV.str ([96, 97] : List UInt8), AV.str ([91, 97] : List UInt8), AV.str ([123, 97] : List UInt8), AV.str ([93] : List UInt8), AV.str ([125] : List UInt8), AV.str ([44, 97] : List UInt8), AV.str ([45, 45, 45, 32, 97] : List UInt8), AV.str ([46, 46, 46] : List UInt8), AV.str ([97, 58, 32, 98] : List UInt8), AV.str ([97, 32, 35, 98] : List UInt8), AV.str ([32, 97] : List UInt8), AV.str ([97, 32] : List UInt8), AV.str ([97, 9, 98] : List UInt8), AV.str ([97, 58] : List UInt8), AV.str ([97, 10, 98] : List UInt8)])), (103, .imm (AV.int .i64 (([AV.str ([] : List UInt8), AV.str ([45, 32, 97] : List UInt8), AV.str ([63, 32, 97] : List UInt8), AV.str ([58, 32, 97] : List UInt8), AV.str ([45] : List UInt8), AV.str ([35, 97] : List UInt8), AV.str ([38, 97] : List UInt8), AV.str ([42, 97] : List UInt8), AV.str ([33, 97] : List UInt8), AV.str ([124] : List UInt8), AV.str ([62] : List UInt8), AV.str ([39, 97, 39] : List UInt8), AV.str ([34, 97, 34] : List UInt8), AV.str ([37, 97] : List UInt8), AV.str ([64, 97] : List UInt8), AV.str ([96, 97] : List UInt8), AV.str ([91, 97] : List UInt8), AV.str ([123, 97] : List UInt8), AV.str ([93] : List UInt8), AV.str ([125] : List UInt8), AV.str ([44, 97] : List UInt8), AV.str ([45, 45, 45, 32, 97] : List UInt8), AV.str ([46, 46, 46] : List UInt8), AV.str ([97, 58, 32, 98] : List UInt8), AV.str ([97, 32, 35, 98] : List UInt8), AV.str ([32, 97] : List UInt8), AV.str ([97, 32] : List UInt8), AV.str ([97, 9, 98] : List UInt8), AV.str ([97, 58] : List UInt8), AV.str ([97, 10, 98] : List UInt8)].length : Nat) : Int))), (104, .imm (AV.int .i64 0))], []⟩)
                        else
                          rounds [1, 102, 103, 104] [] (evC gl R N law04PlainParts_c0) (Kblock 0 (Kthen gl R N law04PlainParts_c1 (Kret law04PlainParts.rets []))) N ⟨[(1, .imm (AV.bool b1)), (102, .imm (AV.row 1 [AV.str ([] : List UInt8), AV.str ([45, 32, 97] : List UInt8), AV.str ([63, 32, 97] : List UInt8), AV.str ([58, 32, 97] : List UInt8), AV.str ([45] : List UInt8), AV.str ([35, 97] : List UInt8), AV.str ([38, 97] : List UInt8), AV.str ([42, 97] : List UInt8), AV.str ([33, 97] : List UInt8), AV.str ([124] : List UInt8), AV.str ([62] : List UInt8), AV.str ([39, 97, 39] : List UInt8), AV.str ([34, 97, 34] : List UInt8), AV.str ([37, 97] : List UInt8), AV.str ([64, 97] : List UInt8), AV.str ([96, 97] : List UInt8), AV.str ([91, 97] : List UInt8), AV.str ([123, 97] : List UInt8), AV.str ([93] : List UInt8), AV.str ([125] : List UInt8), AV.str ([44, 97] : List UInt8), AV.str ([45, 45, 45, 32, 97] : List UInt8), AV.str ([46, 46, 46] : List UInt8), AV.str ([97, 58, 32, 98] : List UInt8), AV.str ([97, 32, 35, 98] : List UInt8), AV.str ([32, 97] : List UInt8), AV.str ([97, 32] : List UInt8), AV.str ([97, 9, 98] : List UInt8), AV.str ([97, 58] : List UInt8), AV.str ([97, 10, 98] : List UInt8)])), (103, .imm (AV.int .i64 (([AV.str ([] : List UInt8), AV.str ([45, 32, 97] : List UInt8), AV.str ([63, 32, 97] : List UInt8), AV.str ([58, 32, 97] : List UInt8), AV.str ([45] : List UInt8), AV.str ([35, 97] : List UInt8), AV.str ([38, 97] : List UInt8), AV.str ([42, 97] : List UInt8), AV.str ([33, 97] : List UInt8), AV.str ([124] : List UInt8), AV.str ([62] : List UInt8), AV.str ([39, 97, 39] : List UInt8), AV.str ([34, 97, 34] : List UInt8), AV.str ([37, 97] : List UInt8), AV.str ([64, 97] : List UInt8), AV.str ([96, 97] : List UInt8), AV.str ([91, 97] : List UInt8), AV.str ([123, 97] : List UInt8), AV.str ([93] : List UInt8), AV.str ([125] : List UInt8), AV.str ([44, 97] : List UInt8), AV.str ([45, 45, 45, 32, 97] : List UInt8), AV.str ([46, 46, 46] : List UInt8), AV.str ([97, 58, 32, 98] : List UInt8), AV.str ([97, 32, 35, 98] : List UInt8), AV.str ([32, 97] : List UInt8), AV.str ([97, 32] : List UInt8), AV.str ([97, 9, 98] : List UInt8), AV.str ([97, 58] : List UInt8), AV.str ([97, 10, 98] : List UInt8)].length : Nat) : Int))), (104, .imm (AV.int .i64 0))], []⟩)
                  else
                    (R id_plainValid [AV.str s2, AV.bool true]).bind fun r192 =>
                    asB r192.v fun b243 =>
                    bif b243 then
                      ((R id_plainValid [AV.str s2, AV.bool false]).bind fun r193 =>
                      asB r193.v fun b244 =>
                      bif !b244 then
                        (some ⟨AV.bool false, false, []⟩)
                      else
                        rounds [1, 102, 103, 104] [] (evC gl R N law04PlainParts_c0) (Kblock 0 (Kthen gl R N law04PlainParts_c1 (Kret law04PlainParts.rets []))) N ⟨[(1, .imm (AV.bool b1)), (102, .imm (AV.row 1 [AV.str ([] : List UInt8), AV.str ([45, 32, 97] : List UInt8), AV.str ([63, 32, 97] : List UInt8), AV.str ([58, 32, 97] : List UInt8), AV.str ([45] : List UInt8), AV.str ([35, 97] : List UInt8), AV.str ([38, 97] : List UInt8), AV.str ([42, 97] : List UInt8), AV.str ([33, 97] : List UInt8), AV.str ([124] : List UInt8), AV.str ([62] : List UInt8), AV.str ([39, 97, 39] : List UInt8), AV.str ([34, 97, 34] : List UInt8), AV.str ([37, 97] : List UInt8), AV.str ([64, 97] : List UInt8), AV.str ([96, 97] : List UInt8), AV.str ([91, 97] : List UInt8), AV.str ([123, 97] : List UInt8), AV.str ([93] : List UInt8), AV.str ([125] : List UInt8), AV.str ([44, 97] : List UInt8), AV.str ([45, 45, 45, 32, 97] : List UInt8), AV.str ([46, 46, 46] : List UInt8), AV.str ([97, 58, 32, 98] : List UInt8), AV.str ([97, 32, 35, 98] : List UInt8), AV.str ([32, 97] : List UInt8), AV.str ([97, 32] : List UInt8), AV.str ([97, 9, 98] : List UInt8), AV.str ([97, 58] : List UInt8), AV.str ([97, 10, 98] : List UInt8)])), (103, .imm (AV.int .i64 (([AV.str ([] : List UInt8), AV.str ([45, 32, 97] : List UInt8), AV.str ([63, 32, 97] : List UInt8), AV.str ([58, 32, 97] : List UInt8), AV.str ([45] : List UInt8), AV.str ([35, 97] : List UInt8), AV.str ([38, 97] : List UInt8), AV.str ([42, 97] : List UInt8), AV.str ([33, 97] : List UInt8), AV.str ([124] : List UInt8), AV.str ([62] : List UInt8), AV.str ([39, 97, 39] : List UInt8), AV.str ([34, 97, 34] : List UInt8), AV.str ([37, 97] : List UInt8), AV.str ([64, 97] : List UInt8), AV.str ([96, 97] : List UInt8), AV.str ([91, 97] : List UInt8), AV.str ([123, 97] : List UInt8), AV.str ([93] : List UInt8), AV.str ([125] : List UInt8), AV.str ([44, 97] : List UInt8), AV.str ([45, 45, 45, 32, 97] : List UInt8), AV.str ([46, 46, 46] : List UInt8), AV.str ([97, 58, 32, 98] : List UInt8), AV.str ([97, 32, 35, 98] : List UInt8), AV.str ([32, 97] : List UInt8), AV.str ([97, 32] : List UInt8), AV.str ([97, 9, 98] : List UInt8), AV.str ([97, 58] : List UInt8), AV.str ([97, 10, 98] : List UInt8)].length : Nat) : Int))), (104, .imm (AV.int .i64 0))], []⟩)
                    else
                      rounds [1, 102, 103, 104] [] (evC gl R N law04PlainParts_c0) (Kblock 0 (Kthen gl R N law04PlainParts_c1 (Kret law04PlainParts.rets []))) N ⟨[(1, .imm (AV.bool b1)), (102, .imm (AV.row 1 [AV.str ([] : List UInt8), AV.str ([45, 32, 97] : List UInt8), AV.str ([63, 32, 97] : List UInt8), AV.str ([58, 32, 97] : List UInt8), AV.str ([45] : List UInt8), AV.str ([35, 97] : List UInt8), AV.str ([38, 97] : List UInt8), AV.str ([42, 97] : List UInt8), AV.str ([33, 97] : List UInt8), AV.str ([124] : List UInt8), AV.str ([62] : List UInt8), AV.str ([39, 97, 39] : List UInt8), AV.str ([34, 97, 34] : List UInt8), AV.str ([37, 97] : List UInt8), AV.str ([64, 97] : List UInt8), AV.str ([96, 97] : List UInt8), AV.str ([91, 97] : List UInt8), AV.str ([123, 97] : List UInt8), AV.str ([93] : List UInt8), AV.str ([125] : List UInt8), AV.str ([44, 97] : List UInt8), AV.str ([45, 45, 45, 32, 97] : List UInt8), AV.str ([46, 46, 46] : List UInt8), AV.str ([97, 58, 32, 98] : List UInt8), AV.str ([97, 32, 35, 98] : List UInt8), AV.str ([32, 97] : List UInt8), AV.str ([97, 32] : List UInt8), AV.str ([97, 9, 98] : List UInt8), AV.str ([97, 58] : List UInt8), AV.str ([97, 10, 98] : List UInt8)])), (103, .imm (AV.int .i64 (([AV.str ([] : List UInt8), AV.str ([45, 32, 97] : List UInt8), AV.str ([63, 32, 97] : List UInt8), AV.str ([58, 32, 97] : List UInt8), AV.str ([45] : List UInt8), AV.str ([35, 97] : List UInt8), AV.str ([38, 97] : List UInt8), AV.str ([42, 97] : List UInt8), AV.str ([33, 97] : List UInt8), AV.str ([124] : List UInt8), AV.str ([62] : List UInt8), AV.str ([39, 97, 39] : List UInt8), AV.str ([34, 97, 34] : List UInt8), AV.str ([37, 97] : List UInt8), AV.str ([64, 97] : List UInt8), AV.str ([96, 97] : List UInt8), AV.str ([91, 97] : List UInt8), AV.str ([123, 97] : List UInt8), AV.str ([93] : List UInt8), AV.str ([125] : List UInt8), AV.str ([44, 97] : List UInt8), AV.str ([45, 45, 45, 32, 97] : List UInt8), AV.str ([46, 46, 46] : List UInt8), AV.str ([97, 58, 32, 98] : List UInt8), AV.str ([97, 32, 35, 98] : List UInt8), AV.str ([32, 97] : List UInt8), AV.str ([97, 32] : List UInt8), AV.str ([97, 9, 98] : List UInt8), AV.str ([97, 58] : List UInt8), AV.str ([97, 10, 98] : List UInt8)].length : Nat) : Int))), (104, .imm (AV.int .i64 0))], []⟩)
                else
                  bif decide ((i1 : Int) > 0) then
                    (need (decide (0 ≤ (IntKind.i64.wrap (i1 - 1) : Int))) <|
                    (s2[Int.toNat (IntKind.i64.wrap (i1 - 1))]?).bind fun c12 =>
                    bif ((c12.toNat : Int) : Int) == 32 then
                      (some ⟨AV.bool false, false, []⟩)
                    else
                      need (decide (0 ≤ (i1 : Int)) && decide ((i1 : Int) ≤ ((s2.length : Nat) : Int))) <|
                      (R id_plainLength [AV.bytes ((s2.take (Int.toNat i1)).drop 0), AV.bool b1]).bind fun r206 =>
                      asI .i64 r206.v fun i9 =>
                      bif (i9 : Int) != i1 then
                        (some ⟨AV.bool false, false, []⟩)
                      else
                        (R id_plainValid [AV.str s2, AV.bool true]).bind fun r207 =>
                        asB r207.v fun b261 =>
                        bif b261 then
                          ((R id_plainValid [AV.str s2, AV.bool false]).bind fun r208 =>
                          asB r208.v fun b262 =>
                          bif !b262 then
                            (some ⟨AV.bool false, false, []⟩)
                          else
                            rounds [1, 102, 103, 104] [] (evC gl R N law04PlainParts_c0) (Kblock 0 (Kthen gl R N law04PlainParts_c1 (Kret law04PlainParts.rets []))) N ⟨[(1, .imm (AV.bool b1)), (102, .imm (AV.row 1 [AV.str ([] : List UInt8), AV.str ([45, 32, 97] : List UInt8), AV.str ([63, 32, 97] : List UInt8), AV.str ([58, 32, 97] : List UInt8), AV.str ([45] : List UInt8), AV.str ([35, 97] : List UInt8), AV.str ([38, 97] : List UInt8), AV.str ([42, 97] : List UInt8), AV.str ([33, 97] : List UInt8), AV.str ([124] : List UInt8), AV.str ([62] : List UInt8), AV.str ([39, 97, 39] : List UInt8), AV.str ([34, 97, 34] : List UInt8), AV.str ([37, 97] : List UInt8), AV.str ([64, 97] : List UInt8), AV.str ([96, 97] : List UInt8), AV.str ([91, 97] : List UInt8), AV.str ([123, 97] : List UInt8), AV.str ([93] : List UInt8), AV.str ([125] : List UInt8), AV.str ([44, 97] : List UInt8), AV.str ([45, 45, 45, 32, 97] : List UInt8), AV.str ([46, 46, 46] : List UInt8), AV.str ([97, 58, 32, 98] : List UInt8), AV.str ([97, 32, 35, 98] : List UInt8), AV.str ([32, 97] : List UInt8), AV.str ([97, 32] : List UInt8), AV.str ([97, 9, 98] : List UInt8), AV.str ([97, 58] : List UInt8), AV.str ([97, 10, 98] : List UInt8)])), (103, .imm (AV.int .i64 (([AV.str ([] : List UInt8), AV.str ([45, 32, 97] : List UInt8), AV.str ([63, 32, 97] : List UInt8), AV.str ([58, 32, 97] : List UInt8), AV.str ([45] : List UInt8), AV.str ([35, 97] : List UInt8), AV.str ([38, 97] : List UInt8), AV.str ([42, 97] : List UInt8), AV.str ([33, 97] : List UInt8), AV.str ([124] : List UInt8), AV.str ([62] : List UInt8), AV.str ([39, 97, 39] : List UInt8), AV.str ([34, 97, 34] : List UInt8), AV.str ([37, 97] : List UInt8), AV.str ([64, 97] : List UInt8), AV.str ([96, 97] : List UInt8), AV.str ([91, 97] : List UInt8), AV.str ([123, 97] : List UInt8), AV.str ([93] : List UInt8), AV.str ([125] : List UInt8), AV.str ([44, 97] : List UInt8), AV.str ([45, 45, 45, 32, 97] : List UInt8), AV.str ([46, 46, 46] : List UInt8), AV.str ([97, 58, 32, 98] : List UInt8), AV.str ([97, 32, 35, 98] : List UInt8), AV.str ([32, 97] : List UInt8), AV.str ([97, 32] : List UInt8), AV.str ([97, 9, 98] : List UInt8), AV.str ([97, 58] : List UInt8), AV.str ([97, 10, 98] : List UInt8)].length : Nat) : Int))), (104, .imm (AV.int .i64 0))], []⟩)
                        else
                          rounds [1, 102, 103, 104] [] (evC gl R N law04PlainParts_c0) (Kblock 0 (Kthen gl R N law04PlainParts_c1 (Kret law04PlainParts.rets []))) N ⟨[(1, .imm (AV.bool b1)), (102, .imm (AV.row 1 [AV.str ([] : List UInt8), AV.str ([45, 32, 97] : List UInt8), AV.str ([63, 32, 97] : List UInt8), AV.str ([58, 32, 97] : List UInt8), AV.str ([45] : List UInt8), AV.str ([35, 97] : List UInt8), AV.str ([38, 97] : List UInt8), AV.str ([42, 97] : List UInt8), AV.str ([33, 97] : List UInt8), AV.str ([124] : List UInt8), AV.str ([62] : List UInt8), AV.str ([39, 97, 39] : List UInt8), AV.str ([34, 97, 34] : List UInt8), AV.str ([37, 97] : List UInt8), AV.str ([64, 97] : List UInt8), AV.str ([96, 97] : List UInt8), AV.str ([91, 97] : List UInt8), AV.str ([123, 97] : List UInt8), AV.str ([93] : List UInt8), AV.str ([125] : List UInt8), AV.str ([44, 97] : List UInt8), AV.str ([45, 45, 45, 32, 97] : List UInt8), AV.str ([46, 46, 46] : List UInt8), AV.str ([97, 58, 32, 98] : List UInt8), AV.str ([97, 32, 35, 98] : List UInt8), AV.str ([32, 97] : List UInt8), AV.str ([97, 32] : List UInt8), AV.str ([97, 9, 98] : List UInt8), AV.str ([97, 58] : List UInt8), AV.str ([97, 10, 98] : List UInt8)])), (103, .imm (AV.int .i64 (([AV.str ([] : List UInt8), AV.str ([45, 32, 97] : List UInt8), AV.str ([63, 32, 97] : List UInt8), AV.str ([58, 32, 97] : List UInt8), AV.str ([45] : List UInt8), AV.str ([35, 97] : List UInt8), AV.str ([38, 97] : List UInt8), AV.str ([42, 97] : List UInt8), AV.str ([33, 97] : List UInt8), AV.str ([124] : List UInt8), AV.str ([62] : List UInt8), AV.str ([39, 97, 39] : List UInt8), AV.str ([34, 97, 34] : List UInt8), AV.str ([37, 97] : List UInt8), AV.str ([64, 97] : List UInt8), AV.str ([96, 97] : List UInt8), AV.str ([91, 97] : List UInt8), AV.str ([123, 97] : List UInt8), AV.str ([93] : List UInt8), AV.str ([125] : List UInt8), AV.str ([44, 97] : List UInt8), AV.str ([45, 45, 45, 32, 97] : List UInt8), AV.str ([46, 46, 46] : List UInt8), AV.str ([97, 58, 32, 98] : List UInt8), AV.str ([97, 32, 35, 98] : List UInt8), AV.str ([32, 97] : List UInt8), AV.str ([97, 32] : List UInt8), AV.str ([97, 9, 98] : List UInt8), AV.str ([97, 58] : List UInt8), AV.str ([97, 10, 98] : List UInt8)].length : Nat) : Int))), (104, .imm (AV.int .i64 0))], []⟩)
                  else
                    (R id_plainValid [AV.str s2, AV.bool true]).bind fun r221 =>
                    asB r221.v fun b279 =>
                    bif b279 then
                      ((R id_plainValid [AV.str s2, AV.bool false]).bind fun r222 =>
                      asB r222.v fun b280 =>
                      bif !b280 then
                        (some ⟨AV.bool false, false, []⟩)
                      else
                        rounds [1, 102, 103, 104] [] (evC gl R N law04PlainParts_c0) (Kblock 0 (Kthen gl R N law04PlainParts_c1 (Kret law04PlainParts.rets []))) N ⟨[(1, .imm (AV.bool b1)), (102, .imm (AV.row 1 [AV.str ([] : List UInt8), AV.str ([45, 32, 97] : List UInt8), AV.str ([63, 32, 97] : List UInt8), AV.str ([58, 32, 97] : List UInt8), AV.str ([45] : List UInt8), AV.str ([35, 97] : List UInt8), AV.str ([38, 97] : List UInt8), AV.str ([42, 97] : List UInt8), AV.str ([33, 97] : List UInt8), AV.str ([124] : List UInt8), AV.str ([62] : List UInt8), AV.str ([39, 97, 39] : List UInt8), AV.str ([34, 97, 34] : List UInt8), AV.str ([37, 97] : List UInt8), AV.str ([64, 97] : List UInt8), AV.str ([96, 97] : List UInt8), AV.str ([91, 97] : List UInt8), AV.str ([123, 97] : List UInt8), AV.str ([93] : List UInt8), AV.str ([125] : List UInt8), AV.str ([44, 97] : List UInt8), AV.str ([45, 45, 45, 32, 97] : List UInt8), AV.str ([46, 46, 46] : List UInt8), AV.str ([97, 58, 32, 98] : List UInt8), AV.str ([97, 32, 35, 98] : List UInt8), AV.str ([32, 97] : List UInt8), AV.str ([97, 32] : List UInt8), AV.str ([97, 9, 98] : List UInt8), AV.str ([97, 58] : List UInt8), AV.str ([97, 10, 98] : List UInt8)])), (103, .imm (AV.int .i64 (([AV.str ([] : List UInt8), AV.str ([45, 32, 97] : List UInt8), AV.str ([63, 32, 97] : List UInt8), AV.str ([58, 32, 97] : List UInt8), AV.str ([45] : List UInt8), AV.str ([35, 97] : List UInt8), AV.str ([38, 97] : List UInt8), AV.str ([42, 97] : List UInt8), AV.str ([33, 97] : List UInt8), AV.str ([124] : List UInt8), AV.str ([62] : List UInt8), AV.str ([39, 97, 39] : List UInt8), AV.str ([34, 97, 34] : List UInt8), AV.str ([37, 97] : List UInt8), AV.str ([64, 97] : List UInt8), AV.str ([96, 97] : List UInt8), AV.str ([91, 97] : List UInt8), AV.str ([123, 97] : List UInt8), AV.str ([93] : List UInt8), AV.str ([125] : List UInt8), AV.str ([44, 97] : List UInt8), AV.str ([45, 45, 45, 32, 97] : List UInt8), AV.str ([46, 46, 46] : List UInt8), AV.str ([97, 58, 32, 98] : List UInt8), AV.str ([97, 32, 35, 98] : List UInt8), AV.str ([32, 97] : List UInt8), AV.str ([97, 32] : List UInt8), AV.str ([97, 9, 98] : List UInt8), AV.str ([97, 58] : List UInt8), AV.str ([97, 10, 98] : List UInt8)].length : Nat) : Int))), (104, .imm (AV.int .i64 0))], []⟩)
                    else
                      rounds [1, 102, 103, 104] [] (evC gl R N law04PlainParts_c0) (Kblock 0 (Kthen gl R N law04PlainParts_c1 (Kret law04PlainParts.rets []))) N ⟨[(1, .imm (AV.bool b1)), (102, .imm (AV.row 1 [AV.str ([] : List UInt8), AV.str ([45, 32, 97] : List UInt8), AV.str ([63, 32, 97] : List UInt8), AV.str ([58, 32, 97] : List UInt8), AV.str ([45] : List UInt8), AV.str ([35, 97] : List UInt8), AV.str ([38, 97] : List UInt8), AV.str ([42, 97] : List UInt8), AV.str ([33, 97] : List UInt8), AV.str ([124] : List UInt8), AV.str ([62] : List UInt8), AV.str ([39, 97, 39] : List UInt8), AV.str ([34, 97, 34] : List UInt8), AV.str ([37, 97] : List UInt8), AV.str ([64, 97] : List UInt8), AV.str ([96, 97] : List UInt8), AV.str ([91, 97] : List UInt8), AV.str ([123, 97] : List UInt8), AV.str ([93] : List UInt8), AV.str ([125] : List UInt8), AV.str ([44, 97] : List UInt8), AV.str ([45, 45, 45, 32, 97] : List UInt8), AV.str ([46, 46, 46] : List UInt8), AV.str ([97, 58, 32, 98] : List UInt8), AV.str ([97, 32, 35, 98] : List UInt8), AV.str ([32, 97] : List UInt8), AV.str ([97, 32] : List UInt8), AV.str ([97, 9, 98] : List UInt8), AV.str ([97, 58] : List UInt8), AV.str ([97, 10, 98] : List UInt8)])), (103, .imm (AV.int .i64 (([AV.str ([] : List UInt8), AV.str ([45, 32, 97] : List UInt8), AV.str ([63, 32, 97] : List UInt8), AV.str ([58, 32, 97] : List UInt8), AV.str ([45] : List UInt8), AV.str ([35, 97] : List UInt8), AV.str ([38, 97] : List UInt8), AV.str ([42, 97] : List UInt8), AV.str ([33, 97] : List UInt8), AV.str ([124] : List UInt8), AV.str ([62] : List UInt8), AV.str ([39, 97, 39] : List UInt8), AV.str ([34, 97, 34] : List UInt8), AV.str ([37, 97] : List UInt8), AV.str ([64, 97] : List UInt8), AV.str ([96, 97] : List UInt8), AV.str ([91, 97] : List UInt8), AV.str ([123, 97] : List UInt8), AV.str ([93] : List UInt8), AV.str ([125] : List UInt8), AV.str ([44, 97] : List UInt8), AV.str ([45, 45, 45, 32, 97] : List UInt8), AV.str ([46, 46, 46] : List UInt8), AV.str ([97, 58, 32, 98] : List UInt8), AV.str ([97, 32, 35, 98] : List UInt8), AV.str ([32, 97] : List UInt8), AV.str ([97, 32] : List UInt8), AV.str ([97, 9, 98] : List UInt8), AV.str ([97, 58] : List UInt8), AV.str ([97, 10, 98] : List UInt8)].length : Nat) : Int))), (104, .imm (AV.int .i64 0))], []⟩) (by kernel_rfl) ?_
  simp (config := { maxSteps := 100000000 }) only [law04PlainParts_L1_eq]
  kernel_rfl
theorem law04PlainParts_fit : fitF Tryd.prog law04PlainParts Tryd.f6 = true := by
  kernel_rfl
end Go.Proofs.YtojfiifjjgfpaaaDoor.Vf
