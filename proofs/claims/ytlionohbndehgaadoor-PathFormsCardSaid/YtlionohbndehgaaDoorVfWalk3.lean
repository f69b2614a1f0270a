/- The code of the functions that the statements reach, as our evaluator takes it, and what each of them comes to, readably: printed by a program of ours. No condition. -/
import Derived.Test.YtlionohbndehgaaDoorVfWalk2
namespace Go.Proofs.YtlionohbndehgaaDoor.Vf
set_option linter.unusedVariables false
set_option linter.unusedSimpArgs false
set_option maxRecDepth 100000


def law20PathBack_L1s (R : Nat → List AV → Option Res) (N : Nat) (go : List AV → List UInt8 → Int → Int → Int → Option Res) (k0 : Bool → Option Res) (k1 : List AV → List UInt8 → Int → Option Res) (l6 : List AV) (s5 : List UInt8) (i5 : Int) (i6 : Int) (i7 : Int) : Option Res :=
  bif decide ((i7 : Int) < i6) then
    (need (decide (0 ≤ (i7 : Int))) <|
    (l6[Int.toNat i7]?).bind fun e1 =>
    asISIA e1 fun i8 s6 i9 =>
    (R id_ref01PutDouble [AV.str s6]).bind fun r10 =>
    asSBT r10.v fun s7 b5 =>
    bif !b5 then
      (bif (i5 : Int) == 6 then
        (bif s5 == ([] : List UInt8) then
          ((R id_law20Wakes []).bind fun r11 =>
          asB r11.v fun b6 =>
          k0 b6)
        else
          k0 false)
      else
        k0 false)
    else
      go l6 s5 i5 i6 (IntKind.i64.wrap (i7 + 1)))
  else
    k1 l6 s5 i5
def law20PathBack_L1 (R : Nat → List AV → Option Res) (N : Nat) (k0 : Bool → Option Res) (k1 : List AV → List UInt8 → Int → Option Res) : Nat → List AV → List UInt8 → Int → Int → Int → Option Res
  | 0, _, _, _, _, _ => none
  | n + 1, l6, s5, i5, i6, i7 => law20PathBack_L1s R N (law20PathBack_L1 R N k0 k1 n) k0 k1 l6 s5 i5 i6 i7
def law20PathBack_c0 : AC := .seq (.region [.op (some 82) none (.bin .lss (.t 81) (.t 80))]) (.seq (.cond (.t 82) (.skip) (.exit 0 [14, 15, 16] [])) (.seq (.block 1 (.seq (.region [.op (some 83) none (.mv (.t 81)), .op (some 17) none (.mv (.t 83))]) (.seq (.region [.op (some 85) none (.mv (.t 14)), .op (some 86) none (.mv (.t 17)), .op (some 87) none (.iaddr (.t 85) (.t 86) 3 (.agg [.int .i64, .str, .int .i64])), .op (some 88) none (.faddr (.t 87) 1), .op (some 89) none (.load (.t 88) none (.str)), .op (some 90) none (.call id_ref01PutDouble [.t 89] (.tup [.str, .bool])), .op (some 84) none (.mv (.t 90)), .op (some 91) none (.extract (.t 84) 0), .op (some 92) none (.extract (.t 84) 1), .op (some 18) none (.mv (.t 91)), .op (some 19) none (.mv (.t 92))]) (.seq (.region [.op (some 93) none (.mv (.t 19)), .op (some 94) none (.un .not (.t 93))]) (.cond (.t 94) (.seq (.region [.op (some 95) none (.mv (.t 16)), .op (some 96) none (.bin .eql (.t 95) (.k (AV.int .i64 6))), .op (some 97) none (.mv (.t 96)), .split 97, .op (some 98) (some (97, true)) (.mv (.t 15)), .op (some 99) (some (97, true)) (.bin .eql (.t 98) (.k (AV.str ([] : List UInt8)))), .op (some 100) none (.pick (.t 97) (.t 99) (.k (AV.bool false))), .op (some 101) none (.mv (.t 100)), .split 101, .op (some 102) (some (101, true)) (.call id_law20Wakes [] (.bool)), .op (some 103) none (.pick (.t 101) (.t 102) (.k (AV.bool false))), .op (some 8) none (.mv (.t 103))]) (.ret [8] [])) (.skip)))))) (.region [.op (some 104) none (.bin .add (.t 81) (.k (AV.int .i64 1))), .op (some 81) none (.mv (.t 104))])))
theorem law20PathBack_L1s_eq (R : Nat → List AV → Option Res) (N : Nat) (K : Ex → St → Option Res) (W : St → Option Res) (l6 : List AV) (s5 : List UInt8) (i5 : Int) (i6 : Int) (i7 : Int) :
    evC gl R N law20PathBack_c0 (Kseq (fun st' => W (prune [14, 15, 16, 80, 81] [] st')) K) ⟨[(14, .imm (AV.row 3 l6)), (15, .imm (AV.str s5)), (16, .imm (AV.int .i64 i5)), (80, .imm (AV.int .i64 i6)), (81, .imm (AV.int .i64 i7))], []⟩ =
    law20PathBack_L1s R N (fun (l6 : List AV) (s5 : List UInt8) (i5 : Int) (i6 : Int) (i7 : Int) => W ⟨[(14, .imm (AV.row 3 l6)), (15, .imm (AV.str s5)), (16, .imm (AV.int .i64 i5)), (80, .imm (AV.int .i64 i6)), (81, .imm (AV.int .i64 i7))], []⟩) (fun (b7 : Bool) => K .ret ⟨[(8, .imm (AV.bool b7))], []⟩) (fun (l7 : List AV) (s8 : List UInt8) (i10 : Int) => K (.exit 0) ⟨[(14, .imm (AV.row 3 l7)), (15, .imm (AV.str s8)), (16, .imm (AV.int .i64 i10))], []⟩) l6 s5 i5 i6 i7 := by
  kernel_rfl
theorem law20PathBack_L1_eq (R : Nat → List AV → Option Res) (N : Nat) (K : Ex → St → Option Res) : ∀ (n : Nat) (l6 : List AV) (s5 : List UInt8) (i5 : Int) (i6 : Int) (i7 : Int),
    rounds [14, 15, 16, 80, 81] [] (evC gl R N law20PathBack_c0) K n ⟨[(14, .imm (AV.row 3 l6)), (15, .imm (AV.str s5)), (16, .imm (AV.int .i64 i5)), (80, .imm (AV.int .i64 i6)), (81, .imm (AV.int .i64 i7))], []⟩ = law20PathBack_L1 R N (fun (b7 : Bool) => K .ret ⟨[(8, .imm (AV.bool b7))], []⟩) (fun (l7 : List AV) (s8 : List UInt8) (i10 : Int) => K (.exit 0) ⟨[(14, .imm (AV.row 3 l7)), (15, .imm (AV.str s8)), (16, .imm (AV.int .i64 i10))], []⟩) n l6 s5 i5 i6 i7
  | 0, _, _, _, _, _ => rfl
  | n + 1, l6, s5, i5, i6, i7 => (law20PathBack_L1s_eq R N K (rounds [14, 15, 16, 80, 81] [] (evC gl R N law20PathBack_c0) K n) l6 s5 i5 i6 i7).trans
      (congrArg (fun go => law20PathBack_L1s R N go (fun (b7 : Bool) => K .ret ⟨[(8, .imm (AV.bool b7))], []⟩) (fun (l7 : List AV) (s8 : List UInt8) (i10 : Int) => K (.exit 0) ⟨[(14, .imm (AV.row 3 l7)), (15, .imm (AV.str s8)), (16, .imm (AV.int .i64 i10))], []⟩) l6 s5 i5 i6 i7) (funext fun l6 => funext fun s5 => funext fun i5 => funext fun i6 => funext fun i7 => law20PathBack_L1_eq R N K n l6 s5 i5 i6 i7))
def law20PathBack_c1 : AC := .seq (.region [.op (some 106) none (.mv (.t 15)), .op (some 107) none (.call id_pathParse [.t 106] (.tup [.row 3, .int .i64])), .op (some 105) none (.mv (.t 107)), .op (some 108) none (.extract (.t 105) 0), .op (some 109) none (.extract (.t 105) 1), .op (some 20) none (.mv (.t 108)), .op (some 21) none (.mv (.t 109))]) (.seq (.region [.op (some 110) none (.mv (.t 16)), .op (some 111) none (.bin .eql (.t 110) (.k (AV.int .i64 0))), .op (some 112) none (.mv (.t 111)), .split 112, .op (some 113) (some (112, true)) (.mv (.t 21)), .op (some 114) (some (112, true)) (.bin .eql (.t 113) (.k (AV.int .i64 0))), .op (some 115) none (.pick (.t 112) (.t 114) (.k (AV.bool false))), .op (some 116) none (.mv (.t 115)), .split 116, .op (some 117) (some (116, true)) (.mv (.t 14)), .op (some 118) (some (116, true)) (.mv (.t 20)), .op (some 119) (some (116, true)) (.call id_keepSamePathStep [.t 117, .t 118] (.bool)), .op (some 120) none (.pick (.t 116) (.t 119) (.k (AV.bool false))), .op (some 121) none (.mv (.t 120)), .split 121, .op (some 122) (some (121, true)) (.call id_law20Wakes [] (.bool)), .op (some 123) none (.pick (.t 121) (.t 122) (.k (AV.bool false))), .op (some 8) none (.mv (.t 123))]) (.ret [8] []))
def law20PathBack_c2 : AC := .seq (.region [.op (some 8) none (.mv (.k (AV.bool false)))]) (.seq (.region [.op (some 22) none (.mv (.t 0)), .op (some 23) none (.call id_law20Steps [.t 22, .k (AV.bool false)] (.row 3)), .op (some 9) none (.mv (.t 23))]) (.seq (.region [.op (some 25) none (.mv (.t 9)), .op (some 26) none (.call id_pathPrint [.t 25] (.tup [.str, .int .i64])), .op (some 24) none (.mv (.t 26)), .op (some 27) none (.extract (.t 24) 0), .op (some 28) none (.extract (.t 24) 1), .op (some 10) none (.mv (.t 27)), .op (some 11) none (.mv (.t 28))]) (.seq (.seq (.region [.op (some 29) none (.mv (.t 11)), .op (some 30) none (.bin .eql (.t 29) (.k (AV.int .i64 0)))]) (.cond (.t 30) (.seq (.region [.op (some 32) none (.mv (.t 10)), .op (some 33) none (.call id_pathParse [.t 32] (.tup [.row 3, .int .i64])), .op (some 31) none (.mv (.t 33)), .op (some 34) none (.extract (.t 31) 0), .op (some 35) none (.extract (.t 31) 1), .op (some 12) none (.mv (.t 34)), .op (some 13) none (.mv (.t 35))]) (.seq (.region [.op (some 36) none (.mv (.t 13)), .op (some 37) none (.bin .neq (.t 36) (.k (AV.int .i64 0))), .op (some 38) none (.mv (.t 37)), .split 38, .op (some 39) (some (38, false)) (.mv (.t 9)), .op (some 40) (some (38, false)) (.mv (.t 12)), .op (some 41) (some (38, false)) (.call id_keepSamePathStep [.t 39, .t 40] (.bool)), .op (some 42) (some (38, false)) (.un .not (.t 41)), .op (some 43) none (.pick (.t 38) (.k (AV.bool true)) (.t 42))]) (.cond (.t 43) (.seq (.region [.op (some 8) none (.mv (.k (AV.bool false)))]) (.ret [8] [])) (.skip)))) (.seq (.region [.op (some 44) none (.mv (.t 11)), .op (some 45) none (.bin .neq (.t 44) (.k (AV.int .i64 6))), .op (some 46) none (.mv (.t 45)), .split 46, .op (some 47) (some (46, false)) (.mv (.t 10)), .op (some 48) (some (46, false)) (.bin .neq (.t 47) (.k (AV.str ([] : List UInt8)))), .op (some 49) none (.pick (.t 46) (.k (AV.bool true)) (.t 48))]) (.cond (.t 49) (.seq (.region [.op (some 8) none (.mv (.k (AV.bool false)))]) (.ret [8] [])) (.skip))))) (.seq (.region [.op (some 51) none (.mv (.t 1)), .op (some 52) none (.mv (.t 2)), .op (some 53) none (.mv (.t 3)), .op (some 54) none (.call id_law20Text [.t 51, .t 52, .t 53] (.str)), .op (some 55) none (.call id_pathParse [.t 54] (.tup [.row 3, .int .i64])), .op (some 50) none (.mv (.t 55)), .op (some 56) none (.extract (.t 50) 0), .op (some 57) none (.extract (.t 50) 1), .op (some 14) none (.mv (.t 56)), .op (some 11) none (.mv (.t 57))]) (.seq (.seq (.region [.op (some 58) none (.mv (.t 11)), .op (some 59) none (.bin .neq (.t 58) (.k (AV.int .i64 0)))]) (.cond (.t 59) (.seq (.region [.op (some 60) none (.mv (.t 11)), .op (some 61) none (.bin .eql (.t 60) (.k (AV.int .i64 6))), .op (some 62) none (.mv (.t 61)), .split 62, .op (some 63) (some (62, false)) (.mv (.t 11)), .op (some 64) (some (62, false)) (.bin .eql (.t 63) (.k (AV.int .i64 10))), .op (some 65) none (.pick (.t 62) (.k (AV.bool true)) (.t 64)), .op (some 66) none (.mv (.t 65)), .split 66, .op (some 67) (some (66, true)) (.mv (.t 14)), .op (some 68) (some (66, true)) (.len (.t 67) false), .op (some 69) (some (66, true)) (.bin .eql (.t 68) (.k (AV.int .i64 0))), .op (some 70) none (.pick (.t 66) (.t 69) (.k (AV.bool false))), .op (some 71) none (.mv (.t 70)), .split 71, .op (some 72) (some (71, true)) (.call id_law20Wakes [] (.bool)), .op (some 73) none (.pick (.t 71) (.t 72) (.k (AV.bool false))), .op (some 8) none (.mv (.t 73))]) (.ret [8] [])) (.skip))) (.seq (.region [.op (some 75) none (.mv (.t 14)), .op (some 76) none (.call id_pathPrint [.t 75] (.tup [.str, .int .i64])), .op (some 74) none (.mv (.t 76)), .op (some 77) none (.extract (.t 74) 0), .op (some 78) none (.extract (.t 74) 1), .op (some 15) none (.mv (.t 77)), .op (some 16) none (.mv (.t 78))]) (.seq (.seq (.region [.op (some 79) none (.mv (.t 14)), .op (some 80) none (.len (.t 79) false), .op (some 81) none (.mv (.k (AV.int .i64 0)))]) (.block 0 (.loop [14, 15, 16, 80, 81] [] (law20PathBack_c0)))) (law20PathBack_c1))))))))
def law20PathBack : AFunc := ⟨4, 124, [.tmp 8], law20PathBack_c2⟩
def law20PathBackr (R : Nat → List AV → Option Res) (N : Nat) (l1 : List AV) (s1 : List UInt8) (l2 : List AV) (b1 : Bool) : Option Res :=
  (R id_law20Steps [AV.row 3 l1, AV.bool false]).bind fun r1 =>
  asR 3 r1.v fun l3 =>
  (R id_pathPrint [AV.row 3 l3]).bind fun r2 =>
  asSIT r2.v fun s2 i1 =>
  bif (i1 : Int) == 0 then
    ((R id_pathParse [AV.str s2]).bind fun r3 =>
    asRIT r3.v fun l4 i2 =>
    bif (i2 : Int) != 0 then
      (some ⟨AV.bool false, false, []⟩)
    else
      (R id_keepSamePathStep [AV.row 3 l3, AV.row 3 l4]).bind fun r4 =>
      asB r4.v fun b2 =>
      bif !b2 then
        (some ⟨AV.bool false, false, []⟩)
      else
        (R id_law20Text [AV.str s1, AV.row 1 l2, AV.bool b1]).bind fun r5 =>
        asS r5.v fun s3 =>
        (R id_pathParse [AV.str s3]).bind fun r6 =>
        asRIT r6.v fun l5 i3 =>
        bif (i3 : Int) != 0 then
          (bif (i3 : Int) == 6 then
            (bif (((l5.length : Nat) : Int) : Int) == 0 then
              ((R id_law20Wakes []).bind fun r7 =>
              asB r7.v fun b3 =>
              some ⟨AV.bool b3, false, []⟩)
            else
              some ⟨AV.bool false, false, []⟩)
          else
            bif (i3 : Int) == 10 then
              (bif (((l5.length : Nat) : Int) : Int) == 0 then
                ((R id_law20Wakes []).bind fun r8 =>
                asB r8.v fun b4 =>
                some ⟨AV.bool b4, false, []⟩)
              else
                some ⟨AV.bool false, false, []⟩)
            else
              some ⟨AV.bool false, false, []⟩)
        else
          (R id_pathPrint [AV.row 3 l5]).bind fun r9 =>
          asSIT r9.v fun s4 i4 =>
          law20PathBack_L1 R N
            (fun b9 =>
              some ⟨AV.bool b9, false, []⟩)
            (fun l9 s10 i12 =>
              (R id_pathParse [AV.str s10]).bind fun r12 =>
              asRIT r12.v fun l10 i13 =>
              bif (i12 : Int) == 0 then
                (bif (i13 : Int) == 0 then
                  ((R id_keepSamePathStep [AV.row 3 l9, AV.row 3 l10]).bind fun r13 =>
                  asB r13.v fun b10 =>
                  bif b10 then
                    ((R id_law20Wakes []).bind fun r14 =>
                    asB r14.v fun b11 =>
                    some ⟨AV.bool b11, false, []⟩)
                  else
                    some ⟨AV.bool false, false, []⟩)
                else
                  some ⟨AV.bool false, false, []⟩)
              else
                some ⟨AV.bool false, false, []⟩)
            N l5 s4 i4 ((l5.length : Nat) : Int) 0)
  else
    bif (i1 : Int) != 6 then
      (some ⟨AV.bool false, false, []⟩)
    else
      bif !(s2 == ([] : List UInt8)) then
        (some ⟨AV.bool false, false, []⟩)
      else
        (R id_law20Text [AV.str s1, AV.row 1 l2, AV.bool b1]).bind fun r15 =>
        asS r15.v fun s11 =>
        (R id_pathParse [AV.str s11]).bind fun r16 =>
        asRIT r16.v fun l11 i14 =>
        bif (i14 : Int) != 0 then
          (bif (i14 : Int) == 6 then
            (bif (((l11.length : Nat) : Int) : Int) == 0 then
              ((R id_law20Wakes []).bind fun r17 =>
              asB r17.v fun b12 =>
              some ⟨AV.bool b12, false, []⟩)
            else
              some ⟨AV.bool false, false, []⟩)
          else
            bif (i14 : Int) == 10 then
              (bif (((l11.length : Nat) : Int) : Int) == 0 then
                ((R id_law20Wakes []).bind fun r18 =>
                asB r18.v fun b13 =>
                some ⟨AV.bool b13, false, []⟩)
              else
                some ⟨AV.bool false, false, []⟩)
            else
              some ⟨AV.bool false, false, []⟩)
        else
          (R id_pathPrint [AV.row 3 l11]).bind fun r19 =>
          asSIT r19.v fun s12 i15 =>
          law20PathBack_L1 R N
            (fun b14 =>
              some ⟨AV.bool b14, false, []⟩)
            (fun l12 s13 i16 =>
              (R id_pathParse [AV.str s13]).bind fun r20 =>
              asRIT r20.v fun l13 i17 =>
              bif (i16 : Int) == 0 then
                (bif (i17 : Int) == 0 then
                  ((R id_keepSamePathStep [AV.row 3 l12, AV.row 3 l13]).bind fun r21 =>
                  asB r21.v fun b15 =>
                  bif b15 then
                    ((R id_law20Wakes []).bind fun r22 =>
                    asB r22.v fun b16 =>
                    some ⟨AV.bool b16, false, []⟩)
                  else
                    some ⟨AV.bool false, false, []⟩)
                else
                  some ⟨AV.bool false, false, []⟩)
              else
                some ⟨AV.bool false, false, []⟩)
            N l11 s12 i15 ((l11.length : Nat) : Int) 0
theorem law20PathBack_eq (R : Nat → List AV → Option Res) (N : Nat) (l1 : List AV) (s1 : List UInt8) (l2 : List AV) (b1 : Bool) : runF gl R N law20PathBack [AV.row 3 l1, AV.str s1, AV.row 1 l2, AV.bool b1] = law20PathBackr R N l1 s1 l2 b1 := by
  refine Eq.trans (b :=
      (R id_law20Steps [AV.row 3 l1, AV.bool false]).bind fun r1 =>
      asR 3 r1.v fun l3 =>
      (R id_pathPrint [AV.row 3 l3]).bind fun r2 =>
      asSIT r2.v fun s2 i1 =>
      bif (i1 : Int) == 0 then
        ((R id_pathParse [AV.str s2]).bind fun r3 =>
        asRIT r3.v fun l4 i2 =>
        bif (i2 : Int) != 0 then
          (some ⟨AV.bool false, false, []⟩)
        else
          (R id_keepSamePathStep [AV.row 3 l3, AV.row 3 l4]).bind fun r4 =>
          asB r4.v fun b2 =>
          bif !b2 then
            (some ⟨AV.bool false, false, []⟩)
          else
            (R id_law20Text [AV.str s1, AV.row 1 l2, AV.bool b1]).bind fun r5 =>
            asS r5.v fun s3 =>
            (R id_pathParse [AV.str s3]).bind fun r6 =>
            asRIT r6.v fun l5 i3 =>
            bif (i3 : Int) != 0 then
              (bif (i3 : Int) == 6 then
                (bif (((l5.length : Nat) : Int) : Int) == 0 then
                  ((R id_law20Wakes []).bind fun r7 =>
                  asB r7.v fun b3 =>
                  some ⟨AV.bool b3, false, []⟩)
                else
                  some ⟨AV.bool false, false, []⟩)
              else
                bif (i3 : Int) == 10 then
                  (bif (((l5.length : Nat) : Int) : Int) == 0 then
                    ((R id_law20Wakes []).bind fun r8 =>
                    asB r8.v fun b4 =>
                    some ⟨AV.bool b4, false, []⟩)
                  else
                    some ⟨AV.bool false, false, []⟩)
                else
                  some ⟨AV.bool false, false, []⟩)
            else
              (R id_pathPrint [AV.row 3 l5]).bind fun r9 =>
              asSIT r9.v fun s4 i4 =>
              rounds [14, 15, 16, 80, 81] [] (evC gl R N law20PathBack_c0) (Kblock 0 (Kthen gl R N law20PathBack_c1 (Kret law20PathBack.rets []))) N ⟨[(14, .imm (AV.row 3 l5)), (15, .imm (AV.str s4)), (16, .imm (AV.int .i64 i4)), (80, .imm (AV.int .i64 ((l5.length : Nat) : Int))), (81, .imm (AV.int .i64 0))], []⟩)
      else
        bif (i1 : Int) != 6 then
          (some ⟨AV.bool false, false, []⟩)
        else
          bif !(s2 == ([] : List UInt8)) then
            (some ⟨AV.bool false, false, []⟩)
          else
            (R id_law20Text [AV.str s1, AV.row 1 l2, AV.bool b1]).bind fun r15 =>
            asS r15.v fun s11 =>
            (R id_pathParse [AV.str s11]).bind fun r16 =>
            asRIT r16.v fun l11 i14 =>
            bif (i14 : Int) != 0 then
              (bif (i14 : Int) == 6 then
                (bif (((l11.length : Nat) : Int) : Int) == 0 then
                  ((R id_law20Wakes []).bind fun r17 =>
                  asB r17.v fun b12 =>
                  some ⟨AV.bool b12, false, []⟩)
                else
                  some ⟨AV.bool false, false, []⟩)
              else
                bif (i14 : Int) == 10 then
                  (bif (((l11.length : Nat) : Int) : Int) == 0 then
                    ((R id_law20Wakes []).bind fun r18 =>
                    asB r18.v fun b13 =>
                    some ⟨AV.bool b13, false, []⟩)
                  else
                    some ⟨AV.bool false, false, []⟩)
                else
                  some ⟨AV.bool false, false, []⟩)
            else
              (R id_pathPrint [AV.row 3 l11]).bind fun r19 =>
              asSIT r19.v fun s12 i15 =>
              rounds [14, 15, 16, 80, 81] [] (evC gl R N law20PathBack_c0) (Kblock 0 (Kthen gl R N law20PathBack_c1 (Kret law20PathBack.rets []))) N ⟨[(14, .imm (AV.row 3 l11)), (15, .imm (AV.str s12)), (16, .imm (AV.int .i64 i15)), (80, .imm (AV.int .i64 ((l11.length : Nat) : Int))), (81, .imm (AV.int .i64 0))], []⟩) (by kernel_rfl) ?_
  simp (config := { maxSteps := 100000000 }) only [law20PathBack_L1_eq]
  kernel_rfl
theorem law20PathBack_fit : fitF Tryd.prog law20PathBack Tryd.f4 = true := by
  kernel_rfl

noncomputable def law20PathForms_L1s (R : Nat → List AV → Option Res) (N : Nat) (go : List (AV × AV) → Option (AV × AV) → Option Res) (k0 : Option Res) (k1 : Bool → Option Res) (m1 : List (AV × AV)) (o1 : Option (AV × AV)) : Option Res :=
  bif Nat.beq m1.length 0 then
    (k0)
  else
    anyN m1.length fun j1 => (m1[j1]?).bind fun p1 =>
    asS p1.1 fun s1 =>
    asI .i64 p1.2 fun i3 =>
    (R id_pathParse [AV.str s1]).bind fun r2 =>
    asRIT r2.v fun l1 i4 =>
    bif decide ((i3 : Int) > 0) then
      (bif !(((i4 : Int) == 0) == true) then
        (k1 false)
      else
        bif (((l1.length : Nat) : Int) : Int) != i3 then
          (k1 false)
        else
          bif (i4 : Int) != 0 then
            (bif (i4 : Int) != 6 then
              (k1 false)
            else
              go (m1.eraseIdx j1) (some (AV.str s1, AV.int .i64 i3)))
          else
            go (m1.eraseIdx j1) (some (AV.str s1, AV.int .i64 i3)))
    else
      bif !(((i4 : Int) == 0) == (s1 == ([] : List UInt8))) then
        (k1 false)
      else
        bif (((l1.length : Nat) : Int) : Int) != i3 then
          (k1 false)
        else
          bif (i4 : Int) != 0 then
            (bif (i4 : Int) != 6 then
              (k1 false)
            else
              go (m1.eraseIdx j1) (some (AV.str s1, AV.int .i64 i3)))
          else
            go (m1.eraseIdx j1) (some (AV.str s1, AV.int .i64 i3))
noncomputable def law20PathForms_L1 (R : Nat → List AV → Option Res) (N : Nat) (k0 : Option Res) (k1 : Bool → Option Res) : Nat → List (AV × AV) → Option (AV × AV) → Option Res
  | 0, _, _ => none
  | n + 1, m1, o1 => law20PathForms_L1s R N (law20PathForms_L1 R N k0 k1 n) k0 k1 m1 o1
def law20PathForms_c0 : AC := .seq (.regionM (.t 50) 51 (.str) (.int .i64) [.op (some 52) none (.extract (.t 51) 0)]) (.seq (.cond (.t 52) (.skip) (.exit 0 [] [])) (.block 1 (.seq (.region [.op (some 53) none (.entM (.t 50) (.str) (.int .i64)), .op (some 54) none (.extract (.t 53) 0), .op (some 55) none (.extract (.t 53) 1), .op (some 4) none (.mv (.t 54)), .op (some 5) none (.mv (.t 55))]) (.seq (.region [.op (some 57) none (.mv (.t 4)), .op (some 58) none (.call id_pathParse [.t 57] (.tup [.row 3, .int .i64])), .op (some 56) none (.mv (.t 58)), .op (some 59) none (.extract (.t 56) 0), .op (some 60) none (.extract (.t 56) 1), .op (some 6) none (.mv (.t 59)), .op (some 7) none (.mv (.t 60))]) (.seq (.region [.op (some 61) none (.mv (.t 7)), .op (some 62) none (.bin .eql (.t 61) (.k (AV.int .i64 0))), .op (some 63) none (.mv (.t 5)), .op (some 64) none (.bin .gtr (.t 63) (.k (AV.int .i64 0))), .op (some 65) none (.mv (.t 64)), .split 65, .op (some 66) (some (65, false)) (.mv (.t 4)), .op (some 67) (some (65, false)) (.bin .eql (.t 66) (.k (AV.str ([] : List UInt8)))), .op (some 68) none (.pick (.t 65) (.k (AV.bool true)) (.t 67)), .op (some 69) none (.binB .neq (.t 62) (.t 68)), .op (some 70) none (.mv (.t 69)), .split 70, .op (some 71) (some (70, false)) (.mv (.t 6)), .op (some 72) (some (70, false)) (.len (.t 71) false), .op (some 73) (some (70, false)) (.mv (.t 5)), .op (some 74) (some (70, false)) (.bin .neq (.t 72) (.t 73)), .op (some 75) none (.pick (.t 70) (.k (AV.bool true)) (.t 74)), .op (some 76) none (.mv (.t 75)), .split 76, .op (some 77) (some (76, false)) (.mv (.t 7)), .op (some 78) (some (76, false)) (.bin .neq (.t 77) (.k (AV.int .i64 0))), .op (some 79) (some (76, false)) (.mv (.t 78)), .split 79, .op (some 80) (some (79, true)) (.mv (.t 7)), .op (some 81) (some (79, true)) (.bin .neq (.t 80) (.k (AV.int .i64 6))), .op (some 82) (some (76, false)) (.pick (.t 79) (.t 81) (.k (AV.bool false))), .op (some 83) none (.pick (.t 76) (.k (AV.bool true)) (.t 82))]) (.cond (.t 83) (.seq (.region [.op (some 2) none (.mv (.k (AV.bool false)))]) (.ret [2] [])) (.skip)))))))
theorem law20PathForms_L1s_eq (R : Nat → List AV → Option Res) (N : Nat) (K : Ex → St → Option Res) (W : St → Option Res) (m1 : List (AV × AV)) (o1 : Option (AV × AV)) :
    evC gl R N law20PathForms_c0 (Kseq (fun st' => W (prune [50] [1050] st')) K) ⟨[(50, .ptr 1050 0 0)], [(1050, .miter m1 o1)]⟩ =
    law20PathForms_L1s R N (fun (m1 : List (AV × AV)) (o1 : Option (AV × AV)) => W ⟨[(50, .ptr 1050 0 0)], [(1050, .miter m1 o1)]⟩) (K (.exit 0) ⟨[], []⟩) (fun (b1 : Bool) => K .ret ⟨[(2, .imm (AV.bool b1))], []⟩) m1 o1 := by
  kernel_rfl
theorem law20PathForms_L1_eq (R : Nat → List AV → Option Res) (N : Nat) (K : Ex → St → Option Res) : ∀ (n : Nat) (m1 : List (AV × AV)) (o1 : Option (AV × AV)),
    rounds [50] [1050] (evC gl R N law20PathForms_c0) K n ⟨[(50, .ptr 1050 0 0)], [(1050, .miter m1 o1)]⟩ = law20PathForms_L1 R N (K (.exit 0) ⟨[], []⟩) (fun (b1 : Bool) => K .ret ⟨[(2, .imm (AV.bool b1))], []⟩) n m1 o1
  | 0, _, _ => rfl
  | n + 1, m1, o1 => (law20PathForms_L1s_eq R N K (rounds [50] [1050] (evC gl R N law20PathForms_c0) K n) m1 o1).trans
      (congrArg (fun go => law20PathForms_L1s R N go (K (.exit 0) ⟨[], []⟩) (fun (b1 : Bool) => K .ret ⟨[(2, .imm (AV.bool b1))], []⟩) m1 o1) (funext fun m1 => funext fun o1 => law20PathForms_L1_eq R N K n m1 o1))
def law20PathForms_c1 : AC := .seq (.region [.op (some 84) none (.call id_law20Wakes [] (.bool)), .op (some 2) none (.mv (.t 84))]) (.ret [2] [])
def law20PathForms_c2 : AC := .seq (.region [.op (some 2) none (.mv (.k (AV.bool false)))]) (.seq (.region [.op (some 8) none (.mv (.t 0)), .op (some 9) none (.call id_keepWithin [.t 8, .k (AV.int .i64 8)] (.int .i64)), .op (some 10) none (.sliceS (.k (AV.str ([97, 98, 99, 100, 101, 102, 103, 104] : List UInt8))) (some (.t 9)) none), .op (some 11) none (.sliceS (.t 10) none (some (.k (AV.int .i64 1)))), .op (some 3) none (.mv (.t 11))]) (.seq (.seq (.regionL [50] [1050] 2012 [.op (some 12) none (.mkMap 2012), .op none none (.insM none (.t 12) (.k (AV.str ([] : List UInt8))) (.k (AV.int .i64 0))), .op (some 13) none (.mv (.t 3)), .op (some 14) none (.bin .add (.k (AV.str ([46] : List UInt8))) (.t 13)), .op none none (.insM none (.t 12) (.t 14) (.k (AV.int .i64 1))), .op none none (.insM none (.t 12) (.k (AV.str ([64, 48] : List UInt8))) (.k (AV.int .i64 1))), .op none none (.insM none (.t 12) (.k (AV.str ([64, 42] : List UInt8))) (.k (AV.int .i64 1))), .op (some 15) none (.mv (.t 3)), .op (some 16) none (.bin .add (.k (AV.str ([64, 49, 50, 46] : List UInt8))) (.t 15)), .op none none (.insM none (.t 12) (.t 16) (.k (AV.int .i64 2))), .op (some 17) none (.mv (.t 3)), .op (some 18) none (.bin .add (.k (AV.str ([46] : List UInt8))) (.t 17)), .op (some 19) none (.bin .add (.t 18) (.k (AV.str ([91, 48, 93, 46, 98] : List UInt8)))), .op none none (.insM none (.t 12) (.t 19) (.k (AV.int .i64 3))), .op none none (.insM none (.t 12) (.k (AV.str ([46, 46] : List UInt8))) (.k (AV.int .i64 1))), .op none none (.insM none (.t 12) (.k (AV.str ([46, 46, 46] : List UInt8))) (.k (AV.int .i64 0))), .op (some 20) none (.mv (.t 3)), .op (some 21) none (.bin .add (.k (AV.str ([46, 46, 46] : List UInt8))) (.t 20)), .op none none (.insM none (.t 12) (.t 21) (.k (AV.int .i64 2))), .op none none (.insM none (.t 12) (.k (AV.str ([46, 42] : List UInt8))) (.k (AV.int .i64 1))), .op none none (.insM none (.t 12) (.k (AV.str ([46, 42, 46, 42] : List UInt8))) (.k (AV.int .i64 2))), .op none none (.insM none (.t 12) (.k (AV.str ([91, 48, 93, 91, 49, 93] : List UInt8))) (.k (AV.int .i64 2))), .op (some 22) none (.mv (.t 3)), .op (some 23) none (.bin .add (.k (AV.str ([46, 34] : List UInt8))) (.t 22)), .op (some 24) none (.bin .add (.t 23) (.k (AV.str ([32, 98, 34] : List UInt8)))), .op none none (.insM none (.t 12) (.t 24) (.k (AV.int .i64 1))), .op none none (.insM none (.t 12) (.k (AV.str ([46, 34, 34] : List UInt8))) (.k (AV.int .i64 1))), .op none none (.insM none (.t 12) (.k (AV.str ([46, 97, 45, 98, 95, 99] : List UInt8))) (.k (AV.int .i64 1))), .op none none (.insM none (.t 12) (.k (AV.str ([46, 46, 46, 46] : List UInt8))) (.k (AV.int .i64 2))), .op none none (.insM none (.t 12) (.k (AV.str ([64, 42, 46, 46] : List UInt8))) (.k (AV.int .i64 2))), .op none none (.insM none (.t 12) (.k (AV.str ([46, 49] : List UInt8))) (.k (AV.int .i64 1))), .op none none (.insM none (.t 12) (.k (AV.str ([91, 57, 57, 57, 57, 57, 57, 93] : List UInt8))) (.k (AV.int .i64 1))), .op (some 25) none (.mv (.t 3)), .op (some 26) none (.bin .add (.k (AV.str ([46] : List UInt8))) (.t 25)), .op (some 27) none (.bin .add (.t 26) (.k (AV.str ([42] : List UInt8)))), .op none none (.insM none (.t 12) (.t 27) (.k (AV.int .i64 0))), .op none none (.insM none (.t 12) (.k (AV.str ([64] : List UInt8))) (.k (AV.int .i64 0))), .op (some 28) none (.mv (.t 3)), .op (some 29) none (.bin .add (.k (AV.str ([64] : List UInt8))) (.t 28)), .op none none (.insM none (.t 12) (.t 29) (.k (AV.int .i64 0))), .op none none (.insM none (.t 12) (.k (AV.str ([64, 48, 49] : List UInt8))) (.k (AV.int .i64 0))), .op none none (.insM none (.t 12) (.k (AV.str ([64, 49, 48, 48, 48, 48, 48, 48] : List UInt8))) (.k (AV.int .i64 0))), .op (some 30) none (.mv (.t 3)), .op none none (.insM none (.t 12) (.t 30) (.k (AV.int .i64 0))), .op none none (.insM none (.t 12) (.k (AV.str ([46] : List UInt8))) (.k (AV.int .i64 0))), .op none none (.insM none (.t 12) (.k (AV.str ([91] : List UInt8))) (.k (AV.int .i64 0))), .op none none (.insM none (.t 12) (.k (AV.str ([91, 93] : List UInt8))) (.k (AV.int .i64 0))), .op (some 31) none (.mv (.t 3)), .op (some 32) none (.bin .add (.k (AV.str ([91] : List UInt8))) (.t 31)), .op (some 33) none (.bin .add (.t 32) (.k (AV.str ([93] : List UInt8)))), .op none none (.insM none (.t 12) (.t 33) (.k (AV.int .i64 0))), .op none none (.insM none (.t 12) (.k (AV.str ([91, 48, 49, 93] : List UInt8))) (.k (AV.int .i64 0))), .op none none (.insM none (.t 12) (.k (AV.str ([91, 45, 49, 93] : List UInt8))) (.k (AV.int .i64 0))), .op none none (.insM none (.t 12) (.k (AV.str ([91, 49] : List UInt8))) (.k (AV.int .i64 0))), .op none none (.insM none (.t 12) (.k (AV.str ([91, 49, 48, 48, 48, 48, 48, 48, 93] : List UInt8))) (.k (AV.int .i64 0))), .op (some 34) none (.mv (.t 3)), .op (some 35) none (.bin .add (.k (AV.str ([46, 32] : List UInt8))) (.t 34)), .op none none (.insM none (.t 12) (.t 35) (.k (AV.int .i64 0))), .op (some 36) none (.mv (.t 3)), .op (some 37) none (.bin .add (.k (AV.str ([46] : List UInt8))) (.t 36)), .op (some 38) none (.bin .add (.t 37) (.k (AV.str ([32] : List UInt8)))), .op none none (.insM none (.t 12) (.t 38) (.k (AV.int .i64 0))), .op (some 39) none (.mv (.t 3)), .op (some 40) none (.bin .add (.k (AV.str ([46, 34] : List UInt8))) (.t 39)), .op none none (.insM none (.t 12) (.t 40) (.k (AV.int .i64 0))), .op (some 41) none (.mv (.t 3)), .op (some 42) none (.bin .add (.k (AV.str ([46, 39] : List UInt8))) (.t 41)), .op (some 43) none (.bin .add (.t 42) (.k (AV.str ([39] : List UInt8)))), .op none none (.insM none (.t 12) (.t 43) (.k (AV.int .i64 0))), .op none none (.insM none (.t 12) (.k (AV.str ([42] : List UInt8))) (.k (AV.int .i64 0))), .op (some 44) none (.mv (.t 3)), .op (some 45) none (.bin .add (.k (AV.str ([46, 46] : List UInt8))) (.t 44)), .op none none (.insM none (.t 12) (.t 45) (.k (AV.int .i64 0))), .op (some 46) none (.mv (.t 3)), .op (some 47) none (.bin .add (.k (AV.str ([46] : List UInt8))) (.t 46)), .op (some 48) none (.bin .add (.t 47) (.k (AV.str ([64, 49] : List UInt8)))), .op none none (.insM none (.t 12) (.t 48) (.k (AV.int .i64 0))), .op none none (.insM none (.t 12) (.k (AV.str ([64, 49, 64, 50] : List UInt8))) (.k (AV.int .i64 0)))] [.op (some 49) none (.mv (.t 12)), .op (some 50) none (.rangeM 1050 (.t 49))]) (.block 0 (.loop [50] [1050] (law20PathForms_c0)))) (law20PathForms_c1)))
def law20PathForms : AFunc := ⟨1, 85, [.tmp 2], law20PathForms_c2⟩
noncomputable def law20PathFormsr (R : Nat → List AV → Option Res) (N : Nat) (i1 : Int) : Option Res :=
  (R id_keepWithin [AV.int .i64 i1, AV.int .i64 8]).bind fun r1 =>
  asI .i64 r1.v fun i2 =>
  need (decide (0 ≤ (i2 : Int)) && decide ((i2 : Int) ≤ (((([97, 98, 99, 100, 101, 102, 103, 104] : List UInt8) : List UInt8).length : Nat) : Int))) <|
  need (decide (0 ≤ (1 : Int)) && decide ((1 : Int) ≤ ((((([97, 98, 99, 100, 101, 102, 103, 104] : List UInt8).take ((([97, 98, 99, 100, 101, 102, 103, 104] : List UInt8) : List UInt8).length)).drop (Int.toNat i2) : List UInt8).length : Nat) : Int))) <|
  need (decide ((([46] : List UInt8) : List UInt8).length + ((((([97, 98, 99, 100, 101, 102, 103, 104] : List UInt8).take ((([97, 98, 99, 100, 101, 102, 103, 104] : List UInt8) : List UInt8).length)).drop (Int.toNat i2)).take (Int.toNat 1)).drop 0 : List UInt8).length ≤ 9223372036854775807)) <|
  need (decide ((([64, 49, 50, 46] : List UInt8) : List UInt8).length + ((((([97, 98, 99, 100, 101, 102, 103, 104] : List UInt8).take ((([97, 98, 99, 100, 101, 102, 103, 104] : List UInt8) : List UInt8).length)).drop (Int.toNat i2)).take (Int.toNat 1)).drop 0 : List UInt8).length ≤ 9223372036854775807)) <|
  need (decide ((([46] : List UInt8) : List UInt8).length + ((((([97, 98, 99, 100, 101, 102, 103, 104] : List UInt8).take ((([97, 98, 99, 100, 101, 102, 103, 104] : List UInt8) : List UInt8).length)).drop (Int.toNat i2)).take (Int.toNat 1)).drop 0 : List UInt8).length ≤ 9223372036854775807)) <|
  need (decide ((([46] : List UInt8) ++ ((((([97, 98, 99, 100, 101, 102, 103, 104] : List UInt8).take ((([97, 98, 99, 100, 101, 102, 103, 104] : List UInt8) : List UInt8).length)).drop (Int.toNat i2)).take (Int.toNat 1)).drop 0) : List UInt8).length + (([91, 48, 93, 46, 98] : List UInt8) : List UInt8).length ≤ 9223372036854775807)) <|
  need (decide ((([46, 46, 46] : List UInt8) : List UInt8).length + ((((([97, 98, 99, 100, 101, 102, 103, 104] : List UInt8).take ((([97, 98, 99, 100, 101, 102, 103, 104] : List UInt8) : List UInt8).length)).drop (Int.toNat i2)).take (Int.toNat 1)).drop 0 : List UInt8).length ≤ 9223372036854775807)) <|
  need (decide ((([46, 34] : List UInt8) : List UInt8).length + ((((([97, 98, 99, 100, 101, 102, 103, 104] : List UInt8).take ((([97, 98, 99, 100, 101, 102, 103, 104] : List UInt8) : List UInt8).length)).drop (Int.toNat i2)).take (Int.toNat 1)).drop 0 : List UInt8).length ≤ 9223372036854775807)) <|
  need (decide ((([46, 34] : List UInt8) ++ ((((([97, 98, 99, 100, 101, 102, 103, 104] : List UInt8).take ((([97, 98, 99, 100, 101, 102, 103, 104] : List UInt8) : List UInt8).length)).drop (Int.toNat i2)).take (Int.toNat 1)).drop 0) : List UInt8).length + (([32, 98, 34] : List UInt8) : List UInt8).length ≤ 9223372036854775807)) <|
  need (decide ((([46] : List UInt8) : List UInt8).length + ((((([97, 98, 99, 100, 101, 102, 103, 104] : List UInt8).take ((([97, 98, 99, 100, 101, 102, 103, 104] : List UInt8) : List UInt8).length)).drop (Int.toNat i2)).take (Int.toNat 1)).drop 0 : List UInt8).length ≤ 9223372036854775807)) <|
  need (decide ((([46] : List UInt8) ++ ((((([97, 98, 99, 100, 101, 102, 103, 104] : List UInt8).take ((([97, 98, 99, 100, 101, 102, 103, 104] : List UInt8) : List UInt8).length)).drop (Int.toNat i2)).take (Int.toNat 1)).drop 0) : List UInt8).length + (([42] : List UInt8) : List UInt8).length ≤ 9223372036854775807)) <|
  need (decide ((([64] : List UInt8) : List UInt8).length + ((((([97, 98, 99, 100, 101, 102, 103, 104] : List UInt8).take ((([97, 98, 99, 100, 101, 102, 103, 104] : List UInt8) : List UInt8).length)).drop (Int.toNat i2)).take (Int.toNat 1)).drop 0 : List UInt8).length ≤ 9223372036854775807)) <|
  need (decide ((([91] : List UInt8) : List UInt8).length + ((((([97, 98, 99, 100, 101, 102, 103, 104] : List UInt8).take ((([97, 98, 99, 100, 101, 102, 103, 104] : List UInt8) : List UInt8).length)).drop (Int.toNat i2)).take (Int.toNat 1)).drop 0 : List UInt8).length ≤ 9223372036854775807)) <|
  need (decide ((([91] : List UInt8) ++ ((((([97, 98, 99, 100, 101, 102, 103, 104] : List UInt8).take ((([97, 98, 99, 100, 101, 102, 103, 104] : List UInt8) : List UInt8).length)).drop (Int.toNat i2)).take (Int.toNat 1)).drop 0) : List UInt8).length + (([93] : List UInt8) : List UInt8).length ≤ 9223372036854775807)) <|
  need (decide ((([46, 32] : List UInt8) : List UInt8).length + ((((([97, 98, 99, 100, 101, 102, 103, 104] : List UInt8).take ((([97, 98, 99, 100, 101, 102, 103, 104] : List UInt8) : List UInt8).length)).drop (Int.toNat i2)).take (Int.toNat 1)).drop 0 : List UInt8).length ≤ 9223372036854775807)) <|
  need (decide ((([46] : List UInt8) : List UInt8).length + ((((([97, 98, 99, 100, 101, 102, 103, 104] : List UInt8).take ((([97, 98, 99, 100, 101, 102, 103, 104] : List UInt8) : List UInt8).length)).drop (Int.toNat i2)).take (Int.toNat 1)).drop 0 : List UInt8).length ≤ 9223372036854775807)) <|
  need (decide ((([46] : List UInt8) ++ ((((([97, 98, 99, 100, 101, 102, 103, 104] : List UInt8).take ((([97, 98, 99, 100, 101, 102, 103, 104] : List UInt8) : List UInt8).length)).drop (Int.toNat i2)).take (Int.toNat 1)).drop 0) : List UInt8).length + (([32] : List UInt8) : List UInt8).length ≤ 9223372036854775807)) <|
  need (decide ((([46, 34] : List UInt8) : List UInt8).length + ((((([97, 98, 99, 100, 101, 102, 103, 104] : List UInt8).take ((([97, 98, 99, 100, 101, 102, 103, 104] : List UInt8) : List UInt8).length)).drop (Int.toNat i2)).take (Int.toNat 1)).drop 0 : List UInt8).length ≤ 9223372036854775807)) <|
  need (decide ((([46, 39] : List UInt8) : List UInt8).length + ((((([97, 98, 99, 100, 101, 102, 103, 104] : List UInt8).take ((([97, 98, 99, 100, 101, 102, 103, 104] : List UInt8) : List UInt8).length)).drop (Int.toNat i2)).take (Int.toNat 1)).drop 0 : List UInt8).length ≤ 9223372036854775807)) <|
  need (decide ((([46, 39] : List UInt8) ++ ((((([97, 98, 99, 100, 101, 102, 103, 104] : List UInt8).take ((([97, 98, 99, 100, 101, 102, 103, 104] : List UInt8) : List UInt8).length)).drop (Int.toNat i2)).take (Int.toNat 1)).drop 0) : List UInt8).length + (([39] : List UInt8) : List UInt8).length ≤ 9223372036854775807)) <|
  need (decide ((([46, 46] : List UInt8) : List UInt8).length + ((((([97, 98, 99, 100, 101, 102, 103, 104] : List UInt8).take ((([97, 98, 99, 100, 101, 102, 103, 104] : List UInt8) : List UInt8).length)).drop (Int.toNat i2)).take (Int.toNat 1)).drop 0 : List UInt8).length ≤ 9223372036854775807)) <|
  need (decide ((([46] : List UInt8) : List UInt8).length + ((((([97, 98, 99, 100, 101, 102, 103, 104] : List UInt8).take ((([97, 98, 99, 100, 101, 102, 103, 104] : List UInt8) : List UInt8).length)).drop (Int.toNat i2)).take (Int.toNat 1)).drop 0 : List UInt8).length ≤ 9223372036854775807)) <|
  need (decide ((([46] : List UInt8) ++ ((((([97, 98, 99, 100, 101, 102, 103, 104] : List UInt8).take ((([97, 98, 99, 100, 101, 102, 103, 104] : List UInt8) : List UInt8).length)).drop (Int.toNat i2)).take (Int.toNat 1)).drop 0) : List UInt8).length + (([64, 49] : List UInt8) : List UInt8).length ≤ 9223372036854775807)) <|
  need (apartB (((((((((((((((((((((((((((((((((((((((((([] : List (AV × AV)) ++ [(AV.str ([] : List UInt8), AV.int .i64 0)]) ++ [(AV.str (([46] : List UInt8) ++ ((((([97, 98, 99, 100, 101, 102, 103, 104] : List UInt8).take ((([97, 98, 99, 100, 101, 102, 103, 104] : List UInt8) : List UInt8).length)).drop (Int.toNat i2)).take (Int.toNat 1)).drop 0)), AV.int .i64 1)]) ++ [(AV.str ([64, 48] : List UInt8), AV.int .i64 1)]) ++ [(AV.str ([64, 42] : List UInt8), AV.int .i64 1)]) ++ [(AV.str (([64, 49, 50, 46] : List UInt8) ++ ((((([97, 98, 99, 100, 101, 102, 103, 104] : List UInt8).take ((([97, 98, 99, 100, 101, 102, 103, 104] : List UInt8) : List UInt8).length)).drop (Int.toNat i2)).take (Int.toNat 1)).drop 0)), AV.int .i64 2)]) ++ [(AV.str ((([46] : List UInt8) ++ ((((([97, 98, 99, 100, 101, 102, 103, 104] : List UInt8).take ((([97, 98, 99, 100, 101, 102, 103, 104] : List UInt8) : List UInt8).length)).drop (Int.toNat i2)).take (Int.toNat 1)).drop 0)) ++ ([91, 48, 93, 46, 98] : List UInt8)), AV.int .i64 3)]) ++ [(AV.str ([46, 46] : List UInt8), AV.int .i64 1)]) ++ [(AV.str ([46, 46, 46] : List UInt8), AV.int .i64 0)]) ++ [(AV.str (([46, 46, 46] : List UInt8) ++ ((((([97, 98, 99, 100, 101, 102, 103, 104] : List UInt8).take ((([97, 98, 99, 100, 101, 102, 103, 104] : List UInt8) : List UInt8).length)).drop (Int.toNat i2)).take (Int.toNat 1)).drop 0)), AV.int .i64 2)]) ++ [(AV.str ([46, 42] : List UInt8), AV.int .i64 1)]) ++ [(AV.str ([46, 42, 46, 42] : List UInt8), AV.int .i64 2)]) ++ [(AV.str ([91, 48, 93, 91, 49, 93] : List UInt8), AV.int .i64 2)]) ++ [(AV.str ((([46, 34] : List UInt8) ++ ((((([97, 98, 99, 100, 101, 102, 103, 104] : List UInt8).take ((([97, 98, 99, 100, 101, 102, 103, 104] : List UInt8) : List UInt8).length)).drop (Int.toNat i2)).take (Int.toNat 1)).drop 0)) ++ ([32, 98, 34] : List UInt8)), AV.int .i64 1)]) ++ [(AV.str ([46, 34, 34] : List UInt8), AV.int .i64 1)]) ++ [(AV.str ([46, 97, 45, 98, 95, 99] : List UInt8), AV.int .i64 1)]) ++ [(AV.str ([46, 46, 46, 46] : List UInt8), AV.int .i64 2)]) ++ [(AV.str ([64, 42, 46, 46] : List UInt8), AV.int .i64 2)]) ++ [(AV.str ([46, 49] : List UInt8), AV.int .i64 1)]) ++ [(AV.str ([91, 57, 57, 57, 57, 57, 57, 93] : List UInt8), AV.int .i64 1)]) ++ [(AV.str ((([46] : List UInt8) ++ ((((([97, 98, 99, 100, 101, 102, 103, 104] : List UInt8).take ((([97, 98, 99, 100, 101, 102, 103, 104] : List UInt8) : List UInt8).length)).drop (Int.toNat i2)).take (Int.toNat 1)).drop 0)) ++ ([42] : List UInt8)), AV.int .i64 0)]) ++ [(AV.str ([64] : List UInt8), AV.int .i64 0)]) ++ [(AV.str (([64] : List UInt8) ++ ((((([97, 98, 99, 100, 101, 102, 103, 104] : List UInt8).take ((([97, 98, 99, 100, 101, 102, 103, 104] : List UInt8) : List UInt8).length)).drop (Int.toNat i2)).take (Int.toNat 1)).drop 0)), AV.int .i64 0)]) ++ [(AV.str ([64, 48, 49] : List UInt8), AV.int .i64 0)]) ++ [(AV.str ([64, 49, 48, 48, 48, 48, 48, 48] : List UInt8), AV.int .i64 0)]) ++ [(AV.str ((((([97, 98, 99, 100, 101, 102, 103, 104] : List UInt8).take ((([97, 98, 99, 100, 101, 102, 103, 104] : List UInt8) : List UInt8).length)).drop (Int.toNat i2)).take (Int.toNat 1)).drop 0), AV.int .i64 0)]) ++ [(AV.str ([46] : List UInt8), AV.int .i64 0)]) ++ [(AV.str ([91] : List UInt8), AV.int .i64 0)]) ++ [(AV.str ([91, 93] : List UInt8), AV.int .i64 0)]) ++ [(AV.str ((([91] : List UInt8) ++ ((((([97, 98, 99, 100, 101, 102, 103, 104] : List UInt8).take ((([97, 98, 99, 100, 101, 102, 103, 104] : List UInt8) : List UInt8).length)).drop (Int.toNat i2)).take (Int.toNat 1)).drop 0)) ++ ([93] : List UInt8)), AV.int .i64 0)]) ++ [(AV.str ([91, 48, 49, 93] : List UInt8), AV.int .i64 0)]) ++ [(AV.str ([91, 45, 49, 93] : List UInt8), AV.int .i64 0)]) ++ [(AV.str ([91, 49] : List UInt8), AV.int .i64 0)]) ++ [(AV.str ([91, 49, 48, 48, 48, 48, 48, 48, 93] : List UInt8), AV.int .i64 0)]) ++ [(AV.str (([46, 32] : List UInt8) ++ ((((([97, 98, 99, 100, 101, 102, 103, 104] : List UInt8).take ((([97, 98, 99, 100, 101, 102, 103, 104] : List UInt8) : List UInt8).length)).drop (Int.toNat i2)).take (Int.toNat 1)).drop 0)), AV.int .i64 0)]) ++ [(AV.str ((([46] : List UInt8) ++ ((((([97, 98, 99, 100, 101, 102, 103, 104] : List UInt8).take ((([97, 98, 99, 100, 101, 102, 103, 104] : List UInt8) : List UInt8).length)).drop (Int.toNat i2)).take (Int.toNat 1)).drop 0)) ++ ([32] : List UInt8)), AV.int .i64 0)]) ++ [(AV.str (([46, 34] : List UInt8) ++ ((((([97, 98, 99, 100, 101, 102, 103, 104] : List UInt8).take ((([97, 98, 99, 100, 101, 102, 103, 104] : List UInt8) : List UInt8).length)).drop (Int.toNat i2)).take (Int.toNat 1)).drop 0)), AV.int .i64 0)]) ++ [(AV.str ((([46, 39] : List UInt8) ++ ((((([97, 98, 99, 100, 101, 102, 103, 104] : List UInt8).take ((([97, 98, 99, 100, 101, 102, 103, 104] : List UInt8) : List UInt8).length)).drop (Int.toNat i2)).take (Int.toNat 1)).drop 0)) ++ ([39] : List UInt8)), AV.int .i64 0)]) ++ [(AV.str ([42] : List UInt8), AV.int .i64 0)]) ++ [(AV.str (([46, 46] : List UInt8) ++ ((((([97, 98, 99, 100, 101, 102, 103, 104] : List UInt8).take ((([97, 98, 99, 100, 101, 102, 103, 104] : List UInt8) : List UInt8).length)).drop (Int.toNat i2)).take (Int.toNat 1)).drop 0)), AV.int .i64 0)]) ++ [(AV.str ((([46] : List UInt8) ++ ((((([97, 98, 99, 100, 101, 102, 103, 104] : List UInt8).take ((([97, 98, 99, 100, 101, 102, 103, 104] : List UInt8) : List UInt8).length)).drop (Int.toNat i2)).take (Int.toNat 1)).drop 0)) ++ ([64, 49] : List UInt8)), AV.int .i64 0)]) ++ [(AV.str ([64, 49, 64, 50] : List UInt8), AV.int .i64 0)])) <|
  law20PathForms_L1 R N
    (
      (R id_law20Wakes []).bind fun r3 =>
      asB r3.v fun b3 =>
      some ⟨AV.bool b3, false, []⟩)
    (fun b4 =>
      some ⟨AV.bool b4, false, []⟩)
    N (((((((((((((((((((((((((((((((((((((((((([] : List (AV × AV)) ++ [(AV.str ([] : List UInt8), AV.int .i64 0)]) ++ [(AV.str (([46] : List UInt8) ++ ((((([97, 98, 99, 100, 101, 102, 103, 104] : List UInt8).take ((([97, 98, 99, 100, 101, 102, 103, 104] : List UInt8) : List UInt8).length)).drop (Int.toNat i2)).take (Int.toNat 1)).drop 0)), AV.int .i64 1)]) ++ [(AV.str ([64, 48] : List UInt8), AV.int .i64 1)]) ++ [(AV.str ([64, 42] : List UInt8), AV.int .i64 1)]) ++ [(AV.str (([64, 49, 50, 46] : List UInt8) ++ ((((([97, 98, 99, 100, 101, 102, 103, 104] : List UInt8).take ((([97, 98, 99, 100, 101, 102, 103, 104] : List UInt8) : List UInt8).length)).drop (Int.toNat i2)).take (Int.toNat 1)).drop 0)), AV.int .i64 2)]) ++ [(AV.str ((([46] : List UInt8) ++ ((((([97, 98, 99, 100, 101, 102, 103, 104] : List UInt8).take ((([97, 98, 99, 100, 101, 102, 103, 104] : List UInt8) : List UInt8).length)).drop (Int.toNat i2)).take (Int.toNat 1)).drop 0)) ++ ([91, 48, 93, 46, 98] : List UInt8)), AV.int .i64 3)]) ++ [(AV.str ([46, 46] : List UInt8), AV.int .i64 1)]) ++ [(AV.str ([46, 46, 46] : List UInt8), AV.int .i64 0)]) ++ [(AV.str (([46, 46, 46] : List UInt8) ++ ((((([97, 98, 99, 100, 101, 102, 103, 104] : List UInt8).take ((([97, 98, 99, 100, 101, 102, 103, 104] : List UInt8) : List UInt8).length)).drop (Int.toNat i2)).take (Int.toNat 1)).drop 0)), AV.int .i64 2)]) ++ [(AV.str ([46, 42] : List UInt8), AV.int .i64 1)]) ++ [(AV.str ([46, 42, 46, 42] : List UInt8), AV.int .i64 2)]) ++ [(AV.str ([91, 48, 93, 91, 49, 93] : List UInt8), AV.int .i64 2)]) ++ [(AV.str ((([46, 34] : List UInt8) ++ ((((([97, 98, 99, 100, 101, 102, 103, 104] : List UInt8).take ((([97, 98, 99, 100, 101, 102, 103, 104] : List UInt8) : List UInt8).length)).drop (Int.toNat i2)).take (Int.toNat 1)).drop 0)) ++ ([32, 98, 34] : List UInt8)), AV.int .i64 1)]) ++ [(AV.str ([46, 34, 34] : List UInt8), AV.int .i64 1)]) ++ [(AV.str ([46, 97, 45, 98, 95, 99] : List UInt8), AV.int .i64 1)]) ++ [(AV.str ([46, 46, 46, 46] : List UInt8), AV.int .i64 2)]) ++ [(AV.str ([64, 42, 46, 46] : List UInt8), AV.int .i64 2)]) ++ [(AV.str ([46, 49] : List UInt8), AV.int .i64 1)]) ++ [(AV.str ([91, 57, 57, 57, 57, 57, 57, 93] : List UInt8), AV.int .i64 1)]) ++ [(AV.str ((([46] : List UInt8) ++ ((((([97, 98, 99, 100, 101, 102, 103, 104] : List UInt8).take ((([97, 98, 99, 100, 101, 102, 103, 104] : List UInt8) : List UInt8).length)).drop (Int.toNat i2)).take (Int.toNat 1)).drop 0)) ++ ([42] : List UInt8)), AV.int .i64 0)]) ++ [(AV.str ([64] : List UInt8), AV.int .i64 0)]) ++ [(AV.str (([64] : List UInt8) ++ ((((([97, 98, 99, 100, 101, 102, 103, 104] : List UInt8).take ((([97, 98, 99, 100, 101, 102, 103, 104] : List UInt8) : List UInt8).length)).drop (Int.toNat i2)).take (Int.toNat 1)).drop 0)), AV.int .i64 0)]) ++ [(AV.str ([64, 48, 49] : List UInt8), AV.int .i64 0)]) ++ [(AV.str ([64, 49, 48, 48, 48, 48, 48, 48] : List UInt8), AV.int .i64 0)]) ++ [(AV.str ((((([97, 98, 99, 100, 101, 102, 103, 104] : List UInt8).take ((([97, 98, 99, 100, 101, 102, 103, 104] : List UInt8) : List UInt8).length)).drop (Int.toNat i2)).take (Int.toNat 1)).drop 0), AV.int .i64 0)]) ++ [(AV.str ([46] : List UInt8), AV.int .i64 0)]) ++ [(AV.str ([91] : List UInt8), AV.int .i64 0)]) ++ [(AV.str ([91, 93] : List UInt8), AV.int .i64 0)]) ++ [(AV.str ((([91] : List UInt8) ++ ((((([97, 98, 99, 100, 101, 102, 103, 104] : List UInt8).take ((([97, 98, 99, 100, 101, 102, 103, 104] : List UInt8) : List UInt8).length)).drop (Int.toNat i2)).take (Int.toNat 1)).drop 0)) ++ ([93] : List UInt8)), AV.int .i64 0)]) ++ [(AV.str ([91, 48, 49, 93] : List UInt8), AV.int .i64 0)]) ++ [(AV.str ([91, 45, 49, 93] : List UInt8), AV.int .i64 0)]) ++ [(AV.str ([91, 49] : List UInt8), AV.int .i64 0)]) ++ [(AV.str ([91, 49, 48, 48, 48, 48, 48, 48, 93] : List UInt8), AV.int .i64 0)]) ++ [(AV.str (([46, 32] : List UInt8) ++ ((((([97, 98, 99, 100, 101, 102, 103, 104] : List UInt8).take ((([97, 98, 99, 100, 101, 102, 103, 104] : List UInt8) : List UInt8).length)).drop (Int.toNat i2)).take (Int.toNat 1)).drop 0)), AV.int .i64 0)]) ++ [(AV.str ((([46] : List UInt8) ++ ((((([97, 98, 99, 100, 101, 102, 103, 104] : List UInt8).take ((([97, 98, 99, 100, 101, 102, 103, 104] : List UInt8) : List UInt8).length)).drop (Int.toNat i2)).take (Int.toNat 1)).drop 0)) ++ ([32] : List UInt8)), AV.int .i64 0)]) ++ [(AV.str (([46, 34] : List UInt8) ++ ((((([97, 98, 99, 100, 101, 102, 103, 104] : List UInt8).take ((([97, 98, 99, 100, 101, 102, 103, 104] : List UInt8) : List UInt8).length)).drop (Int.toNat i2)).take (Int.toNat 1)).drop 0)), AV.int .i64 0)]) ++ [(AV.str ((([46, 39] : List UInt8) ++ ((((([97, 98, 99, 100, 101, 102, 103, 104] : List UInt8).take ((([97, 98, 99, 100, 101, 102, 103, 104] : List UInt8) : List UInt8).length)).drop (Int.toNat i2)).take (Int.toNat 1)).drop 0)) ++ ([39] : List UInt8)), AV.int .i64 0)]) ++ [(AV.str ([42] : List UInt8), AV.int .i64 0)]) ++ [(AV.str (([46, 46] : List UInt8) ++ ((((([97, 98, 99, 100, 101, 102, 103, 104] : List UInt8).take ((([97, 98, 99, 100, 101, 102, 103, 104] : List UInt8) : List UInt8).length)).drop (Int.toNat i2)).take (Int.toNat 1)).drop 0)), AV.int .i64 0)]) ++ [(AV.str ((([46] : List UInt8) ++ ((((([97, 98, 99, 100, 101, 102, 103, 104] : List UInt8).take ((([97, 98, 99, 100, 101, 102, 103, 104] : List UInt8) : List UInt8).length)).drop (Int.toNat i2)).take (Int.toNat 1)).drop 0)) ++ ([64, 49] : List UInt8)), AV.int .i64 0)]) ++ [(AV.str ([64, 49, 64, 50] : List UInt8), AV.int .i64 0)]) (none : Option (AV × AV))
theorem law20PathForms_eq (R : Nat → List AV → Option Res) (N : Nat) (i1 : Int) : runF gl R N law20PathForms [AV.int .i64 i1] = law20PathFormsr R N i1 := by
  refine Eq.trans (b :=
      (R id_keepWithin [AV.int .i64 i1, AV.int .i64 8]).bind fun r1 =>
      asI .i64 r1.v fun i2 =>
      need (decide (0 ≤ (i2 : Int)) && decide ((i2 : Int) ≤ (((([97, 98, 99, 100, 101, 102, 103, 104] : List UInt8) : List UInt8).length : Nat) : Int))) <|
      need (decide (0 ≤ (1 : Int)) && decide ((1 : Int) ≤ ((((([97, 98, 99, 100, 101, 102, 103, 104] : List UInt8).take ((([97, 98, 99, 100, 101, 102, 103, 104] : List UInt8) : List UInt8).length)).drop (Int.toNat i2) : List UInt8).length : Nat) : Int))) <|
      need (decide ((([46] : List UInt8) : List UInt8).length + ((((([97, 98, 99, 100, 101, 102, 103, 104] : List UInt8).take ((([97, 98, 99, 100, 101, 102, 103, 104] : List UInt8) : List UInt8).length)).drop (Int.toNat i2)).take (Int.toNat 1)).drop 0 : List UInt8).length ≤ 9223372036854775807)) <|
      need (decide ((([64, 49, 50, 46] : List UInt8) : List UInt8).length + ((((([97, 98, 99, 100, 101, 102, 103, 104] : List UInt8).take ((([97, 98, 99, 100, 101, 102, 103, 104] : List UInt8) : List UInt8).length)).drop (Int.toNat i2)).take (Int.toNat 1)).drop 0 : List UInt8).length ≤ 9223372036854775807)) <|
      need (decide ((([46] : List UInt8) : List UInt8).length + ((((([97, 98, 99, 100, 101, 102, 103, 104] : List UInt8).take ((([97, 98, 99, 100, 101, 102, 103, 104] : List UInt8) : List UInt8).length)).drop (Int.toNat i2)).take (Int.toNat 1)).drop 0 : List UInt8).length ≤ 9223372036854775807)) <|
      need (decide ((([46] : List UInt8) ++ ((((([97, 98, 99, 100, 101, 102, 103, 104] : List UInt8).take ((([97, 98, 99, 100, 101, 102, 103, 104] : List UInt8) : List UInt8).length)).drop (Int.toNat i2)).take (Int.toNat 1)).drop 0) : List UInt8).length + (([91, 48, 93, 46, 98] : List UInt8) : List UInt8).length ≤ 9223372036854775807)) <|
      need (decide ((([46, 46, 46] : List UInt8) : List UInt8).length + ((((([97, 98, 99, 100, 101, 102, 103, 104] : List UInt8).take ((([97, 98, 99, 100, 101, 102, 103, 104] : List UInt8) : List UInt8).length)).drop (Int.toNat i2)).take (Int.toNat 1)).drop 0 : List UInt8).length ≤ 9223372036854775807)) <|
      need (decide ((([46, 34] : List UInt8) : List UInt8).length + ((((([97, 98, 99, 100, 101, 102, 103, 104] : List UInt8).take ((([97, 98, 99, 100, 101, 102, 103, 104] : List UInt8) : List UInt8).length)).drop (Int.toNat i2)).take (Int.toNat 1)).drop 0 : List UInt8).length ≤ 9223372036854775807)) <|
      need (decide ((([46, 34] : List UInt8) ++ ((((([97, 98, 99, 100, 101, 102, 103, 104] : List UInt8).take ((([97, 98, 99, 100, 101, 102, 103, 104] : List UInt8) : List UInt8).length)).drop (Int.toNat i2)).take (Int.toNat 1)).drop 0) : List UInt8).length + (([32, 98, 34] : List UInt8) : List UInt8).length ≤ 9223372036854775807)) <|
      need (decide ((([46] : List UInt8) : List UInt8).length + ((((([97, 98, 99, 100, 101, 102, 103, 104] : List UInt8).take ((([97, 98, 99, 100, 101, 102, 103, 104] : List UInt8) : List UInt8).length)).drop (Int.toNat i2)).take (Int.toNat 1)).drop 0 : List UInt8).length ≤ 9223372036854775807)) <|
      need (decide ((([46] : List UInt8) ++ ((((([97, 98, 99, 100, 101, 102, 103, 104] : List UInt8).take ((([97, 98, 99, 100, 101, 102, 103, 104] : List UInt8) : List UInt8).length)).drop (Int.toNat i2)).take (Int.toNat 1)).drop 0) : List UInt8).length + (([42] : List UInt8) : List UInt8).length ≤ 9223372036854775807)) <|
      need (decide ((([64] : List UInt8) : List UInt8).length + ((((([97, 98, 99, 100, 101, 102, 103, 104] : List UInt8).take ((([97, 98, 99, 100, 101, 102, 103, 104] : List UInt8) : List UInt8).length)).drop (Int.toNat i2)).take (Int.toNat 1)).drop 0 : List UInt8).length ≤ 9223372036854775807)) <|
      need (decide ((([91] : List UInt8) : List UInt8).length + ((((([97, 98, 99, 100, 101, 102, 103, 104] : List UInt8).take ((([97, 98, 99, 100, 101, 102, 103, 104] : List UInt8) : List UInt8).length)).drop (Int.toNat i2)).take (Int.toNat 1)).drop 0 : List UInt8).length ≤ 9223372036854775807)) <|
      need (decide ((([91] : List UInt8) ++ ((((([97, 98, 99, 100, 101, 102, 103, 104] : List UInt8).take ((([97, 98, 99, 100, 101, 102, 103, 104] : List UInt8) : List UInt8).length)).drop (Int.toNat i2)).take (Int.toNat 1)).drop 0) : List UInt8).length + (([93] : List UInt8) : List UInt8).length ≤ 9223372036854775807)) <|
      need (decide ((([46, 32] : List UInt8) : List UInt8).length + ((((([97, 98, 99, 100, 101, 102, 103, 104] : List UInt8).take ((([97, 98, 99, 100, 101, 102, 103, 104] : List UInt8) : List UInt8).length)).drop (Int.toNat i2)).take (Int.toNat 1)).drop 0 : List UInt8).length ≤ 9223372036854775807)) <|
      need (decide ((([46] : List UInt8) : List UInt8).length + ((((([97, 98, 99, 100, 101, 102, 103, 104] : List UInt8).take ((([97, 98, 99, 100, 101, 102, 103, 104] : List UInt8) : List UInt8).length)).drop (Int.toNat i2)).take (Int.toNat 1)).drop 0 : List UInt8).length ≤ 9223372036854775807)) <|
      need (decide ((([46] : List UInt8) ++ ((((([97, 98, 99, 100, 101, 102, 103, 104] : List UInt8).take ((([97, 98, 99, 100, 101, 102, 103, 104] : List UInt8) : List UInt8).length)).drop (Int.toNat i2)).take (Int.toNat 1)).drop 0) : List UInt8).length + (([32] : List UInt8) : List UInt8).length ≤ 9223372036854775807)) <|
      need (decide ((([46, 34] : List UInt8) : List UInt8).length + ((((([97, 98, 99, 100, 101, 102, 103, 104] : List UInt8).take ((([97, 98, 99, 100, 101, 102, 103, 104] : List UInt8) : List UInt8).length)).drop (Int.toNat i2)).take (Int.toNat 1)).drop 0 : List UInt8).length ≤ 9223372036854775807)) <|
      need (decide ((([46, 39] : List UInt8) : List UInt8).length + ((((([97, 98, 99, 100, 101, 102, 103, 104] : List UInt8).take ((([97, 98, 99, 100, 101, 102, 103, 104] : List UInt8) : List UInt8).length)).drop (Int.toNat i2)).take (Int.toNat 1)).drop 0 : List UInt8).length ≤ 9223372036854775807)) <|
      need (decide ((([46, 39] : List UInt8) ++ ((((([97, 98, 99, 100, 101, 102, 103, 104] : List UInt8).take ((([97, 98, 99, 100, 101, 102, 103, 104] : List UInt8) : List UInt8).length)).drop (Int.toNat i2)).take (Int.toNat 1)).drop 0) : List UInt8).length + (([39] : List UInt8) : List UInt8).length ≤ 9223372036854775807)) <|
      need (decide ((([46, 46] : List UInt8) : List UInt8).length + ((((([97, 98, 99, 100, 101, 102, 103, 104] : List UInt8).take ((([97, 98, 99, 100, 101, 102, 103, 104] : List UInt8) : List UInt8).length)).drop (Int.toNat i2)).take (Int.toNat 1)).drop 0 : List UInt8).length ≤ 9223372036854775807)) <|
      need (decide ((([46] : List UInt8) : List UInt8).length + ((((([97, 98, 99, 100, 101, 102, 103, 104] : List UInt8).take ((([97, 98, 99, 100, 101, 102, 103, 104] : List UInt8) : List UInt8).length)).drop (Int.toNat i2)).take (Int.toNat 1)).drop 0 : List UInt8).length ≤ 9223372036854775807)) <|
      need (decide ((([46] : List UInt8) ++ ((((([97, 98, 99, 100, 101, 102, 103, 104] : List UInt8).take ((([97, 98, 99, 100, 101, 102, 103, 104] : List UInt8) : List UInt8).length)).drop (Int.toNat i2)).take (Int.toNat 1)).drop 0) : List UInt8).length + (([64, 49] : List UInt8) : List UInt8).length ≤ 9223372036854775807)) <|
      need (apartB (((((((((((((((((((((((((((((((((((((((((([] : List (AV × AV)) ++ [(AV.str ([] : List UInt8), AV.int .i64 0)]) ++ [(AV.str (([46] : List UInt8) ++ ((((([97, 98, 99, 100, 101, 102, 103, 104] : List UInt8).take ((([97, 98, 99, 100, 101, 102, 103, 104] : List UInt8) : List UInt8).length)).drop (Int.toNat i2)).take (Int.toNat 1)).drop 0)), AV.int .i64 1)]) ++ [(AV.str ([64, 48] : List UInt8), AV.int .i64 1)]) ++ [(AV.str ([64, 42] : List UInt8), AV.int .i64 1)]) ++ [(AV.str (([64, 49, 50, 46] : List UInt8) ++ ((((([97, 98, 99, 100, 101, 102, 103, 104] : List UInt8).take ((([97, 98, 99, 100, 101, 102, 103, 104] : List UInt8) : List UInt8).length)).drop (Int.toNat i2)).take (Int.toNat 1)).drop 0)), AV.int .i64 2)]) ++ [(AV.str ((([46] : List UInt8) ++ ((((([97, 98, 99, 100, 101, 102, 103, 104] : List UInt8).take ((([97, 98, 99, 100, 101, 102, 103, 104] : List UInt8) : List UInt8).length)).drop (Int.toNat i2)).take (Int.toNat 1)).drop 0)) ++ ([91, 48, 93, 46, 98] : List UInt8)), AV.int .i64 3)]) ++ [(AV.str ([46, 46] : List UInt8), AV.int .i64 1)]) ++ [(AV.str ([46, 46, 46] : List UInt8), AV.int .i64 0)]) ++ [(AV.str (([46, 46, 46] : List UInt8) ++ ((((([97, 98, 99, 100, 101, 102, 103, 104] : List UInt8).take ((([97, 98, 99, 100, 101, 102, 103, 104] : List UInt8) : List UInt8).length)).drop (Int.toNat i2)).take (Int.toNat 1)).drop 0)), AV.int .i64 2)]) ++ [(AV.str ([46, 42] : List UInt8), AV.int .i64 1)]) ++ [(AV.str ([46, 42, 46, 42] : List UInt8), AV.int .i64 2)]) ++ [(AV.str ([91, 48, 93, 91, 49, 93] : List UInt8), AV.int .i64 2)]) ++ [(AV.str ((([46, 34] : List UInt8) ++ ((((([97, 98, 99, 100, 101, 102, 103, 104] : List UInt8).take ((([97, 98, 99, 100, 101, 102, 103, 104] : List UInt8) : List UInt8).length)).drop (Int.toNat i2)).take (Int.toNat 1)).drop 0)) ++ ([32, 98, 34] : List UInt8)), AV.int .i64 1)]) ++ [(AV.str ([46, 34, 34] : List UInt8), AV.int .i64 1)]) ++ [(AV.str ([46, 97, 45, 98, 95, 99] : List UInt8), AV.int .i64 1)]) ++ [(AV.str ([46, 46, 46, 46] : List UInt8), AV.int .i64 2)]) ++ [(AV.str ([64, 42, 46, 46] : List UInt8), AV.int .i64 2)]) ++ [(AV.str ([46, 49] : List UInt8), AV.int .i64 1)]) ++ [(AV.str ([91, 57, 57, 57, 57, 57, 57, 93] : List UInt8), AV.int .i64 1)]) ++ [(AV.str ((([46] : List UInt8) ++ ((((([97, 98, 99, 100, 101, 102, 103, 104] : List UInt8).take ((([97, 98, 99, 100, 101, 102, 103, 104] : List UInt8) : List UInt8).length)).drop (Int.toNat i2)).take (Int.toNat 1)).drop 0)) ++ ([42] : List UInt8)), AV.int .i64 0)]) ++ [(AV.str ([64] : List UInt8), AV.int .i64 0)]) ++ [(AV.str (([64] : List UInt8) ++ ((((([97, 98, 99, 100, 101, 102, 103, 104] : List UInt8).take ((([97, 98, 99, 100, 101, 102, 103, 104] : List UInt8) : List UInt8).length)).drop (Int.toNat i2)).take (Int.toNat 1)).drop 0)), AV.int .i64 0)]) ++ [(AV.str ([64, 48, 49] : List UInt8), AV.int .i64 0)]) ++ [(AV.str ([64, 49, 48, 48, 48, 48, 48, 48] : List UInt8), AV.int .i64 0)]) ++ [(AV.str ((((([97, 98, 99, 100, 101, 102, 103, 104] : List UInt8).take ((([97, 98, 99, 100, 101, 102, 103, 104] : List UInt8) : List UInt8).length)).drop (Int.toNat i2)).take (Int.toNat 1)).drop 0), AV.int .i64 0)]) ++ [(AV.str ([46] : List UInt8), AV.int .i64 0)]) ++ [(AV.str ([91] : List UInt8), AV.int .i64 0)]) ++ [(AV.str ([91, 93] : List UInt8), AV.int .i64 0)]) ++ [(AV.str ((([91] : List UInt8) ++ ((((([97, 98, 99, 100, 101, 102, 103, 104] : List UInt8).take ((([97, 98, 99, 100, 101, 102, 103, 104] : List UInt8) : List UInt8).length)).drop (Int.toNat i2)).take (Int.toNat 1)).drop 0)) ++ ([93] : List UInt8)), AV.int .i64 0)]) ++ [(AV.str ([91, 48, 49, 93] : List UInt8), AV.int .i64 0)]) ++ [(AV.str ([91, 45, 49, 93] : List UInt8), AV.int .i64 0)]) ++ [(AV.str ([91, 49] : List UInt8), AV.int .i64 0)]) ++ [(AV.str ([91, 49, 48, 48, 48, 48, 48, 48, 93] : List UInt8), AV.int .i64 0)]) ++ [(AV.str (([46, 32] : List UInt8) ++ ((((([97, 98, 99, 100, 101, 102, 103, 104] : List UInt8).take ((([97, 98, 99, 100, 101, 102, 103, 104] : List UInt8) : List UInt8).length)).drop (Int.toNat i2)).take (Int.toNat 1)).drop 0)), AV.int .i64 0)]) ++ [(AV.str ((([46] : List UInt8) ++ ((((([97, 98, 99, 100, 101, 102, 103, 104] : List UInt8).take ((([97, 98, 99, 100, 101, 102, 103, 104] : List UInt8) : List UInt8).length)).drop (Int.toNat i2)).take (Int.toNat 1)).drop 0)) ++ ([32] : List UInt8)), AV.int .i64 0)]) ++ [(AV.str (([46, 34] : List UInt8) ++ ((((([97, 98, 99, 100, 101, 102, 103, 104] : List UInt8).take ((([97, 98, 99, 100, 101, 102, 103, 104] : List UInt8) : List UInt8).length)).drop (Int.toNat i2)).take (Int.toNat 1)).drop 0)), AV.int .i64 0)]) ++ [(AV.str ((([46, 39] : List UInt8) ++ ((((([97, 98, 99, 100, 101, 102, 103, 104] : List UInt8).take ((([97, 98, 99, 100, 101, 102, 103, 104] : List UInt8) : List UInt8).length)).drop (Int.toNat i2)).take (Int.toNat 1)).drop 0)) ++ ([39] : List UInt8)), AV.int .i64 0)]) ++ [(AV.str ([42] : List UInt8), AV.int .i64 0)]) ++ [(AV.str (([46, 46] : List UInt8) ++ ((((([97, 98, 99, 100, 101, 102, 103, 104] : List UInt8).take ((([97, 98, 99, 100, 101, 102, 103, 104] : List UInt8) : List UInt8).length)).drop (Int.toNat i2)).take (Int.toNat 1)).drop 0)), AV.int .i64 0)]) ++ [(AV.str ((([46] : List UInt8) ++ ((((([97, 98, 99, 100, 101, 102, 103, 104] : List UInt8).take ((([97, 98, 99, 100, 101, 102, 103, 104] : List UInt8) : List UInt8).length)).drop (Int.toNat i2)).take (Int.toNat 1)).drop 0)) ++ ([64, 49] : List UInt8)), AV.int .i64 0)]) ++ [(AV.str ([64, 49, 64, 50] : List UInt8), AV.int .i64 0)])) <|
      rounds [50] [1050] (evC gl R N law20PathForms_c0) (Kblock 0 (Kthen gl R N law20PathForms_c1 (Kret law20PathForms.rets []))) N ⟨[(50, .ptr 1050 0 0)], [(1050, .miter (((((((((((((((((((((((((((((((((((((((((([] : List (AV × AV)) ++ [(AV.str ([] : List UInt8), AV.int .i64 0)]) ++ [(AV.str (([46] : List UInt8) ++ ((((([97, 98, 99, 100, 101, 102, 103, 104] : List UInt8).take ((([97, 98, 99, 100, 101, 102, 103, 104] : List UInt8) : List UInt8).length)).drop (Int.toNat i2)).take (Int.toNat 1)).drop 0)), AV.int .i64 1)]) ++ [(AV.str ([64, 48] : List UInt8), AV.int .i64 1)]) ++ [(AV.str ([64, 42] : List UInt8), AV.int .i64 1)]) ++ [(AV.str (([64, 49, 50, 46] : List UInt8) ++ ((((([97, 98, 99, 100, 101, 102, 103, 104] : List UInt8).take ((([97, 98, 99, 100, 101, 102, 103, 104] : List UInt8) : List UInt8).length)).drop (Int.toNat i2)).take (Int.toNat 1)).drop 0)), AV.int .i64 2)]) ++ [(AV.str ((([46] : List UInt8) ++ ((((([97, 98, 99, 100, 101, 102, 103, 104] : List UInt8).take ((([97, 98, 99, 100, 101, 102, 103, 104] : List UInt8) : List UInt8).length)).drop (Int.toNat i2)).take (Int.toNat 1)).drop 0)) ++ ([91, 48, 93, 46, 98] : List UInt8)), AV.int .i64 3)]) ++ [(AV.str ([46, 46] : List UInt8), AV.int .i64 1)]) ++ [(AV.str ([46, 46, 46] : List UInt8), AV.int .i64 0)]) ++ [(AV.str (([46, 46, 46] : List UInt8) ++ ((((([97, 98, 99, 100, 101, 102, 103, 104] : List UInt8).take ((([97, 98, 99, 100, 101, 102, 103, 104] : List UInt8) : List UInt8).length)).drop (Int.toNat i2)).take (Int.toNat 1)).drop 0)), AV.int .i64 2)]) ++ [(AV.str ([46, 42] : List UInt8), AV.int .i64 1)]) ++ [(AV.str ([46, 42, 46, 42] : List UInt8), AV.int .i64 2)]) ++ [(AV.str ([91, 48, 93, 91, 49, 93] : List UInt8), AV.int .i64 2)]) ++ [(AV.str ((([46, 34] : List UInt8) ++ ((((([97, 98, 99, 100, 101, 102, 103, 104] : List UInt8).take ((([97, 98, 99, 100, 101, 102, 103, 104] : List UInt8) : List UInt8).length)).drop (Int.toNat i2)).take (Int.toNat 1)).drop 0)) ++ ([32, 98, 34] : List UInt8)), AV.int .i64 1)]) ++ [(AV.str ([46, 34, 34] : List UInt8), AV.int .i64 1)]) ++ [(AV.str ([46, 97, 45, 98, 95, 99] : List UInt8), AV.int .i64 1)]) ++ [(AV.str ([46, 46, 46, 46] : List UInt8), AV.int .i64 2)]) ++ [(AV.str ([64, 42, 46, 46] : List UInt8), AV.int .i64 2)]) ++ [(AV.str ([46, 49] : List UInt8), AV.int .i64 1)]) ++ [(AV.str ([91, 57, 57, 57, 57, 57, 57, 93] : List UInt8), AV.int .i64 1)]) ++ [(AV.str ((([46] : List UInt8) ++ ((((([97, 98, 99, 100, 101, 102, 103, 104] : List UInt8).take ((([97, 98, 99, 100, 101, 102, 103, 104] : List UInt8) : List UInt8).length)).drop (Int.toNat i2)).take (Int.toNat 1)).drop 0)) ++ ([42] : List UInt8)), AV.int .i64 0)]) ++ [(AV.str ([64] : List UInt8), AV.int .i64 0)]) ++ [(AV.str (([64] : List UInt8) ++ ((((([97, 98, 99, 100, 101, 102, 103, 104] : List UInt8).take ((([97, 98, 99, 100, 101, 102, 103, 104] : List UInt8) : List UInt8).length)).drop (Int.toNat i2)).take (Int.toNat 1)).drop 0)), AV.int .i64 0)]) ++ [(AV.str ([64, 48, 49] : List UInt8), AV.int .i64 0)]) ++ [(AV.str ([64, 49, 48, 48, 48, 48, 48, 48] : List UInt8), AV.int .i64 0)]) ++ [(AV.str ((((([97, 98, 99, 100, 101, 102, 103, 104] : List UInt8).take ((([97, 98, 99, 100, 101, 102, 103, 104] : List UInt8) : List UInt8).length)).drop (Int.toNat i2)).take (Int.toNat 1)).drop 0), AV.int .i64 0)]) ++ [(AV.str ([46] : List UInt8), AV.int .i64 0)]) ++ [(AV.str ([91] : List UInt8), AV.int .i64 0)]) ++ [(AV.str ([91, 93] : List UInt8), AV.int .i64 0)]) ++ [(AV.str ((([91] : List UInt8) ++ ((((([97, 98, 99, 100, 101, 102, 103, 104] : List UInt8).take ((([97, 98, 99, 100, 101, 102, 103, 104] : List UInt8) : List UInt8).length)).drop (Int.toNat i2)).take (Int.toNat 1)).drop 0)) ++ ([93] : List UInt8)), AV.int .i64 0)]) ++ [(AV.str ([91, 48, 49, 93] : List UInt8), AV.int .i64 0)]) ++ [(AV.str ([91, 45, 49, 93] : List UInt8), AV.int .i64 0)]) ++ [(AV.str ([91, 49] : List UInt8), AV.int .i64 0)]) ++ [(AV.str ([91, 49, 48, 48, 48, 48, 48, 48, 93] : List UInt8), AV.int .i64 0)]) ++ [(AV.str (([46, 32] : List UInt8) ++ ((((([97, 98, 99, 100, 101, 102, 103, 104] : List UInt8).take ((([97, 98, 99, 100, 101, 102, 103, 104] : List UInt8) : List UInt8).length)).drop (Int.toNat i2)).take (Int.toNat 1)).drop 0)), AV.int .i64 0)]) ++ [(AV.str ((([46] : List UInt8) ++ ((((([97, 98, 99, 100, 101, 102, 103, 104] : List UInt8).take ((([97, 98, 99, 100, 101, 102, 103, 104] : List UInt8) : List UInt8).length)).drop (Int.toNat i2)).take (Int.toNat 1)).drop 0)) ++ ([32] : List UInt8)), AV.int .i64 0)]) ++ [(AV.str (([46, 34] : List UInt8) ++ ((((([97, 98, 99, 100, 101, 102, 103, 104] : List UInt8).take ((([97, 98, 99, 100, 101, 102, 103, 104] : List UInt8) : List UInt8).length)).drop (Int.toNat i2)).take (Int.toNat 1)).drop 0)), AV.int .i64 0)]) ++ [(AV.str ((([46, 39] : List UInt8) ++ ((((([97, 98, 99, 100, 101, 102, 103, 104] : List UInt8).take ((([97, 98, 99, 100, 101, 102, 103, 104] : List UInt8) : List UInt8).length)).drop (Int.toNat i2)).take (Int.toNat 1)).drop 0)) ++ ([39] : List UInt8)), AV.int .i64 0)]) ++ [(AV.str ([42] : List UInt8), AV.int .i64 0)]) ++ [(AV.str (([46, 46] : List UInt8) ++ ((((([97, 98, 99, 100, 101, 102, 103, 104] : List UInt8).take ((([97, 98, 99, 100, 101, 102, 103, 104] : List UInt8) : List UInt8).length)).drop (Int.toNat i2)).take (Int.toNat 1)).drop 0)), AV.int .i64 0)]) ++ [(AV.str ((([46] : List UInt8) ++ ((((([97, 98, 99, 100, 101, 102, 103, 104] : List UInt8).take ((([97, 98, 99, 100, 101, 102, 103, 104] : List UInt8) : List UInt8).length)).drop (Int.toNat i2)).take (Int.toNat 1)).drop 0)) ++ ([64, 49] : List UInt8)), AV.int .i64 0)]) ++ [(AV.str ([64, 49, 64, 50] : List UInt8), AV.int .i64 0)]) (none : Option (AV × AV)))]⟩) (by kernel_rfl) ?_
  simp (config := { maxSteps := 100000000 }) only [law20PathForms_L1_eq]
  kernel_rfl
theorem law20PathForms_fit : fitF Tryd.prog law20PathForms Tryd.f5 = true := by
  kernel_rfl

def law20PathLong_L1s (R : Nat → List AV → Option Res) (N : Nat) (go : Int → Int → Bool → List UInt8 → Int → Option Res) (k0 : Int → Int → Bool → List UInt8 → Option Res) (i4 : Int) (i5 : Int) (b2 : Bool) (s1 : List UInt8) (i6 : Int) : Option Res :=
  bif decide ((i6 : Int) < i4) then
    (need (decide (s1.length + (([46, 97] : List UInt8) : List UInt8).length ≤ 9223372036854775807)) <|
    go i4 i5 b2 (s1 ++ ([46, 97] : List UInt8)) (IntKind.i64.wrap (i6 + 1)))
  else
    k0 i4 i5 b2 s1
def law20PathLong_L1 (R : Nat → List AV → Option Res) (N : Nat) (k0 : Int → Int → Bool → List UInt8 → Option Res) : Nat → Int → Int → Bool → List UInt8 → Int → Option Res
  | 0, _, _, _, _, _ => none
  | n + 1, i4, i5, b2, s1, i6 => law20PathLong_L1s R N (law20PathLong_L1 R N k0 n) k0 i4 i5 b2 s1 i6
def law20PathLong_c0 : AC := .seq (.seq (.region [.op (some 20) none (.mv (.t 8)), .op (some 21) none (.mv (.t 0)), .op (some 22) none (.bin .lss (.t 20) (.t 21))]) (.cond (.t 22) (.skip) (.exit 0 [0, 1, 2, 7] []))) (.seq (.block 1 (.region [.op (some 25) none (.mv (.t 7)), .op (some 26) none (.bin .add (.t 25) (.k (AV.str ([46, 97] : List UInt8)))), .op (some 7) none (.mv (.t 26))])) (.region [.op (some 23) none (.mv (.t 8)), .op (some 24) none (.bin .add (.t 23) (.k (AV.int .i64 1))), .op (some 8) none (.mv (.t 24))]))
theorem law20PathLong_L1s_eq (R : Nat → List AV → Option Res) (N : Nat) (K : Ex → St → Option Res) (W : St → Option Res) (i4 : Int) (i5 : Int) (b2 : Bool) (s1 : List UInt8) (i6 : Int) :
    evC gl R N law20PathLong_c0 (Kseq (fun st' => W (prune [0, 1, 2, 7, 8] [] st')) K) ⟨[(0, .imm (AV.int .i64 i4)), (1, .imm (AV.int .i64 i5)), (2, .imm (AV.bool b2)), (7, .imm (AV.str s1)), (8, .imm (AV.int .i64 i6))], []⟩ =
    law20PathLong_L1s R N (fun (i4 : Int) (i5 : Int) (b2 : Bool) (s1 : List UInt8) (i6 : Int) => W ⟨[(0, .imm (AV.int .i64 i4)), (1, .imm (AV.int .i64 i5)), (2, .imm (AV.bool b2)), (7, .imm (AV.str s1)), (8, .imm (AV.int .i64 i6))], []⟩) (fun (i7 : Int) (i8 : Int) (b3 : Bool) (s2 : List UInt8) => K (.exit 0) ⟨[(0, .imm (AV.int .i64 i7)), (1, .imm (AV.int .i64 i8)), (2, .imm (AV.bool b3)), (7, .imm (AV.str s2))], []⟩) i4 i5 b2 s1 i6 := by
  kernel_rfl
theorem law20PathLong_L1_eq (R : Nat → List AV → Option Res) (N : Nat) (K : Ex → St → Option Res) : ∀ (n : Nat) (i4 : Int) (i5 : Int) (b2 : Bool) (s1 : List UInt8) (i6 : Int),
    rounds [0, 1, 2, 7, 8] [] (evC gl R N law20PathLong_c0) K n ⟨[(0, .imm (AV.int .i64 i4)), (1, .imm (AV.int .i64 i5)), (2, .imm (AV.bool b2)), (7, .imm (AV.str s1)), (8, .imm (AV.int .i64 i6))], []⟩ = law20PathLong_L1 R N (fun (i7 : Int) (i8 : Int) (b3 : Bool) (s2 : List UInt8) => K (.exit 0) ⟨[(0, .imm (AV.int .i64 i7)), (1, .imm (AV.int .i64 i8)), (2, .imm (AV.bool b3)), (7, .imm (AV.str s2))], []⟩) n i4 i5 b2 s1 i6
  | 0, _, _, _, _, _ => rfl
  | n + 1, i4, i5, b2, s1, i6 => (law20PathLong_L1s_eq R N K (rounds [0, 1, 2, 7, 8] [] (evC gl R N law20PathLong_c0) K n) i4 i5 b2 s1 i6).trans
      (congrArg (fun go => law20PathLong_L1s R N go (fun (i7 : Int) (i8 : Int) (b3 : Bool) (s2 : List UInt8) => K (.exit 0) ⟨[(0, .imm (AV.int .i64 i7)), (1, .imm (AV.int .i64 i8)), (2, .imm (AV.bool b3)), (7, .imm (AV.str s2))], []⟩) i4 i5 b2 s1 i6) (funext fun i4 => funext fun i5 => funext fun b2 => funext fun s1 => funext fun i6 => law20PathLong_L1_eq R N K n i4 i5 b2 s1 i6))
def law20PathLong_L2s (R : Nat → List AV → Option Res) (N : Nat) (go : Int → List UInt8 → Int → Option Res) (k0 : Int → List UInt8 → Option Res) (i15 : Int) (s5 : List UInt8) (i16 : Int) : Option Res :=
  bif decide ((i16 : Int) < i15) then
    (need (decide (s5.length + (([32] : List UInt8) : List UInt8).length ≤ 9223372036854775807)) <|
    go i15 (s5 ++ ([32] : List UInt8)) (IntKind.i64.wrap (i16 + 1)))
  else
    k0 i15 s5
def law20PathLong_L2 (R : Nat → List AV → Option Res) (N : Nat) (k0 : Int → List UInt8 → Option Res) : Nat → Int → List UInt8 → Int → Option Res
  | 0, _, _, _ => none
  | n + 1, i15, s5, i16 => law20PathLong_L2s R N (law20PathLong_L2 R N k0 n) k0 i15 s5 i16
def law20PathLong_c1 : AC := .seq (.seq (.region [.op (some 56) none (.mv (.t 13)), .op (some 57) none (.mv (.t 1)), .op (some 58) none (.bin .lss (.t 56) (.t 57))]) (.cond (.t 58) (.skip) (.exit 2 [1, 12] []))) (.seq (.block 3 (.region [.op (some 61) none (.mv (.t 12)), .op (some 62) none (.bin .add (.t 61) (.k (AV.str ([32] : List UInt8)))), .op (some 12) none (.mv (.t 62))])) (.region [.op (some 59) none (.mv (.t 13)), .op (some 60) none (.bin .add (.t 59) (.k (AV.int .i64 1))), .op (some 13) none (.mv (.t 60))]))
theorem law20PathLong_L2s_eq (R : Nat → List AV → Option Res) (N : Nat) (K : Ex → St → Option Res) (W : St → Option Res) (i15 : Int) (s5 : List UInt8) (i16 : Int) :
    evC gl R N law20PathLong_c1 (Kseq (fun st' => W (prune [1, 12, 13] [] st')) K) ⟨[(1, .imm (AV.int .i64 i15)), (12, .imm (AV.str s5)), (13, .imm (AV.int .i64 i16))], []⟩ =
    law20PathLong_L2s R N (fun (i15 : Int) (s5 : List UInt8) (i16 : Int) => W ⟨[(1, .imm (AV.int .i64 i15)), (12, .imm (AV.str s5)), (13, .imm (AV.int .i64 i16))], []⟩) (fun (i17 : Int) (s6 : List UInt8) => K (.exit 2) ⟨[(1, .imm (AV.int .i64 i17)), (12, .imm (AV.str s6))], []⟩) i15 s5 i16 := by
  kernel_rfl
theorem law20PathLong_L2_eq (R : Nat → List AV → Option Res) (N : Nat) (K : Ex → St → Option Res) : ∀ (n : Nat) (i15 : Int) (s5 : List UInt8) (i16 : Int),
    rounds [1, 12, 13] [] (evC gl R N law20PathLong_c1) K n ⟨[(1, .imm (AV.int .i64 i15)), (12, .imm (AV.str s5)), (13, .imm (AV.int .i64 i16))], []⟩ = law20PathLong_L2 R N (fun (i17 : Int) (s6 : List UInt8) => K (.exit 2) ⟨[(1, .imm (AV.int .i64 i17)), (12, .imm (AV.str s6))], []⟩) n i15 s5 i16
  | 0, _, _, _ => rfl
  | n + 1, i15, s5, i16 => (law20PathLong_L2s_eq R N K (rounds [1, 12, 13] [] (evC gl R N law20PathLong_c1) K n) i15 s5 i16).trans
      (congrArg (fun go => law20PathLong_L2s R N go (fun (i17 : Int) (s6 : List UInt8) => K (.exit 2) ⟨[(1, .imm (AV.int .i64 i17)), (12, .imm (AV.str s6))], []⟩) i15 s5 i16) (funext fun i15 => funext fun s5 => funext fun i16 => law20PathLong_L2_eq R N K n i15 s5 i16))
def law20PathLong_c2 : AC := .seq (.region [.op (some 64) none (.mv (.t 12)), .op (some 65) none (.bin .add (.k (AV.str ([46, 34] : List UInt8))) (.t 64)), .op (some 66) none (.bin .add (.t 65) (.k (AV.str ([34] : List UInt8)))), .op (some 67) none (.call id_pathParse [.t 66] (.tup [.row 3, .int .i64])), .op (some 63) none (.mv (.t 67)), .op (some 68) none (.extract (.t 63) 0), .op (some 69) none (.extract (.t 63) 1), .op (some 14) none (.mv (.t 68)), .op (some 15) none (.mv (.t 69))]) (.seq (.seq (.region [.op (some 70) none (.mv (.t 1)), .op (some 71) none (.bin .gtr (.t 70) (.k (AV.int .i64 128)))]) (.cond (.t 71) (.seq (.region [.op (some 72) none (.mv (.t 15)), .op (some 73) none (.bin .eql (.t 72) (.k (AV.int .i64 10))), .op (some 74) none (.mv (.t 73)), .split 74, .op (some 75) (some (74, true)) (.mv (.t 14)), .op (some 76) (some (74, true)) (.len (.t 75) false), .op (some 77) (some (74, true)) (.bin .eql (.t 76) (.k (AV.int .i64 0))), .op (some 78) none (.pick (.t 74) (.t 77) (.k (AV.bool false))), .op (some 79) none (.mv (.t 78)), .split 79, .op (some 80) (some (79, true)) (.call id_law20Wakes [] (.bool)), .op (some 81) none (.pick (.t 79) (.t 80) (.k (AV.bool false))), .op (some 6) none (.mv (.t 81))]) (.ret [6] [])) (.skip))) (.seq (.region [.op (some 82) none (.mv (.t 15)), .op (some 83) none (.bin .eql (.t 82) (.k (AV.int .i64 0))), .op (some 84) none (.mv (.t 83)), .split 84, .op (some 85) (some (84, true)) (.mv (.t 14)), .op (some 86) (some (84, true)) (.len (.t 85) false), .op (some 87) (some (84, true)) (.bin .eql (.t 86) (.k (AV.int .i64 1))), .op (some 88) none (.pick (.t 84) (.t 87) (.k (AV.bool false))), .op (some 89) none (.mv (.t 88)), .split 89, .op (some 90) (some (89, true)) (.mv (.t 14)), .op (some 91) (some (89, true)) (.iaddr (.t 90) (.k (AV.int .i64 0)) 3 (.agg [.int .i64, .str, .int .i64])), .op (some 92) (some (89, true)) (.faddr (.t 91) 1), .op (some 93) (some (89, true)) (.load (.t 92) none (.str)), .op (some 94) (some (89, true)) (.mv (.t 12)), .op (some 95) (some (89, true)) (.bin .eql (.t 93) (.t 94)), .op (some 96) none (.pick (.t 89) (.t 95) (.k (AV.bool false))), .op (some 97) none (.mv (.t 96)), .split 97, .op (some 98) (some (97, true)) (.call id_law20Wakes [] (.bool)), .op (some 99) none (.pick (.t 97) (.t 98) (.k (AV.bool false))), .op (some 6) none (.mv (.t 99))]) (.ret [6] [])))
def law20PathLong_c3 : AC := .seq (.region [.op (some 27) none (.mv (.t 0)), .op (some 9) none (.mv (.t 27))]) (.seq (.seq (.region [.op (some 28) none (.mv (.t 2))]) (.cond (.t 28) (.region [.op (some 29) none (.mv (.t 9)), .op (some 30) none (.bin .add (.t 29) (.k (AV.int .i64 1))), .op (some 9) none (.mv (.t 30))]) (.skip))) (.seq (.region [.op (some 32) none (.mv (.t 7)), .op (some 33) none (.call id_pathParse [.t 32] (.tup [.row 3, .int .i64])), .op (some 31) none (.mv (.t 33)), .op (some 34) none (.extract (.t 31) 0), .op (some 35) none (.extract (.t 31) 1), .op (some 10) none (.mv (.t 34)), .op (some 11) none (.mv (.t 35))]) (.seq (.seq (.region [.op (some 36) none (.mv (.t 9)), .op (some 37) none (.bin .gtr (.t 36) (.k (AV.int .i64 32)))]) (.cond (.t 37) (.seq (.region [.op (some 38) none (.mv (.t 11)), .op (some 39) none (.bin .neq (.t 38) (.k (AV.int .i64 10))), .op (some 40) none (.mv (.t 39)), .split 40, .op (some 41) (some (40, false)) (.mv (.t 10)), .op (some 42) (some (40, false)) (.len (.t 41) false), .op (some 43) (some (40, false)) (.bin .neq (.t 42) (.k (AV.int .i64 0))), .op (some 44) none (.pick (.t 40) (.k (AV.bool true)) (.t 43))]) (.cond (.t 44) (.seq (.region [.op (some 6) none (.mv (.k (AV.bool false)))]) (.ret [6] [])) (.skip))) (.seq (.region [.op (some 45) none (.mv (.t 11)), .op (some 46) none (.bin .neq (.t 45) (.k (AV.int .i64 0))), .op (some 47) none (.mv (.t 46)), .split 47, .op (some 48) (some (47, false)) (.mv (.t 10)), .op (some 49) (some (47, false)) (.len (.t 48) false), .op (some 50) (some (47, false)) (.mv (.t 9)), .op (some 51) (some (47, false)) (.bin .neq (.t 49) (.t 50)), .op (some 52) none (.pick (.t 47) (.k (AV.bool true)) (.t 51))]) (.cond (.t 52) (.seq (.region [.op (some 6) none (.mv (.k (AV.bool false)))]) (.ret [6] [])) (.skip))))) (.seq (.region [.op (some 53) none (.mv (.t 1)), .op (some 54) none (.call id_keepWithin [.t 53, .k (AV.int .i64 5)] (.int .i64)), .op (some 55) none (.bin .add (.k (AV.int .i64 126)) (.t 54)), .op (some 1) none (.mv (.t 55))]) (.seq (.region [.op (some 12) none (.mv (.k (AV.str ([] : List UInt8))))]) (.seq (.seq (.region [.op (some 13) none (.mv (.k (AV.int .i64 0)))]) (.block 2 (.loop [1, 12, 13] [] (law20PathLong_c1)))) (law20PathLong_c2)))))))
def law20PathLong_c4 : AC := .seq (.region [.op (some 6) none (.mv (.k (AV.bool false)))]) (.seq (.region [.op (some 16) none (.mv (.t 0)), .op (some 17) none (.call id_keepWithin [.t 16, .k (AV.int .i64 5)] (.int .i64)), .op (some 18) none (.bin .add (.k (AV.int .i64 30)) (.t 17)), .op (some 0) none (.mv (.t 18))]) (.seq (.region [.op (some 7) none (.mv (.k (AV.str ([] : List UInt8))))]) (.seq (.seq (.region [.op (some 19) none (.mv (.t 2))]) (.cond (.t 19) (.region [.op (some 7) none (.mv (.k (AV.str ([64, 51] : List UInt8))))]) (.skip))) (.seq (.seq (.region [.op (some 8) none (.mv (.k (AV.int .i64 0)))]) (.block 0 (.loop [0, 1, 2, 7, 8] [] (law20PathLong_c0)))) (law20PathLong_c3)))))
def law20PathLong : AFunc := ⟨3, 100, [.tmp 6], law20PathLong_c4⟩
def law20PathLongr (R : Nat → List AV → Option Res) (N : Nat) (i1 : Int) (i2 : Int) (b1 : Bool) : Option Res :=
  (R id_keepWithin [AV.int .i64 i1, AV.int .i64 5]).bind fun r1 =>
  asI .i64 r1.v fun i3 =>
  bif b1 then
    (law20PathLong_L1 R N
      (fun i11 i12 b5 s4 =>
        bif b5 then
          ((R id_pathParse [AV.str s4]).bind fun r2 =>
          asRIT r2.v fun l1 i13 =>
          bif decide (((IntKind.i64.wrap (i11 + 1)) : Int) > 32) then
            (bif (i13 : Int) != 10 then
              (some ⟨AV.bool false, false, []⟩)
            else
              bif (((l1.length : Nat) : Int) : Int) != 0 then
                (some ⟨AV.bool false, false, []⟩)
              else
                (R id_keepWithin [AV.int .i64 i12, AV.int .i64 5]).bind fun r3 =>
                asI .i64 r3.v fun i14 =>
                law20PathLong_L2 R N
                  (fun i19 s8 =>
                    need (decide ((([46, 34] : List UInt8) : List UInt8).length + s8.length ≤ 9223372036854775807)) <|
                    need (decide ((([46, 34] : List UInt8) ++ s8 : List UInt8).length + (([34] : List UInt8) : List UInt8).length ≤ 9223372036854775807)) <|
                    (R id_pathParse [AV.str ((([46, 34] : List UInt8) ++ s8) ++ ([34] : List UInt8))]).bind fun r4 =>
                    asRIT r4.v fun l2 i20 =>
                    bif decide ((i19 : Int) > 128) then
                      (bif (i20 : Int) == 10 then
                        (bif (((l2.length : Nat) : Int) : Int) == 0 then
                          ((R id_law20Wakes []).bind fun r5 =>
                          asB r5.v fun b6 =>
                          some ⟨AV.bool b6, false, []⟩)
                        else
                          some ⟨AV.bool false, false, []⟩)
                      else
                        some ⟨AV.bool false, false, []⟩)
                    else
                      bif (i20 : Int) == 0 then
                        (bif (((l2.length : Nat) : Int) : Int) == 1 then
                          (need (decide (0 ≤ (0 : Int))) <|
                          (l2[Int.toNat 0]?).bind fun e1 =>
                          asISIA e1 fun i21 s9 i22 =>
                          bif s9 == s8 then
                            ((R id_law20Wakes []).bind fun r6 =>
                            asB r6.v fun b7 =>
                            some ⟨AV.bool b7, false, []⟩)
                          else
                            some ⟨AV.bool false, false, []⟩)
                        else
                          some ⟨AV.bool false, false, []⟩)
                      else
                        some ⟨AV.bool false, false, []⟩)
                  N (IntKind.i64.wrap (126 + i14)) ([] : List UInt8) 0)
          else
            bif (i13 : Int) != 0 then
              (some ⟨AV.bool false, false, []⟩)
            else
              bif (((l1.length : Nat) : Int) : Int) != (IntKind.i64.wrap (i11 + 1)) then
                (some ⟨AV.bool false, false, []⟩)
              else
                (R id_keepWithin [AV.int .i64 i12, AV.int .i64 5]).bind fun r7 =>
                asI .i64 r7.v fun i23 =>
                law20PathLong_L2 R N
                  (fun i24 s10 =>
                    need (decide ((([46, 34] : List UInt8) : List UInt8).length + s10.length ≤ 9223372036854775807)) <|
                    need (decide ((([46, 34] : List UInt8) ++ s10 : List UInt8).length + (([34] : List UInt8) : List UInt8).length ≤ 9223372036854775807)) <|
                    (R id_pathParse [AV.str ((([46, 34] : List UInt8) ++ s10) ++ ([34] : List UInt8))]).bind fun r8 =>
                    asRIT r8.v fun l3 i25 =>
                    bif decide ((i24 : Int) > 128) then
                      (bif (i25 : Int) == 10 then
                        (bif (((l3.length : Nat) : Int) : Int) == 0 then
                          ((R id_law20Wakes []).bind fun r9 =>
                          asB r9.v fun b8 =>
                          some ⟨AV.bool b8, false, []⟩)
                        else
                          some ⟨AV.bool false, false, []⟩)
                      else
                        some ⟨AV.bool false, false, []⟩)
                    else
                      bif (i25 : Int) == 0 then
                        (bif (((l3.length : Nat) : Int) : Int) == 1 then
                          (need (decide (0 ≤ (0 : Int))) <|
                          (l3[Int.toNat 0]?).bind fun e2 =>
                          asISIA e2 fun i26 s11 i27 =>
                          bif s11 == s10 then
                            ((R id_law20Wakes []).bind fun r10 =>
                            asB r10.v fun b9 =>
                            some ⟨AV.bool b9, false, []⟩)
                          else
                            some ⟨AV.bool false, false, []⟩)
                        else
                          some ⟨AV.bool false, false, []⟩)
                      else
                        some ⟨AV.bool false, false, []⟩)
                  N (IntKind.i64.wrap (126 + i23)) ([] : List UInt8) 0)
        else
          (R id_pathParse [AV.str s4]).bind fun r11 =>
          asRIT r11.v fun l4 i28 =>
          bif decide ((i11 : Int) > 32) then
            (bif (i28 : Int) != 10 then
              (some ⟨AV.bool false, false, []⟩)
            else
              bif (((l4.length : Nat) : Int) : Int) != 0 then
                (some ⟨AV.bool false, false, []⟩)
              else
                (R id_keepWithin [AV.int .i64 i12, AV.int .i64 5]).bind fun r12 =>
                asI .i64 r12.v fun i29 =>
                law20PathLong_L2 R N
                  (fun i30 s12 =>
                    need (decide ((([46, 34] : List UInt8) : List UInt8).length + s12.length ≤ 9223372036854775807)) <|
                    need (decide ((([46, 34] : List UInt8) ++ s12 : List UInt8).length + (([34] : List UInt8) : List UInt8).length ≤ 9223372036854775807)) <|
                    (R id_pathParse [AV.str ((([46, 34] : List UInt8) ++ s12) ++ ([34] : List UInt8))]).bind fun r13 =>
                    asRIT r13.v fun l5 i31 =>
                    bif decide ((i30 : Int) > 128) then
                      (bif (i31 : Int) == 10 then
                        (bif (((l5.length : Nat) : Int) : Int) == 0 then
                          ((R id_law20Wakes []).bind fun r14 =>
                          asB r14.v fun b10 =>
                          some ⟨AV.bool b10, false, []⟩)
                        else
                          some ⟨AV.bool false, false, []⟩)
                      else
                        some ⟨AV.bool false, false, []⟩)
                    else
                      bif (i31 : Int) == 0 then
                        (bif (((l5.length : Nat) : Int) : Int) == 1 then
                          (need (decide (0 ≤ (0 : Int))) <|
                          (l5[Int.toNat 0]?).bind fun e3 =>
                          asISIA e3 fun i32 s13 i33 =>
                          bif s13 == s12 then
                            ((R id_law20Wakes []).bind fun r15 =>
                            asB r15.v fun b11 =>
                            some ⟨AV.bool b11, false, []⟩)
                          else
                            some ⟨AV.bool false, false, []⟩)
                        else
                          some ⟨AV.bool false, false, []⟩)
                      else
                        some ⟨AV.bool false, false, []⟩)
                  N (IntKind.i64.wrap (126 + i29)) ([] : List UInt8) 0)
          else
            bif (i28 : Int) != 0 then
              (some ⟨AV.bool false, false, []⟩)
            else
              bif (((l4.length : Nat) : Int) : Int) != i11 then
                (some ⟨AV.bool false, false, []⟩)
              else
                (R id_keepWithin [AV.int .i64 i12, AV.int .i64 5]).bind fun r16 =>
                asI .i64 r16.v fun i34 =>
                law20PathLong_L2 R N
                  (fun i35 s14 =>
                    need (decide ((([46, 34] : List UInt8) : List UInt8).length + s14.length ≤ 9223372036854775807)) <|
                    need (decide ((([46, 34] : List UInt8) ++ s14 : List UInt8).length + (([34] : List UInt8) : List UInt8).length ≤ 9223372036854775807)) <|
                    (R id_pathParse [AV.str ((([46, 34] : List UInt8) ++ s14) ++ ([34] : List UInt8))]).bind fun r17 =>
                    asRIT r17.v fun l6 i36 =>
                    bif decide ((i35 : Int) > 128) then
                      (bif (i36 : Int) == 10 then
                        (bif (((l6.length : Nat) : Int) : Int) == 0 then
                          ((R id_law20Wakes []).bind fun r18 =>
                          asB r18.v fun b12 =>
                          some ⟨AV.bool b12, false, []⟩)
                        else
                          some ⟨AV.bool false, false, []⟩)
                      else
                        some ⟨AV.bool false, false, []⟩)
                    else
                      bif (i36 : Int) == 0 then
                        (bif (((l6.length : Nat) : Int) : Int) == 1 then
                          (need (decide (0 ≤ (0 : Int))) <|
                          (l6[Int.toNat 0]?).bind fun e4 =>
                          asISIA e4 fun i37 s15 i38 =>
                          bif s15 == s14 then
                            ((R id_law20Wakes []).bind fun r19 =>
                            asB r19.v fun b13 =>
                            some ⟨AV.bool b13, false, []⟩)
                          else
                            some ⟨AV.bool false, false, []⟩)
                        else
                          some ⟨AV.bool false, false, []⟩)
                      else
                        some ⟨AV.bool false, false, []⟩)
                  N (IntKind.i64.wrap (126 + i34)) ([] : List UInt8) 0)
      N (IntKind.i64.wrap (30 + i3)) i2 b1 ([64, 51] : List UInt8) 0)
  else
    law20PathLong_L1 R N
      (fun i39 i40 b14 s16 =>
        bif b14 then
          ((R id_pathParse [AV.str s16]).bind fun r20 =>
          asRIT r20.v fun l7 i41 =>
          bif decide (((IntKind.i64.wrap (i39 + 1)) : Int) > 32) then
            (bif (i41 : Int) != 10 then
              (some ⟨AV.bool false, false, []⟩)
            else
              bif (((l7.length : Nat) : Int) : Int) != 0 then
                (some ⟨AV.bool false, false, []⟩)
              else
                (R id_keepWithin [AV.int .i64 i40, AV.int .i64 5]).bind fun r21 =>
                asI .i64 r21.v fun i42 =>
                law20PathLong_L2 R N
                  (fun i43 s17 =>
                    need (decide ((([46, 34] : List UInt8) : List UInt8).length + s17.length ≤ 9223372036854775807)) <|
                    need (decide ((([46, 34] : List UInt8) ++ s17 : List UInt8).length + (([34] : List UInt8) : List UInt8).length ≤ 9223372036854775807)) <|
                    (R id_pathParse [AV.str ((([46, 34] : List UInt8) ++ s17) ++ ([34] : List UInt8))]).bind fun r22 =>
                    asRIT r22.v fun l8 i44 =>
                    bif decide ((i43 : Int) > 128) then
                      (bif (i44 : Int) == 10 then
                        (bif (((l8.length : Nat) : Int) : Int) == 0 then
                          ((R id_law20Wakes []).bind fun r23 =>
                          asB r23.v fun b15 =>
                          some ⟨AV.bool b15, false, []⟩)
                        else
                          some ⟨AV.bool false, false, []⟩)
                      else
                        some ⟨AV.bool false, false, []⟩)
                    else
                      bif (i44 : Int) == 0 then
                        (bif (((l8.length : Nat) : Int) : Int) == 1 then
                          (need (decide (0 ≤ (0 : Int))) <|
                          (l8[Int.toNat 0]?).bind fun e5 =>
                          asISIA e5 fun i45 s18 i46 =>
                          bif s18 == s17 then
                            ((R id_law20Wakes []).bind fun r24 =>
                            asB r24.v fun b16 =>
                            some ⟨AV.bool b16, false, []⟩)
                          else
                            some ⟨AV.bool false, false, []⟩)
                        else
                          some ⟨AV.bool false, false, []⟩)
                      else
                        some ⟨AV.bool false, false, []⟩)
                  N (IntKind.i64.wrap (126 + i42)) ([] : List UInt8) 0)
          else
            bif (i41 : Int) != 0 then
              (some ⟨AV.bool false, false, []⟩)
            else
              bif (((l7.length : Nat) : Int) : Int) != (IntKind.i64.wrap (i39 + 1)) then
                (some ⟨AV.bool false, false, []⟩)
              else
                (R id_keepWithin [AV.int .i64 i40, AV.int .i64 5]).bind fun r25 =>
                asI .i64 r25.v fun i47 =>
                law20PathLong_L2 R N
                  (fun i48 s19 =>
                    need (decide ((([46, 34] : List UInt8) : List UInt8).length + s19.length ≤ 9223372036854775807)) <|
                    need (decide ((([46, 34] : List UInt8) ++ s19 : List UInt8).length + (([34] : List UInt8) : List UInt8).length ≤ 9223372036854775807)) <|
                    (R id_pathParse [AV.str ((([46, 34] : List UInt8) ++ s19) ++ ([34] : List UInt8))]).bind fun r26 =>
                    asRIT r26.v fun l9 i49 =>
                    bif decide ((i48 : Int) > 128) then
                      (bif (i49 : Int) == 10 then
                        (bif (((l9.length : Nat) : Int) : Int) == 0 then
                          ((R id_law20Wakes []).bind fun r27 =>
                          asB r27.v fun b17 =>
                          some ⟨AV.bool b17, false, []⟩)
                        else
                          some ⟨AV.bool false, false, []⟩)
                      else
                        some ⟨AV.bool false, false, []⟩)
                    else
                      bif (i49 : Int) == 0 then
                        (bif (((l9.length : Nat) : Int) : Int) == 1 then
                          (need (decide (0 ≤ (0 : Int))) <|
                          (l9[Int.toNat 0]?).bind fun e6 =>
                          asISIA e6 fun i50 s20 i51 =>
                          bif s20 == s19 then
                            ((R id_law20Wakes []).bind fun r28 =>
                            asB r28.v fun b18 =>
                            some ⟨AV.bool b18, false, []⟩)
                          else
                            some ⟨AV.bool false, false, []⟩)
                        else
                          some ⟨AV.bool false, false, []⟩)
                      else
                        some ⟨AV.bool false, false, []⟩)
                  N (IntKind.i64.wrap (126 + i47)) ([] : List UInt8) 0)
        else
          (R id_pathParse [AV.str s16]).bind fun r29 =>
          asRIT r29.v fun l10 i52 =>
          bif decide ((i39 : Int) > 32) then
            (bif (i52 : Int) != 10 then
              (some ⟨AV.bool false, false, []⟩)
            else
              bif (((l10.length : Nat) : Int) : Int) != 0 then
                (some ⟨AV.bool false, false, []⟩)
              else
                (R id_keepWithin [AV.int .i64 i40, AV.int .i64 5]).bind fun r30 =>
                asI .i64 r30.v fun i53 =>
                law20PathLong_L2 R N
                  (fun i54 s21 =>
                    need (decide ((([46, 34] : List UInt8) : List UInt8).length + s21.length ≤ 9223372036854775807)) <|
                    need (decide ((([46, 34] : List UInt8) ++ s21 : List UInt8).length + (([34] : List UInt8) : List UInt8).length ≤ 9223372036854775807)) <|
                    (R id_pathParse [AV.str ((([46, 34] : List UInt8) ++ s21) ++ ([34] : List UInt8))]).bind fun r31 =>
                    asRIT r31.v fun l11 i55 =>
                    bif decide ((i54 : Int) > 128) then
                      (bif (i55 : Int) == 10 then
                        (bif (((l11.length : Nat) : Int) : Int) == 0 then
                          ((R id_law20Wakes []).bind fun r32 =>
                          asB r32.v fun b19 =>
                          some ⟨AV.bool b19, false, []⟩)
                        else
                          some ⟨AV.bool false, false, []⟩)
                      else
                        some ⟨AV.bool false, false, []⟩)
                    else
                      bif (i55 : Int) == 0 then
                        (bif (((l11.length : Nat) : Int) : Int) == 1 then
                          (need (decide (0 ≤ (0 : Int))) <|
                          (l11[Int.toNat 0]?).bind fun e7 =>
                          asISIA e7 fun i56 s22 i57 =>
                          bif s22 == s21 then
                            ((R id_law20Wakes []).bind fun r33 =>
                            asB r33.v fun b20 =>
                            some ⟨AV.bool b20, false, []⟩)
                          else
                            some ⟨AV.bool false, false, []⟩)
                        else
                          some ⟨AV.bool false, false, []⟩)
                      else
                        some ⟨AV.bool false, false, []⟩)
                  N (IntKind.i64.wrap (126 + i53)) ([] : List UInt8) 0)
          else
            bif (i52 : Int) != 0 then
              (some ⟨AV.bool false, false, []⟩)
            else
              bif (((l10.length : Nat) : Int) : Int) != i39 then
                (some ⟨AV.bool false, false, []⟩)
              else
                (R id_keepWithin [AV.int .i64 i40, AV.int .i64 5]).bind fun r34 =>
                asI .i64 r34.v fun i58 =>
                law20PathLong_L2 R N
                  (fun i59 s23 =>
                    need (decide ((([46, 34] : List UInt8) : List UInt8).length + s23.length ≤ 9223372036854775807)) <|
                    need (decide ((([46, 34] : List UInt8) ++ s23 : List UInt8).length + (([34] : List UInt8) : List UInt8).length ≤ 9223372036854775807)) <|
                    (R id_pathParse [AV.str ((([46, 34] : List UInt8) ++ s23) ++ ([34] : List UInt8))]).bind fun r35 =>
                    asRIT r35.v fun l12 i60 =>
                    bif decide ((i59 : Int) > 128) then
                      (bif (i60 : Int) == 10 then
                        (bif (((l12.length : Nat) : Int) : Int) == 0 then
                          ((R id_law20Wakes []).bind fun r36 =>
                          asB r36.v fun b21 =>
                          some ⟨AV.bool b21, false, []⟩)
                        else
                          some ⟨AV.bool false, false, []⟩)
                      else
                        some ⟨AV.bool false, false, []⟩)
                    else
                      bif (i60 : Int) == 0 then
                        (bif (((l12.length : Nat) : Int) : Int) == 1 then
                          (need (decide (0 ≤ (0 : Int))) <|
                          (l12[Int.toNat 0]?).bind fun e8 =>
                          asISIA e8 fun i61 s24 i62 =>
                          bif s24 == s23 then
                            ((R id_law20Wakes []).bind fun r37 =>
                            asB r37.v fun b22 =>
                            some ⟨AV.bool b22, false, []⟩)
                          else
                            some ⟨AV.bool false, false, []⟩)
                        else
                          some ⟨AV.bool false, false, []⟩)
                      else
                        some ⟨AV.bool false, false, []⟩)
                  N (IntKind.i64.wrap (126 + i58)) ([] : List UInt8) 0)
      N (IntKind.i64.wrap (30 + i3)) i2 b1 ([] : List UInt8) 0
theorem law20PathLong_eq (R : Nat → List AV → Option Res) (N : Nat) (i1 : Int) (i2 : Int) (b1 : Bool) : runF gl R N law20PathLong [AV.int .i64 i1, AV.int .i64 i2, AV.bool b1] = law20PathLongr R N i1 i2 b1 := by
  refine Eq.trans (b :=
      (R id_keepWithin [AV.int .i64 i1, AV.int .i64 5]).bind fun r1 =>
      asI .i64 r1.v fun i3 =>
      bif b1 then
        (rounds [0, 1, 2, 7, 8] [] (evC gl R N law20PathLong_c0) (Kblock 0 (Kthen gl R N law20PathLong_c3 (Kret law20PathLong.rets []))) N ⟨[(0, .imm (AV.int .i64 (IntKind.i64.wrap (30 + i3)))), (1, .imm (AV.int .i64 i2)), (2, .imm (AV.bool b1)), (7, .imm (AV.str ([64, 51] : List UInt8))), (8, .imm (AV.int .i64 0))], []⟩)
      else
        rounds [0, 1, 2, 7, 8] [] (evC gl R N law20PathLong_c0) (Kblock 0 (Kthen gl R N law20PathLong_c3 (Kret law20PathLong.rets []))) N ⟨[(0, .imm (AV.int .i64 (IntKind.i64.wrap (30 + i3)))), (1, .imm (AV.int .i64 i2)), (2, .imm (AV.bool b1)), (7, .imm (AV.str ([] : List UInt8))), (8, .imm (AV.int .i64 0))], []⟩) (by kernel_rfl) ?_
  simp (config := { maxSteps := 100000000 }) only [law20PathLong_L1_eq, law20PathLong_L2_eq]
  refine Eq.trans (b :=
      (R id_keepWithin [AV.int .i64 i1, AV.int .i64 5]).bind fun r1 =>
      asI .i64 r1.v fun i3 =>
      bif b1 then
        (law20PathLong_L1 R N
          (fun i11 i12 b5 s4 =>
            bif b5 then
              ((R id_pathParse [AV.str s4]).bind fun r2 =>
              asRIT r2.v fun l1 i13 =>
              bif decide (((IntKind.i64.wrap (i11 + 1)) : Int) > 32) then
                (bif (i13 : Int) != 10 then
                  (some ⟨AV.bool false, false, []⟩)
                else
                  bif (((l1.length : Nat) : Int) : Int) != 0 then
                    (some ⟨AV.bool false, false, []⟩)
                  else
                    (R id_keepWithin [AV.int .i64 i12, AV.int .i64 5]).bind fun r3 =>
                    asI .i64 r3.v fun i14 =>
                    rounds [1, 12, 13] [] (evC gl R N law20PathLong_c1) (Kblock 2 (Kthen gl R N law20PathLong_c2 (Kret law20PathLong.rets []))) N ⟨[(1, .imm (AV.int .i64 (IntKind.i64.wrap (126 + i14)))), (12, .imm (AV.str ([] : List UInt8))), (13, .imm (AV.int .i64 0))], []⟩)
              else
                bif (i13 : Int) != 0 then
                  (some ⟨AV.bool false, false, []⟩)
                else
                  bif (((l1.length : Nat) : Int) : Int) != (IntKind.i64.wrap (i11 + 1)) then
                    (some ⟨AV.bool false, false, []⟩)
                  else
                    (R id_keepWithin [AV.int .i64 i12, AV.int .i64 5]).bind fun r7 =>
                    asI .i64 r7.v fun i23 =>
                    rounds [1, 12, 13] [] (evC gl R N law20PathLong_c1) (Kblock 2 (Kthen gl R N law20PathLong_c2 (Kret law20PathLong.rets []))) N ⟨[(1, .imm (AV.int .i64 (IntKind.i64.wrap (126 + i23)))), (12, .imm (AV.str ([] : List UInt8))), (13, .imm (AV.int .i64 0))], []⟩)
            else
              (R id_pathParse [AV.str s4]).bind fun r11 =>
              asRIT r11.v fun l4 i28 =>
              bif decide ((i11 : Int) > 32) then
                (bif (i28 : Int) != 10 then
                  (some ⟨AV.bool false, false, []⟩)
                else
                  bif (((l4.length : Nat) : Int) : Int) != 0 then
                    (some ⟨AV.bool false, false, []⟩)
                  else
                    (R id_keepWithin [AV.int .i64 i12, AV.int .i64 5]).bind fun r12 =>
                    asI .i64 r12.v fun i29 =>
                    rounds [1, 12, 13] [] (evC gl R N law20PathLong_c1) (Kblock 2 (Kthen gl R N law20PathLong_c2 (Kret law20PathLong.rets []))) N ⟨[(1, .imm (AV.int .i64 (IntKind.i64.wrap (126 + i29)))), (12, .imm (AV.str ([] : List UInt8))), (13, .imm (AV.int .i64 0))], []⟩)
              else
                bif (i28 : Int) != 0 then
                  (some ⟨AV.bool false, false, []⟩)
                else
                  bif (((l4.length : Nat) : Int) : Int) != i11 then
                    (some ⟨AV.bool false, false, []⟩)
                  else
                    (R id_keepWithin [AV.int .i64 i12, AV.int .i64 5]).bind fun r16 =>
                    asI .i64 r16.v fun i34 =>
                    rounds [1, 12, 13] [] (evC gl R N law20PathLong_c1) (Kblock 2 (Kthen gl R N law20PathLong_c2 (Kret law20PathLong.rets []))) N ⟨[(1, .imm (AV.int .i64 (IntKind.i64.wrap (126 + i34)))), (12, .imm (AV.str ([] : List UInt8))), (13, .imm (AV.int .i64 0))], []⟩)
          N (IntKind.i64.wrap (30 + i3)) i2 b1 ([64, 51] : List UInt8) 0)
      else
        law20PathLong_L1 R N
          (fun i39 i40 b14 s16 =>
            bif b14 then
              ((R id_pathParse [AV.str s16]).bind fun r20 =>
              asRIT r20.v fun l7 i41 =>
              bif decide (((IntKind.i64.wrap (i39 + 1)) : Int) > 32) then
                (bif (i41 : Int) != 10 then
                  (some ⟨AV.bool false, false, []⟩)
                else
                  bif (((l7.length : Nat) : Int) : Int) != 0 then
                    (some ⟨AV.bool false, false, []⟩)
                  else
                    (R id_keepWithin [AV.int .i64 i40, AV.int .i64 5]).bind fun r21 =>
                    asI .i64 r21.v fun i42 =>
                    rounds [1, 12, 13] [] (evC gl R N law20PathLong_c1) (Kblock 2 (Kthen gl R N law20PathLong_c2 (Kret law20PathLong.rets []))) N ⟨[(1, .imm (AV.int .i64 (IntKind.i64.wrap (126 + i42)))), (12, .imm (AV.str ([] : List UInt8))), (13, .imm (AV.int .i64 0))], []⟩)
              else
                bif (i41 : Int) != 0 then
                  (some ⟨AV.bool false, false, []⟩)
                else
                  bif (((l7.length : Nat) : Int) : Int) != (IntKind.i64.wrap (i39 + 1)) then
                    (some ⟨AV.bool false, false, []⟩)
                  else
                    (R id_keepWithin [AV.int .i64 i40, AV.int .i64 5]).bind fun r25 =>
                    asI .i64 r25.v fun i47 =>
                    rounds [1, 12, 13] [] (evC gl R N law20PathLong_c1) (Kblock 2 (Kthen gl R N law20PathLong_c2 (Kret law20PathLong.rets []))) N ⟨[(1, .imm (AV.int .i64 (IntKind.i64.wrap (126 + i47)))), (12, .imm (AV.str ([] : List UInt8))), (13, .imm (AV.int .i64 0))], []⟩)
            else
              (R id_pathParse [AV.str s16]).bind fun r29 =>
              asRIT r29.v fun l10 i52 =>
              bif decide ((i39 : Int) > 32) then
                (bif (i52 : Int) != 10 then
                  (some ⟨AV.bool false, false, []⟩)
                else
                  bif (((l10.length : Nat) : Int) : Int) != 0 then
                    (some ⟨AV.bool false, false, []⟩)
                  else
                    (R id_keepWithin [AV.int .i64 i40, AV.int .i64 5]).bind fun r30 =>
                    asI .i64 r30.v fun i53 =>
                    rounds [1, 12, 13] [] (evC gl R N law20PathLong_c1) (Kblock 2 (Kthen gl R N law20PathLong_c2 (Kret law20PathLong.rets []))) N ⟨[(1, .imm (AV.int .i64 (IntKind.i64.wrap (126 + i53)))), (12, .imm (AV.str ([] : List UInt8))), (13, .imm (AV.int .i64 0))], []⟩)
              else
                bif (i52 : Int) != 0 then
                  (some ⟨AV.bool false, false, []⟩)
                else
                  bif (((l10.length : Nat) : Int) : Int) != i39 then
                    (some ⟨AV.bool false, false, []⟩)
                  else
                    (R id_keepWithin [AV.int .i64 i40, AV.int .i64 5]).bind fun r34 =>
                    asI .i64 r34.v fun i58 =>
                    rounds [1, 12, 13] [] (evC gl R N law20PathLong_c1) (Kblock 2 (Kthen gl R N law20PathLong_c2 (Kret law20PathLong.rets []))) N ⟨[(1, .imm (AV.int .i64 (IntKind.i64.wrap (126 + i58)))), (12, .imm (AV.str ([] : List UInt8))), (13, .imm (AV.int .i64 0))], []⟩)
          N (IntKind.i64.wrap (30 + i3)) i2 b1 ([] : List UInt8) 0) (by kernel_rfl) ?_
  simp (config := { maxSteps := 100000000 }) only [law20PathLong_L1_eq, law20PathLong_L2_eq]
  kernel_rfl
theorem law20PathLong_fit : fitF Tryd.prog law20PathLong Tryd.f6 = true := by
  kernel_rfl

def keepCopyPathStep_c0 : AC := .seq (.region [.op (some 2) none (.nilOwn 4 (some (3, .any)))]) (.seq (.region [.op (some 3) none (.mv (.t 0)), .op (some 4) none (.appNil 4 (.t 3) 3 false), .op (some 2) none (.mv (.t 4))]) (.ret [2] [4]))
def keepCopyPathStep : AFunc := ⟨1, 5, [.tmp 2], keepCopyPathStep_c0⟩
def keepCopyPathStepr (R : Nat → List AV → Option Res) (N : Nat) (l1 : List AV) : Option Res :=
  need (decide (l1.length ≤ 1099511627776)) <|
  some ⟨AV.row 3 ((l1.drop 0).take l1.length), true, []⟩
theorem keepCopyPathStep_eq (R : Nat → List AV → Option Res) (N : Nat) (l1 : List AV) : runF gl R N keepCopyPathStep [AV.row 3 l1] = keepCopyPathStepr R N l1 := by
  kernel_rfl
theorem keepCopyPathStep_fit : fitF Tryd.prog keepCopyPathStep Tryd.f19 = true := by
  kernel_rfl

def law20PathJoins_c0 : AC := .seq (.region [.op (some 8) none (.mv (.k (AV.bool false)))]) (.seq (.region [.op (some 17) none (.mv (.t 0)), .op (some 18) none (.mv (.t 2)), .op (some 19) none (.call id_law20Text [.t 17, .t 18, .k (AV.bool false)] (.str)), .op (some 20) none (.mv (.t 1)), .op (some 21) none (.mv (.t 3)), .op (some 22) none (.call id_law20Text [.t 20, .t 21, .k (AV.bool false)] (.str)), .op (some 9) none (.mv (.t 19)), .op (some 10) none (.mv (.t 22))]) (.seq (.region [.op (some 24) none (.mv (.t 9)), .op (some 25) none (.call id_pathParse [.t 24] (.tup [.row 3, .int .i64])), .op (some 23) none (.mv (.t 25)), .op (some 26) none (.extract (.t 23) 0), .op (some 27) none (.extract (.t 23) 1), .op (some 11) none (.mv (.t 26)), .op (some 12) none (.mv (.t 27))]) (.seq (.region [.op (some 29) none (.mv (.t 10)), .op (some 30) none (.call id_pathParse [.t 29] (.tup [.row 3, .int .i64])), .op (some 28) none (.mv (.t 30)), .op (some 31) none (.extract (.t 28) 0), .op (some 32) none (.extract (.t 28) 1), .op (some 13) none (.mv (.t 31)), .op (some 14) none (.mv (.t 32))]) (.seq (.seq (.region [.op (some 33) none (.mv (.t 12)), .op (some 34) none (.bin .neq (.t 33) (.k (AV.int .i64 0))), .op (some 35) none (.mv (.t 34)), .split 35, .op (some 36) (some (35, false)) (.mv (.t 14)), .op (some 37) (some (35, false)) (.bin .neq (.t 36) (.k (AV.int .i64 0))), .op (some 38) none (.pick (.t 35) (.k (AV.bool true)) (.t 37)), .op (some 39) none (.mv (.t 38)), .split 39, .op (some 40) (some (39, false)) (.mv (.t 11)), .op (some 41) (some (39, false)) (.len (.t 40) false), .op (some 42) (some (39, false)) (.mv (.t 13)), .op (some 43) (some (39, false)) (.len (.t 42) false), .op (some 44) (some (39, false)) (.bin .add (.t 41) (.t 43)), .op (some 45) (some (39, false)) (.bin .gtr (.t 44) (.k (AV.int .i64 32))), .op (some 46) none (.pick (.t 39) (.k (AV.bool true)) (.t 45)), .op (some 47) none (.mv (.t 46)), .split 47, .op (some 48) (some (47, false)) (.mv (.t 13)), .op (some 49) (some (47, false)) (.len (.t 48) false), .op (some 50) (some (47, false)) (.bin .gtr (.t 49) (.k (AV.int .i64 0))), .op (some 51) (some (47, false)) (.mv (.t 50)), .split 51, .op (some 52) (some (51, true)) (.mv (.t 13)), .op (some 53) (some (51, true)) (.iaddr (.t 52) (.k (AV.int .i64 0)) 3 (.agg [.int .i64, .str, .int .i64])), .op (some 54) (some (51, true)) (.faddr (.t 53) 0), .op (some 55) (some (51, true)) (.load (.t 54) none (.int .i64)), .op (some 56) (some (51, true)) (.bin .eql (.t 55) (.k (AV.int .i64 1))), .op (some 57) (some (47, false)) (.pick (.t 51) (.t 56) (.k (AV.bool false))), .op (some 58) none (.pick (.t 47) (.k (AV.bool true)) (.t 57))]) (.cond (.t 58) (.seq (.region [.op (some 59) none (.call id_law20Wakes [] (.bool)), .op (some 8) none (.mv (.t 59))]) (.ret [8] [])) (.skip))) (.seq (.region [.op (some 61) none (.mv (.t 9)), .op (some 62) none (.mv (.t 10)), .op (some 63) none (.bin .add (.t 61) (.t 62)), .op (some 64) none (.call id_pathParse [.t 63] (.tup [.row 3, .int .i64])), .op (some 60) none (.mv (.t 64)), .op (some 65) none (.extract (.t 60) 0), .op (some 66) none (.extract (.t 60) 1), .op (some 15) none (.mv (.t 65)), .op (some 16) none (.mv (.t 66))]) (.seq (.region [.op (some 67) none (.mv (.t 16)), .op (some 68) none (.bin .eql (.t 67) (.k (AV.int .i64 0))), .op (some 69) none (.mv (.t 68)), .split 69, .op (some 70) (some (69, true)) (.mv (.t 15)), .op (some 71) (some (69, true)) (.mv (.t 11)), .op (some 72) (some (69, true)) (.callOwn 72 id_keepCopyPathStep [.t 71] 3 .any false), .op (some 73) (some (69, true)) (.mv (.t 13)), .op (some 74) (some (69, true)) (.app 72 (.t 72) (.t 73) 3 .any false), .op (some 75) (some (69, true)) (.call id_keepSamePathStep [.t 70, .t 74] (.bool)), .op (some 76) none (.pick (.t 69) (.t 75) (.k (AV.bool false))), .op (some 77) none (.mv (.t 76)), .split 77, .op (some 78) (some (77, true)) (.call id_law20Wakes [] (.bool)), .op (some 79) none (.pick (.t 77) (.t 78) (.k (AV.bool false))), .op (some 8) none (.mv (.t 79))]) (.ret [8] [])))))))
def law20PathJoins : AFunc := ⟨4, 80, [.tmp 8], law20PathJoins_c0⟩
def law20PathJoinsr (R : Nat → List AV → Option Res) (N : Nat) (s1 : List UInt8) (s2 : List UInt8) (l1 : List AV) (l2 : List AV) : Option Res :=
  (R id_law20Text [AV.str s1, AV.row 1 l1, AV.bool false]).bind fun r1 =>
  asS r1.v fun s3 =>
  (R id_law20Text [AV.str s2, AV.row 1 l2, AV.bool false]).bind fun r2 =>
  asS r2.v fun s4 =>
  (R id_pathParse [AV.str s3]).bind fun r3 =>
  asRIT r3.v fun l3 i1 =>
  (R id_pathParse [AV.str s4]).bind fun r4 =>
  asRIT r4.v fun l4 i2 =>
  bif (i1 : Int) != 0 then
    ((R id_law20Wakes []).bind fun r5 =>
    asB r5.v fun b1 =>
    some ⟨AV.bool b1, false, []⟩)
  else
    bif (i2 : Int) != 0 then
      ((R id_law20Wakes []).bind fun r6 =>
      asB r6.v fun b2 =>
      some ⟨AV.bool b2, false, []⟩)
    else
      bif decide (((IntKind.i64.wrap (((l3.length : Nat) : Int) + ((l4.length : Nat) : Int))) : Int) > 32) then
        ((R id_law20Wakes []).bind fun r7 =>
        asB r7.v fun b3 =>
        some ⟨AV.bool b3, false, []⟩)
      else
        bif decide ((((l4.length : Nat) : Int) : Int) > 0) then
          (need (decide (0 ≤ (0 : Int))) <|
          (l4[Int.toNat 0]?).bind fun e1 =>
          asISIA e1 fun i3 s5 i4 =>
          bif (i3 : Int) == 1 then
            ((R id_law20Wakes []).bind fun r8 =>
            asB r8.v fun b4 =>
            some ⟨AV.bool b4, false, []⟩)
          else
            need (decide (s3.length + s4.length ≤ 9223372036854775807)) <|
            (R id_pathParse [AV.str (s3 ++ s4)]).bind fun r9 =>
            asRIT r9.v fun l5 i5 =>
            bif (i5 : Int) == 0 then
              ((R id_keepCopyPathStep [AV.row 3 l3]).bind fun r10 =>
              need r10.own <|
              asR 3 r10.v fun l6 =>
              need (decide (((l6.drop 0).take l6.length).length + l4.length ≤ 1099511627776)) <|
              (R id_keepSamePathStep [AV.row 3 l5, AV.row 3 (((((l6.drop 0).take l6.length) ++ l4).drop 0).take ((((l6.drop 0).take l6.length) ++ l4).length))]).bind fun r11 =>
              asB r11.v fun b5 =>
              bif b5 then
                ((R id_law20Wakes []).bind fun r12 =>
                asB r12.v fun b6 =>
                some ⟨AV.bool b6, false, []⟩)
              else
                some ⟨AV.bool false, false, []⟩)
            else
              some ⟨AV.bool false, false, []⟩)
        else
          need (decide (s3.length + s4.length ≤ 9223372036854775807)) <|
          (R id_pathParse [AV.str (s3 ++ s4)]).bind fun r13 =>
          asRIT r13.v fun l7 i6 =>
          bif (i6 : Int) == 0 then
            ((R id_keepCopyPathStep [AV.row 3 l3]).bind fun r14 =>
            need r14.own <|
            asR 3 r14.v fun l8 =>
            need (decide (((l8.drop 0).take l8.length).length + l4.length ≤ 1099511627776)) <|
            (R id_keepSamePathStep [AV.row 3 l7, AV.row 3 (((((l8.drop 0).take l8.length) ++ l4).drop 0).take ((((l8.drop 0).take l8.length) ++ l4).length))]).bind fun r15 =>
            asB r15.v fun b7 =>
            bif b7 then
              ((R id_law20Wakes []).bind fun r16 =>
              asB r16.v fun b8 =>
              some ⟨AV.bool b8, false, []⟩)
            else
              some ⟨AV.bool false, false, []⟩)
          else
            some ⟨AV.bool false, false, []⟩
theorem law20PathJoins_eq (R : Nat → List AV → Option Res) (N : Nat) (s1 : List UInt8) (s2 : List UInt8) (l1 : List AV) (l2 : List AV) : runF gl R N law20PathJoins [AV.str s1, AV.str s2, AV.row 1 l1, AV.row 1 l2] = law20PathJoinsr R N s1 s2 l1 l2 := by
  kernel_rfl
theorem law20PathJoins_fit : fitF Tryd.prog law20PathJoins Tryd.f8 = true := by
  kernel_rfl

def pathParse1_c0 : AC := .seq (.region [.op (some 1) none (.box 1001 (.t 0) 3), .op (some 2) none (.mv (.k (AV.bool false)))]) (.seq (.region [.op (some 3) none (.faddr (.t 1) 1), .op (some 4) none (.load (.t 3) none (.str)), .op (some 5) none (.len (.t 4) true), .op (some 6) none (.bin .gtr (.t 5) (.k (AV.int .i64 128))), .op (some 2) none (.mv (.t 6))]) (.ret [2] []))
def pathParse1 : AFunc := ⟨1, 7, [.tmp 2], pathParse1_c0⟩
def pathParse1r (R : Nat → List AV → Option Res) (N : Nat) (i1 : Int) (s1 : List UInt8) (i2 : Int) : Option Res :=
  some ⟨AV.bool (decide ((((s1.length : Nat) : Int) : Int) > 128)), false, []⟩
theorem pathParse1_eq (R : Nat → List AV → Option Res) (N : Nat) (i1 : Int) (s1 : List UInt8) (i2 : Int) : runF gl R N pathParse1 [AV.agg [AV.int .i64 i1, AV.str s1, AV.int .i64 i2]] = pathParse1r R N i1 s1 i2 := by
  kernel_rfl
theorem pathParse1_fit : fitF Tryd.prog pathParse1 Tryd.f28 = true := by
  kernel_rfl

def table : List (Nat × AFunc) := [(id_keepWithin, keepWithin), (id_keepText, keepText), (id_law20Steps, law20Steps), (id_internalStringsliteHasPrefix, internalStringsliteHasPrefix), (id_internalStringsliteCutPrefix, internalStringsliteCutPrefix), (id_stringsCutPrefix, stringsCutPrefix), (id_charsDigit, charsDigit), (id_pathNumber, pathNumber), (id_pathFirst, pathFirst), (id_doubleRunes, doubleRunes), (id_internalStringsliteIndexByte, internalStringsliteIndexByte), (id_stringsIndexByte, stringsIndexByte), (id_doubleDigits, doubleDigits), (id_doubleNumber, doubleNumber), (id_doubleEscape, doubleEscape), (id_unicodeUtf8AppendRuneNonASCII, unicodeUtf8AppendRuneNonASCII), (id_unicodeUtf8AppendRune, unicodeUtf8AppendRune), (id_doubleTake, doubleTake), (id_charsLetter, charsLetter), (id_charsName, charsName), (id_pathName, pathName), (id_pathStep, pathStep), (id_slicesIndexFuncScholiumPathStepScholiumPathStep, slicesIndexFuncScholiumPathStepScholiumPathStep), (id_slicesContainsFuncScholiumPathStepScholiumPathStep, slicesContainsFuncScholiumPathStepScholiumPathStep), (id_pathParse, pathParse), (id_unicodeUtf8WordString, unicodeUtf8WordString), (id_charsPrintable, charsPrintable), (id_doubleHex, doubleHex), (id_doubleOne, doubleOne), (id_pathText, pathText), (id_slicesEqualScholiumPathStepScholiumPathStep, slicesEqualScholiumPathStepScholiumPathStep), (id_pathPrint, pathPrint), (id_ref01Rune, ref01Rune), (id_ref01Escape, ref01Escape), (id_ref01Printable, ref01Printable), (id_ref01Hex, ref01Hex), (id_ref01PutDouble, ref01PutDouble), (id_ref01Letter, ref01Letter), (id_ref01Name, ref01Name), (id_ref01Utf8, ref01Utf8), (id_ref01Digit, ref01Digit), (id_ref01TakeDouble, ref01TakeDouble), (id_law20Wakes, law20Wakes), (id_keepSamePathStep, keepSamePathStep), (id_law20Text, law20Text), (id_law20PathBack, law20PathBack), (id_law20PathForms, law20PathForms), (id_law20PathLong, law20PathLong), (id_keepCopyPathStep, keepCopyPathStep), (id_law20PathJoins, law20PathJoins), (id_pathParse1, pathParse1)]
theorem table_fits : Fits Tryd.prog table := ⟨⟨_, Tryd.func17, keepWithin_fit⟩, ⟨_, Tryd.func20, keepText_fit⟩, ⟨_, Tryd.func9, law20Steps_fit⟩, ⟨_, Tryd.func64, internalStringsliteHasPrefix_fit⟩, ⟨_, Tryd.func53, internalStringsliteCutPrefix_fit⟩, ⟨_, Tryd.func39, stringsCutPrefix_fit⟩, ⟨_, Tryd.func54, charsDigit_fit⟩, ⟨_, Tryd.func40, pathNumber_fit⟩, ⟨_, Tryd.func25, pathFirst_fit⟩, ⟨_, Tryd.func61, doubleRunes_fit⟩, ⟨_, Tryd.func81, internalStringsliteIndexByte_fit⟩, ⟨_, Tryd.func67, stringsIndexByte_fit⟩, ⟨_, Tryd.func68, doubleDigits_fit⟩, ⟨_, Tryd.func69, doubleNumber_fit⟩, ⟨_, Tryd.func56, doubleEscape_fit⟩, ⟨_, Tryd.func70, unicodeUtf8AppendRuneNonASCII_fit⟩, ⟨_, Tryd.func57, unicodeUtf8AppendRune_fit⟩, ⟨_, Tryd.func41, doubleTake_fit⟩, ⟨_, Tryd.func47, charsLetter_fit⟩, ⟨_, Tryd.func37, charsName_fit⟩, ⟨_, Tryd.func42, pathName_fit⟩, ⟨_, Tryd.func26, pathStep_fit⟩, ⟨_, Tryd.func43, slicesIndexFuncScholiumPathStepScholiumPathStep_fit⟩, ⟨_, Tryd.func27, slicesContainsFuncScholiumPathStepScholiumPathStep_fit⟩, ⟨_, Tryd.func13, pathParse_fit⟩, ⟨_, Tryd.func59, unicodeUtf8WordString_fit⟩, ⟨_, Tryd.func62, charsPrintable_fit⟩, ⟨_, Tryd.func63, doubleHex_fit⟩, ⟨_, Tryd.func51, doubleOne_fit⟩, ⟨_, Tryd.func21, pathText_fit⟩, ⟨_, Tryd.func22, slicesEqualScholiumPathStepScholiumPathStep_fit⟩, ⟨_, Tryd.func10, pathPrint_fit⟩, ⟨_, Tryd.func29, ref01Rune_fit⟩, ⟨_, Tryd.func30, ref01Escape_fit⟩, ⟨_, Tryd.func31, ref01Printable_fit⟩, ⟨_, Tryd.func32, ref01Hex_fit⟩, ⟨_, Tryd.func16, ref01PutDouble_fit⟩, ⟨_, Tryd.func35, ref01Letter_fit⟩, ⟨_, Tryd.func24, ref01Name_fit⟩, ⟨_, Tryd.func44, ref01Utf8_fit⟩, ⟨_, Tryd.func45, ref01Digit_fit⟩, ⟨_, Tryd.func34, ref01TakeDouble_fit⟩, ⟨_, Tryd.func12, law20Wakes_fit⟩, ⟨_, Tryd.func14, keepSamePathStep_fit⟩, ⟨_, Tryd.func15, law20Text_fit⟩, ⟨_, Tryd.func4, law20PathBack_fit⟩, ⟨_, Tryd.func5, law20PathForms_fit⟩, ⟨_, Tryd.func6, law20PathLong_fit⟩, ⟨_, Tryd.func19, keepCopyPathStep_fit⟩, ⟨_, Tryd.func8, law20PathJoins_fit⟩, ⟨_, Tryd.func28, pathParse1_fit⟩, trivial⟩
theorem table_fit : ∀ f F, get table f = some F → ∃ fn, Tryd.prog.funcs[f]? = some fn ∧ fitF Tryd.prog F fn = true := table_fits.get
end Go.Proofs.YtlionohbndehgaaDoor.Vf
