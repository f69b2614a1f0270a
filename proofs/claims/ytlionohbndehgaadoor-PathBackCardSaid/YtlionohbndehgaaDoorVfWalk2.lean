/- The code of the functions that the statements reach, as our evaluator takes it, and what each of them comes to, readably: printed by a program of ours. No condition. -/
import Derived.Test.YtlionohbndehgaaDoorVfWalk1
namespace Go.Proofs.YtlionohbndehgaaDoor.Vf
set_option linter.unusedVariables false
set_option linter.unusedSimpArgs false
set_option maxRecDepth 100000


def doubleOne_L1s (R : Nat → List AV → Option Res) (N : Nat) (go : Int → List AV → Int → Int → Option Res) (k0 : List UInt8 → Option Res) (k1 : Int → Option Res) (i2 : Int) (l2 : List AV) (i3 : Int) (i4 : Int) : Option Res :=
  bif decide ((i4 : Int) < i3) then
    (need (decide (0 ≤ (i4 : Int))) <|
    (l2[Int.toNat i4]?).bind fun e1 =>
    asI .i32 e1 fun i5 =>
    bif (i5 : Int) == i2 then
    (need (decide (0 ≤ (IntKind.i64.wrap (i4 + 1) : Int)) && decide ((IntKind.i64.wrap (i4 + 1) : Int) ≤ (((([48, 97, 98, 116, 110, 118, 102, 114, 101, 78, 95, 76, 80] : List UInt8) : List UInt8).length : Nat) : Int))) <|
    need (decide (0 ≤ (i4 : Int)) && decide ((i4 : Int) ≤ ((Int.toNat (IntKind.i64.wrap (i4 + 1)) : Nat) : Int))) <|
    need (decide ((([92] : List UInt8) : List UInt8).length + ((([48, 97, 98, 116, 110, 118, 102, 114, 101, 78, 95, 76, 80] : List UInt8).take (Int.toNat (IntKind.i64.wrap (i4 + 1)))).drop (Int.toNat i4) : List UInt8).length ≤ 9223372036854775807)) <|
    k0 (([92] : List UInt8) ++ ((([48, 97, 98, 116, 110, 118, 102, 114, 101, 78, 95, 76, 80] : List UInt8).take (Int.toNat (IntKind.i64.wrap (i4 + 1)))).drop (Int.toNat i4))))
    else
    go i2 l2 i3 (IntKind.i64.wrap (i4 + 1)))
  else
    k1 i2
def doubleOne_L1 (R : Nat → List AV → Option Res) (N : Nat) (k0 : List UInt8 → Option Res) (k1 : Int → Option Res) : Nat → Int → List AV → Int → Int → Option Res
  | 0, _, _, _, _ => none
  | n + 1, i2, l2, i3, i4 => doubleOne_L1s R N (doubleOne_L1 R N k0 k1 n) k0 k1 i2 l2 i3 i4
def doubleOne_c0 : AC := .seq (.region [.op (some 8) none (.bin .lss (.t 7) (.t 6))]) (.seq (.cond (.t 8) (.skip) (.exit 0 [0] [])) (.seq (.block 1 (.seq (.region [.op (some 9) none (.mv (.t 7)), .op (some 10) none (.iaddr (.t 5) (.t 7) 1 (.int .i32)), .op (some 11) none (.load (.t 10) none (.int .i32)), .op (some 3) none (.mv (.t 9)), .op (some 4) none (.mv (.t 11))]) (.seq (.region [.op (some 12) none (.mv (.t 4)), .op (some 13) none (.mv (.t 0)), .op (some 14) none (.bin .eql (.t 12) (.t 13))]) (.cond (.t 14) (.seq (.region [.op (some 15) none (.mv (.t 3)), .op (some 16) none (.mv (.t 3)), .op (some 17) none (.bin .add (.t 16) (.k (AV.int .i64 1))), .op (some 18) none (.sliceS (.k (AV.str ([48, 97, 98, 116, 110, 118, 102, 114, 101, 78, 95, 76, 80] : List UInt8))) (some (.t 15)) (some (.t 17))), .op (some 19) none (.bin .add (.k (AV.str ([92] : List UInt8))) (.t 18)), .op (some 2) none (.mv (.t 19))]) (.ret [2] [])) (.skip))))) (.region [.op (some 20) none (.bin .add (.t 7) (.k (AV.int .i64 1))), .op (some 7) none (.mv (.t 20))])))
theorem doubleOne_L1s_eq (R : Nat → List AV → Option Res) (N : Nat) (K : Ex → St → Option Res) (W : St → Option Res) (i2 : Int) (l2 : List AV) (i3 : Int) (i4 : Int) :
    evC gl R N doubleOne_c0 (Kseq (fun st' => W (prune [0, 5, 6, 7] [] st')) K) ⟨[(0, .imm (AV.int .i32 i2)), (5, .imm (AV.row 1 l2)), (6, .imm (AV.int .i64 i3)), (7, .imm (AV.int .i64 i4))], []⟩ =
    doubleOne_L1s R N (fun (i2 : Int) (l2 : List AV) (i3 : Int) (i4 : Int) => W ⟨[(0, .imm (AV.int .i32 i2)), (5, .imm (AV.row 1 l2)), (6, .imm (AV.int .i64 i3)), (7, .imm (AV.int .i64 i4))], []⟩) (fun (s1 : List UInt8) => K .ret ⟨[(2, .imm (AV.str s1))], []⟩) (fun (i6 : Int) => K (.exit 0) ⟨[(0, .imm (AV.int .i32 i6))], []⟩) i2 l2 i3 i4 := by
  kernel_rfl
theorem doubleOne_L1_eq (R : Nat → List AV → Option Res) (N : Nat) (K : Ex → St → Option Res) : ∀ (n : Nat) (i2 : Int) (l2 : List AV) (i3 : Int) (i4 : Int),
    rounds [0, 5, 6, 7] [] (evC gl R N doubleOne_c0) K n ⟨[(0, .imm (AV.int .i32 i2)), (5, .imm (AV.row 1 l2)), (6, .imm (AV.int .i64 i3)), (7, .imm (AV.int .i64 i4))], []⟩ = doubleOne_L1 R N (fun (s1 : List UInt8) => K .ret ⟨[(2, .imm (AV.str s1))], []⟩) (fun (i6 : Int) => K (.exit 0) ⟨[(0, .imm (AV.int .i32 i6))], []⟩) n i2 l2 i3 i4
  | 0, _, _, _, _ => rfl
  | n + 1, i2, l2, i3, i4 => (doubleOne_L1s_eq R N K (rounds [0, 5, 6, 7] [] (evC gl R N doubleOne_c0) K n) i2 l2 i3 i4).trans
      (congrArg (fun go => doubleOne_L1s R N go (fun (s1 : List UInt8) => K .ret ⟨[(2, .imm (AV.str s1))], []⟩) (fun (i6 : Int) => K (.exit 0) ⟨[(0, .imm (AV.int .i32 i6))], []⟩) i2 l2 i3 i4) (funext fun i2 => funext fun l2 => funext fun i3 => funext fun i4 => doubleOne_L1_eq R N K n i2 l2 i3 i4))
def doubleOne_c1 : AC := .seq (.block 2 (.seq (.region [.op (some 22) none (.mv (.t 0)), .op (some 23) none (.bin .eql (.t 22) (.k (AV.int .i32 34))), .op (some 24) none (.mv (.t 23)), .split 24, .op (some 25) (some (24, false)) (.mv (.t 0)), .op (some 26) (some (24, false)) (.bin .eql (.t 25) (.k (AV.int .i32 92))), .op (some 27) none (.pick (.t 24) (.k (AV.bool true)) (.t 26)), .op (some 21) none (.mv (.t 27))]) (.cond (.t 21) (.seq (.region [.op (some 28) none (.mv (.t 0)), .op (some 29) none (.cvRune (.t 28)), .op (some 30) none (.bin .add (.k (AV.str ([92] : List UInt8))) (.t 29)), .op (some 2) none (.mv (.t 30))]) (.ret [2] [])) (.seq (.region [.op (some 32) none (.mv (.t 0)), .op (some 33) none (.call id_charsPrintable [.t 32] (.bool)), .op (some 31) none (.mv (.t 33))]) (.cond (.t 31) (.seq (.region [.op (some 34) none (.mv (.t 0)), .op (some 35) none (.cvRune (.t 34)), .op (some 2) none (.mv (.t 35))]) (.ret [2] [])) (.seq (.region [.op (some 37) none (.mv (.t 0)), .op (some 38) none (.bin .lss (.t 37) (.k (AV.int .i32 256))), .op (some 36) none (.mv (.t 38))]) (.cond (.t 36) (.seq (.region [.op (some 39) none (.mv (.t 0)), .op (some 40) none (.cvInt .u32 (.t 39)), .op (some 41) none (.call id_doubleHex [.t 40, .k (AV.int .i64 2)] (.str)), .op (some 42) none (.bin .add (.k (AV.str ([92, 120] : List UInt8))) (.t 41)), .op (some 2) none (.mv (.t 42))]) (.ret [2] [])) (.seq (.region [.op (some 44) none (.mv (.t 0)), .op (some 45) none (.bin .lss (.t 44) (.k (AV.int .i32 65536))), .op (some 43) none (.mv (.t 45))]) (.cond (.t 43) (.seq (.region [.op (some 46) none (.mv (.t 0)), .op (some 47) none (.cvInt .u32 (.t 46)), .op (some 48) none (.call id_doubleHex [.t 47, .k (AV.int .i64 4)] (.str)), .op (some 49) none (.bin .add (.k (AV.str ([92, 117] : List UInt8))) (.t 48)), .op (some 2) none (.mv (.t 49))]) (.ret [2] [])) (.skip)))))))))) (.seq (.region [.op (some 50) none (.mv (.t 0)), .op (some 51) none (.cvInt .u32 (.t 50)), .op (some 52) none (.call id_doubleHex [.t 51, .k (AV.int .i64 8)] (.str)), .op (some 53) none (.bin .add (.k (AV.str ([92, 85] : List UInt8))) (.t 52)), .op (some 2) none (.mv (.t 53))]) (.ret [2] []))
def doubleOne_c2 : AC := .seq (.region [.op (some 2) none (.mv (.k (AV.str ([] : List UInt8))))]) (.seq (.seq (.region [.op (some 5) none (.call id_doubleRunes [] (.row 1)), .op (some 6) none (.len (.t 5) false), .op (some 7) none (.mv (.k (AV.int .i64 0)))]) (.block 0 (.loop [0, 5, 6, 7] [] (doubleOne_c0)))) (doubleOne_c1))
def doubleOne : AFunc := ⟨1, 54, [.tmp 2], doubleOne_c2⟩
def doubleOner (R : Nat → List AV → Option Res) (N : Nat) (i1 : Int) : Option Res :=
  (R id_doubleRunes []).bind fun r1 =>
  asR 1 r1.v fun l1 =>
  doubleOne_L1 R N
    (fun s3 =>
    some ⟨AV.str s3, false, []⟩)
    (fun i8 =>
    bif (i8 : Int) == 34 then
    (need (decide ((([92] : List UInt8) : List UInt8).length + ((Utf8.encode i8).data.toList).length ≤ 9223372036854775807)) <|
    some ⟨AV.str (([92] : List UInt8) ++ ((Utf8.encode i8).data.toList)), false, []⟩)
    else
    bif (i8 : Int) == 92 then
    (need (decide ((([92] : List UInt8) : List UInt8).length + ((Utf8.encode i8).data.toList).length ≤ 9223372036854775807)) <|
    some ⟨AV.str (([92] : List UInt8) ++ ((Utf8.encode i8).data.toList)), false, []⟩)
    else
    (R id_charsPrintable [AV.int .i32 i8]).bind fun r2 =>
    asB r2.v fun b1 =>
    bif b1 then
    (some ⟨AV.str ((Utf8.encode i8).data.toList), false, []⟩)
    else
    bif decide ((i8 : Int) < 256) then
    ((R id_doubleHex [AV.int .u32 (IntKind.u32.wrap i8), AV.int .i64 2]).bind fun r3 =>
    asS r3.v fun s4 =>
    need (decide ((([92, 120] : List UInt8) : List UInt8).length + s4.length ≤ 9223372036854775807)) <|
    some ⟨AV.str (([92, 120] : List UInt8) ++ s4), false, []⟩)
    else
    bif decide ((i8 : Int) < 65536) then
    ((R id_doubleHex [AV.int .u32 (IntKind.u32.wrap i8), AV.int .i64 4]).bind fun r4 =>
    asS r4.v fun s5 =>
    need (decide ((([92, 117] : List UInt8) : List UInt8).length + s5.length ≤ 9223372036854775807)) <|
    some ⟨AV.str (([92, 117] : List UInt8) ++ s5), false, []⟩)
    else
    (R id_doubleHex [AV.int .u32 (IntKind.u32.wrap i8), AV.int .i64 8]).bind fun r5 =>
    asS r5.v fun s6 =>
    need (decide ((([92, 85] : List UInt8) : List UInt8).length + s6.length ≤ 9223372036854775807)) <|
    some ⟨AV.str (([92, 85] : List UInt8) ++ s6), false, []⟩)
    N i1 l1 ((l1.length : Nat) : Int) 0
theorem doubleOne_eq (R : Nat → List AV → Option Res) (N : Nat) (i1 : Int) : runF gl R N doubleOne [AV.int .i32 i1] = doubleOner R N i1 := by
  refine Eq.trans (b :=
    (R id_doubleRunes []).bind fun r1 =>
    asR 1 r1.v fun l1 =>
    rounds [0, 5, 6, 7] [] (evC gl R N doubleOne_c0) (Kblock 0 (Kthen gl R N doubleOne_c1 (Kret doubleOne.rets []))) N ⟨[(0, .imm (AV.int .i32 i1)), (5, .imm (AV.row 1 l1)), (6, .imm (AV.int .i64 ((l1.length : Nat) : Int))), (7, .imm (AV.int .i64 0))], []⟩) (by kernel_rfl) ?_
  simp (config := { maxSteps := 100000000 }) only [doubleOne_L1_eq]
  kernel_rfl
theorem doubleOne_fit : fitF Tryd.prog doubleOne Tryd.f51 = true := by
  kernel_rfl

def pathText_c0 : AC := .seq (.region [.op (some 1) none (.box 1001 (.t 0) 3), .op (some 2) none (.mv (.k (AV.str ([] : List UInt8))))]) (.seq (.block 0 (.seq (.region [.op (some 6) none (.faddr (.t 1) 0), .op (some 7) none (.load (.t 6) none (.int .i64)), .op (some 8) none (.bin .eql (.t 7) (.k (AV.int .i64 1))), .op (some 9) none (.mv (.t 8)), .split 9, .op (some 10) (some (9, true)) (.faddr (.t 1) 2), .op (some 11) (some (9, true)) (.load (.t 10) none (.int .i64)), .op (some 12) (some (9, true)) (.bin .eql (.t 11) (.k (AV.int .i64 (-1)))), .op (some 13) none (.pick (.t 9) (.t 12) (.k (AV.bool false))), .op (some 5) none (.mv (.t 13))]) (.cond (.t 5) (.seq (.region [.op (some 2) none (.mv (.k (AV.str ([64, 42] : List UInt8))))]) (.ret [2] [])) (.seq (.region [.op (some 15) none (.faddr (.t 1) 0), .op (some 16) none (.load (.t 15) none (.int .i64)), .op (some 17) none (.bin .eql (.t 16) (.k (AV.int .i64 1))), .op (some 14) none (.mv (.t 17))]) (.cond (.t 14) (.seq (.region [.op (some 18) none (.faddr (.t 1) 2), .op (some 19) none (.load (.t 18) none (.int .i64)), .op (some 20) none (.call id_strconvItoa [.t 19] (.str)), .op (some 21) none (.bin .add (.k (AV.str ([64] : List UInt8))) (.t 20)), .op (some 2) none (.mv (.t 21))]) (.ret [2] [])) (.seq (.region [.op (some 23) none (.faddr (.t 1) 0), .op (some 24) none (.load (.t 23) none (.int .i64)), .op (some 25) none (.bin .eql (.t 24) (.k (AV.int .i64 2))), .op (some 26) none (.mv (.t 25)), .split 26, .op (some 27) (some (26, true)) (.faddr (.t 1) 1), .op (some 28) (some (26, true)) (.load (.t 27) none (.str)), .op (some 29) (some (26, true)) (.call id_charsName [.t 28] (.bool)), .op (some 30) none (.pick (.t 26) (.t 29) (.k (AV.bool false))), .op (some 22) none (.mv (.t 30))]) (.cond (.t 22) (.seq (.region [.op (some 31) none (.faddr (.t 1) 1), .op (some 32) none (.load (.t 31) none (.str)), .op (some 33) none (.bin .add (.k (AV.str ([46] : List UInt8))) (.t 32)), .op (some 2) none (.mv (.t 33))]) (.ret [2] [])) (.seq (.region [.op (some 35) none (.faddr (.t 1) 0), .op (some 36) none (.load (.t 35) none (.int .i64)), .op (some 37) none (.bin .eql (.t 36) (.k (AV.int .i64 2))), .op (some 34) none (.mv (.t 37))]) (.cond (.t 34) (.seq (.region [.op (some 39) none (.faddr (.t 1) 1), .op (some 40) none (.load (.t 39) none (.str)), .op (some 41) none (.call id_doublePut [.t 40] (.tup [.str, .bool])), .op (some 38) none (.mv (.t 41)), .op (some 42) none (.extract (.t 38) 0), .op (some 43) none (.extract (.t 38) 1), .op (some 3) none (.mv (.t 42)), .op (some 4) none (.mv (.t 43))]) (.seq (.region [.op (some 44) none (.mv (.t 3)), .op (some 45) none (.bin .add (.k (AV.str ([46] : List UInt8))) (.t 44)), .op (some 2) none (.mv (.t 45))]) (.ret [2] []))) (.seq (.region [.op (some 47) none (.faddr (.t 1) 0), .op (some 48) none (.load (.t 47) none (.int .i64)), .op (some 49) none (.bin .eql (.t 48) (.k (AV.int .i64 3))), .op (some 46) none (.mv (.t 49))]) (.cond (.t 46) (.seq (.region [.op (some 50) none (.faddr (.t 1) 2), .op (some 51) none (.load (.t 50) none (.int .i64)), .op (some 52) none (.call id_strconvItoa [.t 51] (.str)), .op (some 53) none (.bin .add (.k (AV.str ([91] : List UInt8))) (.t 52)), .op (some 54) none (.bin .add (.t 53) (.k (AV.str ([93] : List UInt8)))), .op (some 2) none (.mv (.t 54))]) (.ret [2] [])) (.seq (.region [.op (some 56) none (.faddr (.t 1) 0), .op (some 57) none (.load (.t 56) none (.int .i64)), .op (some 58) none (.bin .eql (.t 57) (.k (AV.int .i64 4))), .op (some 55) none (.mv (.t 58))]) (.cond (.t 55) (.seq (.region [.op (some 2) none (.mv (.k (AV.str ([46, 42] : List UInt8))))]) (.ret [2] [])) (.skip)))))))))))))) (.seq (.region [.op (some 2) none (.mv (.k (AV.str ([46, 46] : List UInt8))))]) (.ret [2] [])))
def pathText : AFunc := ⟨1, 59, [.tmp 2], pathText_c0⟩
def pathTextr (R : Nat → List AV → Option Res) (N : Nat) (i1 : Int) (s1 : List UInt8) (i2 : Int) : Option Res :=
  bif (i1 : Int) == 1 then
    (bif (i2 : Int) == (-1) then
    (some ⟨AV.str ([64, 42] : List UInt8), false, []⟩)
    else
    bif (i1 : Int) == 1 then
    ((R id_strconvItoa [AV.int .i64 i2]).bind fun r1 =>
    asS r1.v fun s2 =>
    need (decide ((([64] : List UInt8) : List UInt8).length + s2.length ≤ 9223372036854775807)) <|
    some ⟨AV.str (([64] : List UInt8) ++ s2), false, []⟩)
    else
    bif (i1 : Int) == 2 then
    ((R id_charsName [AV.str s1]).bind fun r2 =>
    asB r2.v fun b1 =>
    bif b1 then
    (need (decide ((([46] : List UInt8) : List UInt8).length + s1.length ≤ 9223372036854775807)) <|
    some ⟨AV.str (([46] : List UInt8) ++ s1), false, []⟩)
    else
    bif (i1 : Int) == 2 then
    ((R id_doublePut [AV.str s1]).bind fun r3 =>
    asSBT r3.v fun s3 b2 =>
    need (decide ((([46] : List UInt8) : List UInt8).length + s3.length ≤ 9223372036854775807)) <|
    some ⟨AV.str (([46] : List UInt8) ++ s3), false, []⟩)
    else
    bif (i1 : Int) == 3 then
    ((R id_strconvItoa [AV.int .i64 i2]).bind fun r4 =>
    asS r4.v fun s4 =>
    need (decide ((([91] : List UInt8) : List UInt8).length + s4.length ≤ 9223372036854775807)) <|
    need (decide ((([91] : List UInt8) ++ s4 : List UInt8).length + (([93] : List UInt8) : List UInt8).length ≤ 9223372036854775807)) <|
    some ⟨AV.str ((([91] : List UInt8) ++ s4) ++ ([93] : List UInt8)), false, []⟩)
    else
    bif (i1 : Int) == 4 then
    (some ⟨AV.str ([46, 42] : List UInt8), false, []⟩)
    else
    some ⟨AV.str ([46, 46] : List UInt8), false, []⟩)
    else
    bif (i1 : Int) == 2 then
    ((R id_doublePut [AV.str s1]).bind fun r5 =>
    asSBT r5.v fun s5 b3 =>
    need (decide ((([46] : List UInt8) : List UInt8).length + s5.length ≤ 9223372036854775807)) <|
    some ⟨AV.str (([46] : List UInt8) ++ s5), false, []⟩)
    else
    bif (i1 : Int) == 3 then
    ((R id_strconvItoa [AV.int .i64 i2]).bind fun r6 =>
    asS r6.v fun s6 =>
    need (decide ((([91] : List UInt8) : List UInt8).length + s6.length ≤ 9223372036854775807)) <|
    need (decide ((([91] : List UInt8) ++ s6 : List UInt8).length + (([93] : List UInt8) : List UInt8).length ≤ 9223372036854775807)) <|
    some ⟨AV.str ((([91] : List UInt8) ++ s6) ++ ([93] : List UInt8)), false, []⟩)
    else
    bif (i1 : Int) == 4 then
    (some ⟨AV.str ([46, 42] : List UInt8), false, []⟩)
    else
    some ⟨AV.str ([46, 46] : List UInt8), false, []⟩)
  else
    bif (i1 : Int) == 1 then
    ((R id_strconvItoa [AV.int .i64 i2]).bind fun r7 =>
    asS r7.v fun s7 =>
    need (decide ((([64] : List UInt8) : List UInt8).length + s7.length ≤ 9223372036854775807)) <|
    some ⟨AV.str (([64] : List UInt8) ++ s7), false, []⟩)
    else
    bif (i1 : Int) == 2 then
    ((R id_charsName [AV.str s1]).bind fun r8 =>
    asB r8.v fun b4 =>
    bif b4 then
    (need (decide ((([46] : List UInt8) : List UInt8).length + s1.length ≤ 9223372036854775807)) <|
    some ⟨AV.str (([46] : List UInt8) ++ s1), false, []⟩)
    else
    bif (i1 : Int) == 2 then
    ((R id_doublePut [AV.str s1]).bind fun r9 =>
    asSBT r9.v fun s8 b5 =>
    need (decide ((([46] : List UInt8) : List UInt8).length + s8.length ≤ 9223372036854775807)) <|
    some ⟨AV.str (([46] : List UInt8) ++ s8), false, []⟩)
    else
    bif (i1 : Int) == 3 then
    ((R id_strconvItoa [AV.int .i64 i2]).bind fun r10 =>
    asS r10.v fun s9 =>
    need (decide ((([91] : List UInt8) : List UInt8).length + s9.length ≤ 9223372036854775807)) <|
    need (decide ((([91] : List UInt8) ++ s9 : List UInt8).length + (([93] : List UInt8) : List UInt8).length ≤ 9223372036854775807)) <|
    some ⟨AV.str ((([91] : List UInt8) ++ s9) ++ ([93] : List UInt8)), false, []⟩)
    else
    bif (i1 : Int) == 4 then
    (some ⟨AV.str ([46, 42] : List UInt8), false, []⟩)
    else
    some ⟨AV.str ([46, 46] : List UInt8), false, []⟩)
    else
    bif (i1 : Int) == 2 then
    ((R id_doublePut [AV.str s1]).bind fun r11 =>
    asSBT r11.v fun s10 b6 =>
    need (decide ((([46] : List UInt8) : List UInt8).length + s10.length ≤ 9223372036854775807)) <|
    some ⟨AV.str (([46] : List UInt8) ++ s10), false, []⟩)
    else
    bif (i1 : Int) == 3 then
    ((R id_strconvItoa [AV.int .i64 i2]).bind fun r12 =>
    asS r12.v fun s11 =>
    need (decide ((([91] : List UInt8) : List UInt8).length + s11.length ≤ 9223372036854775807)) <|
    need (decide ((([91] : List UInt8) ++ s11 : List UInt8).length + (([93] : List UInt8) : List UInt8).length ≤ 9223372036854775807)) <|
    some ⟨AV.str ((([91] : List UInt8) ++ s11) ++ ([93] : List UInt8)), false, []⟩)
    else
    bif (i1 : Int) == 4 then
    (some ⟨AV.str ([46, 42] : List UInt8), false, []⟩)
    else
    some ⟨AV.str ([46, 46] : List UInt8), false, []⟩
theorem pathText_eq (R : Nat → List AV → Option Res) (N : Nat) (i1 : Int) (s1 : List UInt8) (i2 : Int) : runF gl R N pathText [AV.agg [AV.int .i64 i1, AV.str s1, AV.int .i64 i2]] = pathTextr R N i1 s1 i2 := by
  kernel_rfl
theorem pathText_fit : fitF Tryd.prog pathText Tryd.f21 = true := by
  kernel_rfl

def slicesEqualScholiumPathStepScholiumPathStep_L1s (R : Nat → List AV → Option Res) (N : Nat) (go : List AV → List AV → Int → Int → Option Res) (k0 : Bool → Option Res) (k1 : Option Res) (l3 : List AV) (l4 : List AV) (i1 : Int) (i2 : Int) : Option Res :=
  bif decide ((i2 : Int) < i1) then
    (need (decide (0 ≤ (i2 : Int))) <|
    (l3[Int.toNat i2]?).bind fun e1 =>
    asISIA e1 fun i3 s1 i4 =>
    need (decide (0 ≤ (i2 : Int))) <|
    (l4[Int.toNat i2]?).bind fun e2 =>
    asISIA e2 fun i5 s2 i6 =>
    bif !(((i3 : Int) == i5) && ((s1 == s2) && (((i4 : Int) == i6) && (true)))) then
    (k0 false)
    else
    go l3 l4 i1 (IntKind.i64.wrap (i2 + 1)))
  else
    k1
def slicesEqualScholiumPathStepScholiumPathStep_L1 (R : Nat → List AV → Option Res) (N : Nat) (k0 : Bool → Option Res) (k1 : Option Res) : Nat → List AV → List AV → Int → Int → Option Res
  | 0, _, _, _, _ => none
  | n + 1, l3, l4, i1, i2 => slicesEqualScholiumPathStepScholiumPathStep_L1s R N (slicesEqualScholiumPathStepScholiumPathStep_L1 R N k0 k1 n) k0 k1 l3 l4 i1 i2
def slicesEqualScholiumPathStepScholiumPathStep_c0 : AC := .seq (.region [.op (some 14) none (.bin .lss (.t 13) (.t 12))]) (.seq (.cond (.t 14) (.skip) (.exit 0 [] [])) (.seq (.block 1 (.seq (.region [.op (some 15) none (.mv (.t 13)), .op (some 5) none (.mv (.t 15))]) (.seq (.regionD [0, 1, 12, 13, 24] [] [.op (some 16) none (.mv (.t 0)), .op (some 17) none (.mv (.t 5)), .op (some 18) none (.iaddr (.t 16) (.t 17) 3 (.agg [.int .i64, .str, .int .i64])), .op (some 19) none (.load (.t 18) (some 3) (.agg [.int .i64, .str, .int .i64])), .op (some 20) none (.mv (.t 1)), .op (some 21) none (.mv (.t 5)), .op (some 22) none (.iaddr (.t 20) (.t 21) 3 (.agg [.int .i64, .str, .int .i64])), .op (some 23) none (.load (.t 22) (some 3) (.agg [.int .i64, .str, .int .i64])), .op (some 24) none (.binA true (.t 19) (.t 23) [0, 2, 0])] []) (.cond (.t 24) (.seq (.region [.op (some 4) none (.mv (.k (AV.bool false)))]) (.ret [4] [])) (.skip))))) (.region [.op (some 25) none (.bin .add (.t 13) (.k (AV.int .i64 1))), .op (some 13) none (.mv (.t 25))])))
theorem slicesEqualScholiumPathStepScholiumPathStep_L1s_eq (R : Nat → List AV → Option Res) (N : Nat) (K : Ex → St → Option Res) (W : St → Option Res) (l3 : List AV) (l4 : List AV) (i1 : Int) (i2 : Int) :
    evC gl R N slicesEqualScholiumPathStepScholiumPathStep_c0 (Kseq (fun st' => W (prune [0, 1, 12, 13] [] st')) K) ⟨[(0, .imm (AV.row 3 l3)), (1, .imm (AV.row 3 l4)), (12, .imm (AV.int .i64 i1)), (13, .imm (AV.int .i64 i2))], []⟩ =
    slicesEqualScholiumPathStepScholiumPathStep_L1s R N (fun (l3 : List AV) (l4 : List AV) (i1 : Int) (i2 : Int) => W ⟨[(0, .imm (AV.row 3 l3)), (1, .imm (AV.row 3 l4)), (12, .imm (AV.int .i64 i1)), (13, .imm (AV.int .i64 i2))], []⟩) (fun (b1 : Bool) => K .ret ⟨[(4, .imm (AV.bool b1))], []⟩) (K (.exit 0) ⟨[], []⟩) l3 l4 i1 i2 := by
  kernel_rfl
theorem slicesEqualScholiumPathStepScholiumPathStep_L1_eq (R : Nat → List AV → Option Res) (N : Nat) (K : Ex → St → Option Res) : ∀ (n : Nat) (l3 : List AV) (l4 : List AV) (i1 : Int) (i2 : Int),
    rounds [0, 1, 12, 13] [] (evC gl R N slicesEqualScholiumPathStepScholiumPathStep_c0) K n ⟨[(0, .imm (AV.row 3 l3)), (1, .imm (AV.row 3 l4)), (12, .imm (AV.int .i64 i1)), (13, .imm (AV.int .i64 i2))], []⟩ = slicesEqualScholiumPathStepScholiumPathStep_L1 R N (fun (b1 : Bool) => K .ret ⟨[(4, .imm (AV.bool b1))], []⟩) (K (.exit 0) ⟨[], []⟩) n l3 l4 i1 i2
  | 0, _, _, _, _ => rfl
  | n + 1, l3, l4, i1, i2 => (slicesEqualScholiumPathStepScholiumPathStep_L1s_eq R N K (rounds [0, 1, 12, 13] [] (evC gl R N slicesEqualScholiumPathStepScholiumPathStep_c0) K n) l3 l4 i1 i2).trans
      (congrArg (fun go => slicesEqualScholiumPathStepScholiumPathStep_L1s R N go (fun (b1 : Bool) => K .ret ⟨[(4, .imm (AV.bool b1))], []⟩) (K (.exit 0) ⟨[], []⟩) l3 l4 i1 i2) (funext fun l3 => funext fun l4 => funext fun i1 => funext fun i2 => slicesEqualScholiumPathStepScholiumPathStep_L1_eq R N K n l3 l4 i1 i2))
def slicesEqualScholiumPathStepScholiumPathStep_c1 : AC := .seq (.region [.op (some 4) none (.mv (.k (AV.bool true)))]) (.ret [4] [])
def slicesEqualScholiumPathStepScholiumPathStep_c2 : AC := .seq (.region [.op (some 4) none (.mv (.k (AV.bool false)))]) (.seq (.seq (.region [.op (some 6) none (.mv (.t 0)), .op (some 7) none (.len (.t 6) false), .op (some 8) none (.mv (.t 1)), .op (some 9) none (.len (.t 8) false), .op (some 10) none (.bin .neq (.t 7) (.t 9))]) (.cond (.t 10) (.seq (.region [.op (some 4) none (.mv (.k (AV.bool false)))]) (.ret [4] [])) (.skip))) (.seq (.seq (.region [.op (some 11) none (.mv (.t 0)), .op (some 12) none (.len (.t 11) false), .op (some 13) none (.mv (.k (AV.int .i64 0)))]) (.block 0 (.loop [0, 1, 12, 13] [] (slicesEqualScholiumPathStepScholiumPathStep_c0)))) (slicesEqualScholiumPathStepScholiumPathStep_c1)))
def slicesEqualScholiumPathStepScholiumPathStep : AFunc := ⟨2, 26, [.tmp 4], slicesEqualScholiumPathStepScholiumPathStep_c2⟩
def slicesEqualScholiumPathStepScholiumPathStepr (R : Nat → List AV → Option Res) (N : Nat) (l1 : List AV) (l2 : List AV) : Option Res :=
  bif (((l1.length : Nat) : Int) : Int) != ((l2.length : Nat) : Int) then
    (some ⟨AV.bool false, false, []⟩)
  else
    slicesEqualScholiumPathStepScholiumPathStep_L1 R N
      (fun b3 =>
    some ⟨AV.bool b3, false, []⟩)
      (
    some ⟨AV.bool true, false, []⟩)
      N l1 l2 ((l1.length : Nat) : Int) 0
theorem slicesEqualScholiumPathStepScholiumPathStep_eq (R : Nat → List AV → Option Res) (N : Nat) (l1 : List AV) (l2 : List AV) : runF gl R N slicesEqualScholiumPathStepScholiumPathStep [AV.row 3 l1, AV.row 3 l2] = slicesEqualScholiumPathStepScholiumPathStepr R N l1 l2 := by
  refine Eq.trans (b :=
    bif (((l1.length : Nat) : Int) : Int) != ((l2.length : Nat) : Int) then
    (some ⟨AV.bool false, false, []⟩)
    else
    rounds [0, 1, 12, 13] [] (evC gl R N slicesEqualScholiumPathStepScholiumPathStep_c0) (Kblock 0 (Kthen gl R N slicesEqualScholiumPathStepScholiumPathStep_c1 (Kret slicesEqualScholiumPathStepScholiumPathStep.rets []))) N ⟨[(0, .imm (AV.row 3 l1)), (1, .imm (AV.row 3 l2)), (12, .imm (AV.int .i64 ((l1.length : Nat) : Int))), (13, .imm (AV.int .i64 0))], []⟩) (by kernel_rfl) ?_
  simp (config := { maxSteps := 100000000 }) only [slicesEqualScholiumPathStepScholiumPathStep_L1_eq]
  kernel_rfl
theorem slicesEqualScholiumPathStepScholiumPathStep_fit : fitF Tryd.prog slicesEqualScholiumPathStepScholiumPathStep Tryd.f22 = true := by
  kernel_rfl

def pathPrint_L1s (R : Nat → List AV → Option Res) (N : Nat) (go : List AV → List UInt8 → List AV → Int → Int → Option Res) (k0 : List AV → List UInt8 → Option Res) (l2 : List AV) (s1 : List UInt8) (l3 : List AV) (i1 : Int) (i2 : Int) : Option Res :=
  bif decide ((i2 : Int) < i1) then
    (need (decide (0 ≤ (i2 : Int))) <|
    (l3[Int.toNat i2]?).bind fun e1 =>
    asISIA e1 fun i3 s2 i4 =>
    (R id_pathText [AV.agg [AV.int .i64 i3, AV.str s2, AV.int .i64 i4]]).bind fun r1 =>
    asS r1.v fun s3 =>
    need (decide (s1.length + s3.length ≤ 9223372036854775807)) <|
    go l2 (s1 ++ s3) l3 i1 (IntKind.i64.wrap (i2 + 1)))
  else
    k0 l2 s1
def pathPrint_L1 (R : Nat → List AV → Option Res) (N : Nat) (k0 : List AV → List UInt8 → Option Res) : Nat → List AV → List UInt8 → List AV → Int → Int → Option Res
  | 0, _, _, _, _, _ => none
  | n + 1, l2, s1, l3, i1, i2 => pathPrint_L1s R N (pathPrint_L1 R N k0 n) k0 l2 s1 l3 i1 i2
def pathPrint_c0 : AC := .seq (.region [.op (some 12) none (.bin .lss (.t 11) (.t 10))]) (.seq (.cond (.t 12) (.skip) (.exit 0 [0, 4] [])) (.seq (.block 1 (.seq (.region [.op (some 13) none (.iaddr (.t 9) (.t 11) 3 (.agg [.int .i64, .str, .int .i64])), .op (some 14) none (.load (.t 13) (some 3) (.agg [.int .i64, .str, .int .i64])), .op (some 6) none (.alloc 1006 [AV.int .i64 0, AV.str [], AV.int .i64 0]), .op none none (.store (.t 6) (.t 14) 3)]) (.region [.op (some 15) none (.mv (.t 4)), .op (some 16) none (.load (.t 6) (some 3) (.agg [.int .i64, .str, .int .i64])), .op (some 17) none (.call id_pathText [.t 16] (.str)), .op (some 18) none (.bin .add (.t 15) (.t 17)), .op (some 4) none (.mv (.t 18))]))) (.region [.op (some 19) none (.bin .add (.t 11) (.k (AV.int .i64 1))), .op (some 11) none (.mv (.t 19))])))
theorem pathPrint_L1s_eq (R : Nat → List AV → Option Res) (N : Nat) (K : Ex → St → Option Res) (W : St → Option Res) (l2 : List AV) (s1 : List UInt8) (l3 : List AV) (i1 : Int) (i2 : Int) :
    evC gl R N pathPrint_c0 (Kseq (fun st' => W (prune [0, 4, 9, 10, 11] [] st')) K) ⟨[(0, .imm (AV.row 3 l2)), (4, .imm (AV.str s1)), (9, .imm (AV.row 3 l3)), (10, .imm (AV.int .i64 i1)), (11, .imm (AV.int .i64 i2))], []⟩ =
    pathPrint_L1s R N (fun (l2 : List AV) (s1 : List UInt8) (l3 : List AV) (i1 : Int) (i2 : Int) => W ⟨[(0, .imm (AV.row 3 l2)), (4, .imm (AV.str s1)), (9, .imm (AV.row 3 l3)), (10, .imm (AV.int .i64 i1)), (11, .imm (AV.int .i64 i2))], []⟩) (fun (l4 : List AV) (s4 : List UInt8) => K (.exit 0) ⟨[(0, .imm (AV.row 3 l4)), (4, .imm (AV.str s4))], []⟩) l2 s1 l3 i1 i2 := by
  kernel_rfl
theorem pathPrint_L1_eq (R : Nat → List AV → Option Res) (N : Nat) (K : Ex → St → Option Res) : ∀ (n : Nat) (l2 : List AV) (s1 : List UInt8) (l3 : List AV) (i1 : Int) (i2 : Int),
    rounds [0, 4, 9, 10, 11] [] (evC gl R N pathPrint_c0) K n ⟨[(0, .imm (AV.row 3 l2)), (4, .imm (AV.str s1)), (9, .imm (AV.row 3 l3)), (10, .imm (AV.int .i64 i1)), (11, .imm (AV.int .i64 i2))], []⟩ = pathPrint_L1 R N (fun (l4 : List AV) (s4 : List UInt8) => K (.exit 0) ⟨[(0, .imm (AV.row 3 l4)), (4, .imm (AV.str s4))], []⟩) n l2 s1 l3 i1 i2
  | 0, _, _, _, _, _ => rfl
  | n + 1, l2, s1, l3, i1, i2 => (pathPrint_L1s_eq R N K (rounds [0, 4, 9, 10, 11] [] (evC gl R N pathPrint_c0) K n) l2 s1 l3 i1 i2).trans
      (congrArg (fun go => pathPrint_L1s R N go (fun (l4 : List AV) (s4 : List UInt8) => K (.exit 0) ⟨[(0, .imm (AV.row 3 l4)), (4, .imm (AV.str s4))], []⟩) l2 s1 l3 i1 i2) (funext fun l2 => funext fun s1 => funext fun l3 => funext fun i1 => funext fun i2 => pathPrint_L1_eq R N K n l2 s1 l3 i1 i2))
def pathPrint_c1 : AC := .seq (.region [.op (some 21) none (.mv (.t 4)), .op (some 22) none (.call id_pathParse [.t 21] (.tup [.row 3, .int .i64])), .op (some 20) none (.mv (.t 22)), .op (some 23) none (.extract (.t 20) 0), .op (some 24) none (.extract (.t 20) 1), .op (some 7) none (.mv (.t 23)), .op (some 8) none (.mv (.t 24))]) (.seq (.seq (.region [.op (some 25) none (.mv (.t 8)), .op (some 26) none (.bin .neq (.t 25) (.k (AV.int .i64 0))), .op (some 27) none (.mv (.t 26)), .split 27, .op (some 28) (some (27, false)) (.mv (.t 7)), .op (some 29) (some (27, false)) (.mv (.t 0)), .op (some 30) (some (27, false)) (.call id_slicesEqualScholiumPathStepScholiumPathStep [.t 28, .t 29] (.bool)), .op (some 31) (some (27, false)) (.un .not (.t 30)), .op (some 32) none (.pick (.t 27) (.k (AV.bool true)) (.t 31))]) (.cond (.t 32) (.seq (.region [.op (some 2) none (.mv (.k (AV.str ([] : List UInt8)))), .op (some 3) none (.mv (.k (AV.int .i64 6)))]) (.ret [2, 3] [])) (.skip))) (.seq (.region [.op (some 33) none (.mv (.t 4)), .op (some 2) none (.mv (.t 33)), .op (some 3) none (.mv (.k (AV.int .i64 0)))]) (.ret [2, 3] [])))
def pathPrint_c2 : AC := .seq (.region [.op (some 2) none (.mv (.k (AV.str ([] : List UInt8)))), .op (some 3) none (.mv (.k (AV.int .i64 0)))]) (.seq (.region [.op (some 4) none (.mv (.k (AV.str ([] : List UInt8))))]) (.seq (.seq (.region [.op (some 9) none (.mv (.t 0)), .op (some 10) none (.len (.t 9) false), .op (some 11) none (.mv (.k (AV.int .i64 0)))]) (.block 0 (.loop [0, 4, 9, 10, 11] [] (pathPrint_c0)))) (pathPrint_c1)))
def pathPrint : AFunc := ⟨1, 34, [.tmp 2, .tmp 3], pathPrint_c2⟩
def pathPrintr (R : Nat → List AV → Option Res) (N : Nat) (l1 : List AV) : Option Res :=
  pathPrint_L1 R N
    (fun l6 s6 =>
    (R id_pathParse [AV.str s6]).bind fun r2 =>
    asRIT r2.v fun l7 i5 =>
    bif (i5 : Int) != 0 then
    (some ⟨AV.tup [AV.str ([] : List UInt8), AV.int .i64 6], false, []⟩)
    else
    (R id_slicesEqualScholiumPathStepScholiumPathStep [AV.row 3 l7, AV.row 3 l6]).bind fun r3 =>
    asB r3.v fun b1 =>
    bif !b1 then
    (some ⟨AV.tup [AV.str ([] : List UInt8), AV.int .i64 6], false, []⟩)
    else
    some ⟨AV.tup [AV.str s6, AV.int .i64 0], false, []⟩)
    N l1 ([] : List UInt8) l1 ((l1.length : Nat) : Int) 0
theorem pathPrint_eq (R : Nat → List AV → Option Res) (N : Nat) (l1 : List AV) : runF gl R N pathPrint [AV.row 3 l1] = pathPrintr R N l1 := by
  refine Eq.trans (b :=
    rounds [0, 4, 9, 10, 11] [] (evC gl R N pathPrint_c0) (Kblock 0 (Kthen gl R N pathPrint_c1 (Kret pathPrint.rets []))) N ⟨[(0, .imm (AV.row 3 l1)), (4, .imm (AV.str ([] : List UInt8))), (9, .imm (AV.row 3 l1)), (10, .imm (AV.int .i64 ((l1.length : Nat) : Int))), (11, .imm (AV.int .i64 0))], []⟩) (by kernel_rfl) ?_
  simp (config := { maxSteps := 100000000 }) only [pathPrint_L1_eq]
  kernel_rfl
theorem pathPrint_fit : fitF Tryd.prog pathPrint Tryd.f10 = true := by
  kernel_rfl

def ref01Rune_L1s (R : Nat → List AV → Option Res) (N : Nat) (go : List UInt8 → Int → Int → Int → Int → Option Res) (k0 : Int → Int → Bool → Option Res) (k1 : Int → Int → Int → Option Res) (s2 : List UInt8) (i1 : Int) (i2 : Int) (i3 : Int) (i4 : Int) : Option Res :=
  bif decide ((i4 : Int) < i1) then
    (need (decide (0 ≤ (i4 : Int))) <|
    (s2[Int.toNat i4]?).bind fun c2 =>
    bif ((IntKind.u8.wrap (BitVec.ofInt IntKind.u8.bits (c2.toNat : Int) &&& BitVec.ofInt IntKind.u8.bits 192).toNat) : Int) != 128 then
    (k0 0 1 false)
    else
    need (!decide (6 < 0)) <|
    need (decide (0 ≤ (i4 : Int))) <|
    (s2[Int.toNat i4]?).bind fun c3 =>
    go s2 i1 i2 (IntKind.i32.wrap (BitVec.ofInt IntKind.i32.bits (IntKind.i32.wrap (i3 * 2 ^ (min (Int.toNat 6) IntKind.i32.bits))) ||| BitVec.ofInt IntKind.i32.bits (IntKind.i32.wrap (IntKind.u8.wrap (BitVec.ofInt IntKind.u8.bits (c3.toNat : Int) &&& BitVec.ofInt IntKind.u8.bits 63).toNat))).toNat) (IntKind.i64.wrap (i4 + 1)))
  else
    k1 i1 i2 i3
def ref01Rune_L1 (R : Nat → List AV → Option Res) (N : Nat) (k0 : Int → Int → Bool → Option Res) (k1 : Int → Int → Int → Option Res) : Nat → List UInt8 → Int → Int → Int → Int → Option Res
  | 0, _, _, _, _, _ => none
  | n + 1, s2, i1, i2, i3, i4 => ref01Rune_L1s R N (ref01Rune_L1 R N k0 k1 n) k0 k1 s2 i1 i2 i3 i4
def ref01Rune_c0 : AC := .seq (.seq (.region [.op (some 55) none (.mv (.t 9)), .op (some 56) none (.mv (.t 6)), .op (some 57) none (.bin .lss (.t 55) (.t 56))]) (.cond (.t 57) (.skip) (.exit 1 [6, 7, 8] []))) (.seq (.block 2 (.seq (.seq (.region [.op (some 60) none (.mv (.t 0)), .op (some 61) none (.mv (.t 9)), .op (some 62) none (.iaddr (.t 60) (.t 61) 1 (.int .u8)), .op (some 63) none (.load (.t 62) none (.int .u8)), .op (some 64) none (.bin .and (.t 63) (.k (AV.int .u8 192))), .op (some 65) none (.bin .neq (.t 64) (.k (AV.int .u8 128)))]) (.cond (.t 65) (.seq (.region [.op (some 2) none (.mv (.k (AV.int .i32 0))), .op (some 3) none (.mv (.k (AV.int .i64 1))), .op (some 4) none (.mv (.k (AV.bool false)))]) (.ret [2, 3, 4] [])) (.skip))) (.region [.op (some 66) none (.mv (.t 8)), .op (some 67) none (.bin .shl (.t 66) (.k (AV.int .u64 6))), .op (some 68) none (.mv (.t 0)), .op (some 69) none (.mv (.t 9)), .op (some 70) none (.iaddr (.t 68) (.t 69) 1 (.int .u8)), .op (some 71) none (.load (.t 70) none (.int .u8)), .op (some 72) none (.bin .and (.t 71) (.k (AV.int .u8 63))), .op (some 73) none (.cvInt .i32 (.t 72)), .op (some 74) none (.bin .or (.t 67) (.t 73)), .op (some 8) none (.mv (.t 74))]))) (.region [.op (some 58) none (.mv (.t 9)), .op (some 59) none (.bin .add (.t 58) (.k (AV.int .i64 1))), .op (some 9) none (.mv (.t 59))]))
theorem ref01Rune_L1s_eq (R : Nat → List AV → Option Res) (N : Nat) (K : Ex → St → Option Res) (W : St → Option Res) (s2 : List UInt8) (i1 : Int) (i2 : Int) (i3 : Int) (i4 : Int) :
    evC gl R N ref01Rune_c0 (Kseq (fun st' => W (prune [0, 6, 7, 8, 9] [] st')) K) ⟨[(0, .imm (AV.bytes s2)), (6, .imm (AV.int .i64 i1)), (7, .imm (AV.int .i32 i2)), (8, .imm (AV.int .i32 i3)), (9, .imm (AV.int .i64 i4))], []⟩ =
    ref01Rune_L1s R N (fun (s2 : List UInt8) (i1 : Int) (i2 : Int) (i3 : Int) (i4 : Int) => W ⟨[(0, .imm (AV.bytes s2)), (6, .imm (AV.int .i64 i1)), (7, .imm (AV.int .i32 i2)), (8, .imm (AV.int .i32 i3)), (9, .imm (AV.int .i64 i4))], []⟩) (fun (i5 : Int) (i6 : Int) (b1 : Bool) => K .ret ⟨[(2, .imm (AV.int .i32 i5)), (3, .imm (AV.int .i64 i6)), (4, .imm (AV.bool b1))], []⟩) (fun (i7 : Int) (i8 : Int) (i9 : Int) => K (.exit 1) ⟨[(6, .imm (AV.int .i64 i7)), (7, .imm (AV.int .i32 i8)), (8, .imm (AV.int .i32 i9))], []⟩) s2 i1 i2 i3 i4 := by
  kernel_rfl
theorem ref01Rune_L1_eq (R : Nat → List AV → Option Res) (N : Nat) (K : Ex → St → Option Res) : ∀ (n : Nat) (s2 : List UInt8) (i1 : Int) (i2 : Int) (i3 : Int) (i4 : Int),
    rounds [0, 6, 7, 8, 9] [] (evC gl R N ref01Rune_c0) K n ⟨[(0, .imm (AV.bytes s2)), (6, .imm (AV.int .i64 i1)), (7, .imm (AV.int .i32 i2)), (8, .imm (AV.int .i32 i3)), (9, .imm (AV.int .i64 i4))], []⟩ = ref01Rune_L1 R N (fun (i5 : Int) (i6 : Int) (b1 : Bool) => K .ret ⟨[(2, .imm (AV.int .i32 i5)), (3, .imm (AV.int .i64 i6)), (4, .imm (AV.bool b1))], []⟩) (fun (i7 : Int) (i8 : Int) (i9 : Int) => K (.exit 1) ⟨[(6, .imm (AV.int .i64 i7)), (7, .imm (AV.int .i32 i8)), (8, .imm (AV.int .i32 i9))], []⟩) n s2 i1 i2 i3 i4
  | 0, _, _, _, _, _ => rfl
  | n + 1, s2, i1, i2, i3, i4 => (ref01Rune_L1s_eq R N K (rounds [0, 6, 7, 8, 9] [] (evC gl R N ref01Rune_c0) K n) s2 i1 i2 i3 i4).trans
      (congrArg (fun go => ref01Rune_L1s R N go (fun (i5 : Int) (i6 : Int) (b1 : Bool) => K .ret ⟨[(2, .imm (AV.int .i32 i5)), (3, .imm (AV.int .i64 i6)), (4, .imm (AV.bool b1))], []⟩) (fun (i7 : Int) (i8 : Int) (i9 : Int) => K (.exit 1) ⟨[(6, .imm (AV.int .i64 i7)), (7, .imm (AV.int .i32 i8)), (8, .imm (AV.int .i32 i9))], []⟩) s2 i1 i2 i3 i4) (funext fun s2 => funext fun i1 => funext fun i2 => funext fun i3 => funext fun i4 => ref01Rune_L1_eq R N K n s2 i1 i2 i3 i4))
def ref01Rune_c1 : AC := .seq (.seq (.region [.op (some 75) none (.mv (.t 8)), .op (some 76) none (.mv (.t 7)), .op (some 77) none (.bin .lss (.t 75) (.t 76)), .op (some 78) none (.mv (.t 77)), .split 78, .op (some 79) (some (78, false)) (.mv (.t 8)), .op (some 80) (some (78, false)) (.bin .gtr (.t 79) (.k (AV.int .i32 1114111))), .op (some 81) none (.pick (.t 78) (.k (AV.bool true)) (.t 80)), .op (some 82) none (.mv (.t 81)), .split 82, .op (some 83) (some (82, false)) (.mv (.t 8)), .op (some 84) (some (82, false)) (.bin .geq (.t 83) (.k (AV.int .i32 55296))), .op (some 85) (some (82, false)) (.mv (.t 84)), .split 85, .op (some 86) (some (85, true)) (.mv (.t 8)), .op (some 87) (some (85, true)) (.bin .leq (.t 86) (.k (AV.int .i32 57343))), .op (some 88) (some (82, false)) (.pick (.t 85) (.t 87) (.k (AV.bool false))), .op (some 89) none (.pick (.t 82) (.k (AV.bool true)) (.t 88))]) (.cond (.t 89) (.seq (.region [.op (some 2) none (.mv (.k (AV.int .i32 0))), .op (some 3) none (.mv (.k (AV.int .i64 1))), .op (some 4) none (.mv (.k (AV.bool false)))]) (.ret [2, 3, 4] [])) (.skip))) (.seq (.region [.op (some 90) none (.mv (.t 8)), .op (some 91) none (.mv (.t 6)), .op (some 2) none (.mv (.t 90)), .op (some 3) none (.mv (.t 91)), .op (some 4) none (.mv (.k (AV.bool true)))]) (.ret [2, 3, 4] []))
def ref01Rune_c2 : AC := .seq (.region [.op (some 2) none (.mv (.k (AV.int .i32 0))), .op (some 3) none (.mv (.k (AV.int .i64 0))), .op (some 4) none (.mv (.k (AV.bool false)))]) (.seq (.seq (.region [.op (some 10) none (.mv (.t 0)), .op (some 11) none (.len (.t 10) false), .op (some 12) none (.bin .eql (.t 11) (.k (AV.int .i64 0)))]) (.cond (.t 12) (.seq (.region [.op (some 2) none (.mv (.k (AV.int .i32 0))), .op (some 3) none (.mv (.k (AV.int .i64 0))), .op (some 4) none (.mv (.k (AV.bool false)))]) (.ret [2, 3, 4] [])) (.skip))) (.seq (.region [.op (some 13) none (.mv (.t 0)), .op (some 14) none (.iaddr (.t 13) (.k (AV.int .i64 0)) 1 (.int .u8)), .op (some 15) none (.load (.t 14) none (.int .u8)), .op (some 5) none (.mv (.t 15))]) (.seq (.region [.op (some 6) none (.mv (.k (AV.int .i64 0))), .op (some 7) none (.mv (.k (AV.int .i32 0)))]) (.seq (.region [.op (some 8) none (.mv (.k (AV.int .i32 0)))]) (.seq (.block 0 (.seq (.region [.op (some 17) none (.mv (.t 5)), .op (some 18) none (.bin .lss (.t 17) (.k (AV.int .u8 128))), .op (some 16) none (.mv (.t 18))]) (.cond (.t 16) (.seq (.region [.op (some 19) none (.mv (.t 5)), .op (some 20) none (.cvInt .i32 (.t 19)), .op (some 2) none (.mv (.t 20)), .op (some 3) none (.mv (.k (AV.int .i64 1))), .op (some 4) none (.mv (.k (AV.bool true)))]) (.ret [2, 3, 4] [])) (.seq (.region [.op (some 22) none (.mv (.t 5)), .op (some 23) none (.bin .geq (.t 22) (.k (AV.int .u8 194))), .op (some 24) none (.mv (.t 23)), .split 24, .op (some 25) (some (24, true)) (.mv (.t 5)), .op (some 26) (some (24, true)) (.bin .leq (.t 25) (.k (AV.int .u8 223))), .op (some 27) none (.pick (.t 24) (.t 26) (.k (AV.bool false))), .op (some 21) none (.mv (.t 27))]) (.cond (.t 21) (.region [.op (some 28) none (.mv (.t 5)), .op (some 29) none (.bin .and (.t 28) (.k (AV.int .u8 31))), .op (some 30) none (.cvInt .i32 (.t 29)), .op (some 6) none (.mv (.k (AV.int .i64 2))), .op (some 7) none (.mv (.k (AV.int .i32 128))), .op (some 8) none (.mv (.t 30))]) (.seq (.region [.op (some 32) none (.mv (.t 5)), .op (some 33) none (.bin .geq (.t 32) (.k (AV.int .u8 224))), .op (some 34) none (.mv (.t 33)), .split 34, .op (some 35) (some (34, true)) (.mv (.t 5)), .op (some 36) (some (34, true)) (.bin .leq (.t 35) (.k (AV.int .u8 239))), .op (some 37) none (.pick (.t 34) (.t 36) (.k (AV.bool false))), .op (some 31) none (.mv (.t 37))]) (.cond (.t 31) (.region [.op (some 38) none (.mv (.t 5)), .op (some 39) none (.bin .and (.t 38) (.k (AV.int .u8 15))), .op (some 40) none (.cvInt .i32 (.t 39)), .op (some 6) none (.mv (.k (AV.int .i64 3))), .op (some 7) none (.mv (.k (AV.int .i32 2048))), .op (some 8) none (.mv (.t 40))]) (.seq (.region [.op (some 42) none (.mv (.t 5)), .op (some 43) none (.bin .geq (.t 42) (.k (AV.int .u8 240))), .op (some 44) none (.mv (.t 43)), .split 44, .op (some 45) (some (44, true)) (.mv (.t 5)), .op (some 46) (some (44, true)) (.bin .leq (.t 45) (.k (AV.int .u8 244))), .op (some 47) none (.pick (.t 44) (.t 46) (.k (AV.bool false))), .op (some 41) none (.mv (.t 47))]) (.cond (.t 41) (.region [.op (some 48) none (.mv (.t 5)), .op (some 49) none (.bin .and (.t 48) (.k (AV.int .u8 7))), .op (some 50) none (.cvInt .i32 (.t 49)), .op (some 6) none (.mv (.k (AV.int .i64 4))), .op (some 7) none (.mv (.k (AV.int .i32 65536))), .op (some 8) none (.mv (.t 50))]) (.seq (.region [.op (some 2) none (.mv (.k (AV.int .i32 0))), .op (some 3) none (.mv (.k (AV.int .i64 1))), .op (some 4) none (.mv (.k (AV.bool false)))]) (.ret [2, 3, 4] []))))))))))) (.seq (.seq (.region [.op (some 51) none (.mv (.t 0)), .op (some 52) none (.len (.t 51) false), .op (some 53) none (.mv (.t 6)), .op (some 54) none (.bin .lss (.t 52) (.t 53))]) (.cond (.t 54) (.seq (.region [.op (some 2) none (.mv (.k (AV.int .i32 0))), .op (some 3) none (.mv (.k (AV.int .i64 1))), .op (some 4) none (.mv (.k (AV.bool false)))]) (.ret [2, 3, 4] [])) (.skip))) (.seq (.seq (.region [.op (some 9) none (.mv (.k (AV.int .i64 1)))]) (.block 1 (.loop [0, 6, 7, 8, 9] [] (ref01Rune_c0)))) (ref01Rune_c1))))))))
def ref01Rune : AFunc := ⟨1, 92, [.tmp 2, .tmp 3, .tmp 4], ref01Rune_c2⟩
def ref01Runer (R : Nat → List AV → Option Res) (N : Nat) (s1 : List UInt8) : Option Res :=
  bif (((s1.length : Nat) : Int) : Int) == 0 then
    (some ⟨AV.tup [AV.int .i32 0, AV.int .i64 0, AV.bool false], false, []⟩)
  else
    need (decide (0 ≤ (0 : Int))) <|
    (s1[Int.toNat 0]?).bind fun c1 =>
    bif decide (((c1.toNat : Int) : Int) < 128) then
    (some ⟨AV.tup [AV.int .i32 (IntKind.i32.wrap (c1.toNat : Int)), AV.int .i64 1, AV.bool true], false, []⟩)
    else
    bif decide (((c1.toNat : Int) : Int) ≥ 194) then
    (bif decide (((c1.toNat : Int) : Int) ≤ 223) then
    (bif decide ((((s1.length : Nat) : Int) : Int) < 2) then
    (some ⟨AV.tup [AV.int .i32 0, AV.int .i64 1, AV.bool false], false, []⟩)
    else
    ref01Rune_L1 R N
      (fun i15 i16 b3 =>
    some ⟨AV.tup [AV.int .i32 i15, AV.int .i64 i16, AV.bool b3], false, []⟩)
      (fun i17 i18 i19 =>
    bif decide ((i19 : Int) < i18) then
    (some ⟨AV.tup [AV.int .i32 0, AV.int .i64 1, AV.bool false], false, []⟩)
    else
    bif decide ((i19 : Int) > 1114111) then
    (some ⟨AV.tup [AV.int .i32 0, AV.int .i64 1, AV.bool false], false, []⟩)
    else
    bif decide ((i19 : Int) ≥ 55296) then
    (bif decide ((i19 : Int) ≤ 57343) then
    (some ⟨AV.tup [AV.int .i32 0, AV.int .i64 1, AV.bool false], false, []⟩)
    else
    some ⟨AV.tup [AV.int .i32 i19, AV.int .i64 i17, AV.bool true], false, []⟩)
    else
    some ⟨AV.tup [AV.int .i32 i19, AV.int .i64 i17, AV.bool true], false, []⟩)
      N s1 2 128 (IntKind.i32.wrap (IntKind.u8.wrap (BitVec.ofInt IntKind.u8.bits (c1.toNat : Int) &&& BitVec.ofInt IntKind.u8.bits 31).toNat)) 1)
    else
    bif decide (((c1.toNat : Int) : Int) ≥ 224) then
    (bif decide (((c1.toNat : Int) : Int) ≤ 239) then
    (bif decide ((((s1.length : Nat) : Int) : Int) < 3) then
    (some ⟨AV.tup [AV.int .i32 0, AV.int .i64 1, AV.bool false], false, []⟩)
    else
    ref01Rune_L1 R N
      (fun i20 i21 b4 =>
    some ⟨AV.tup [AV.int .i32 i20, AV.int .i64 i21, AV.bool b4], false, []⟩)
      (fun i22 i23 i24 =>
    bif decide ((i24 : Int) < i23) then
    (some ⟨AV.tup [AV.int .i32 0, AV.int .i64 1, AV.bool false], false, []⟩)
    else
    bif decide ((i24 : Int) > 1114111) then
    (some ⟨AV.tup [AV.int .i32 0, AV.int .i64 1, AV.bool false], false, []⟩)
    else
    bif decide ((i24 : Int) ≥ 55296) then
    (bif decide ((i24 : Int) ≤ 57343) then
    (some ⟨AV.tup [AV.int .i32 0, AV.int .i64 1, AV.bool false], false, []⟩)
    else
    some ⟨AV.tup [AV.int .i32 i24, AV.int .i64 i22, AV.bool true], false, []⟩)
    else
    some ⟨AV.tup [AV.int .i32 i24, AV.int .i64 i22, AV.bool true], false, []⟩)
      N s1 3 2048 (IntKind.i32.wrap (IntKind.u8.wrap (BitVec.ofInt IntKind.u8.bits (c1.toNat : Int) &&& BitVec.ofInt IntKind.u8.bits 15).toNat)) 1)
    else
    bif decide (((c1.toNat : Int) : Int) ≥ 240) then
    (bif decide (((c1.toNat : Int) : Int) ≤ 244) then
    (bif decide ((((s1.length : Nat) : Int) : Int) < 4) then
    (some ⟨AV.tup [AV.int .i32 0, AV.int .i64 1, AV.bool false], false, []⟩)
    else
    ref01Rune_L1 R N
      (fun i25 i26 b5 =>
    some ⟨AV.tup [AV.int .i32 i25, AV.int .i64 i26, AV.bool b5], false, []⟩)
      (fun i27 i28 i29 =>
    bif decide ((i29 : Int) < i28) then
    (some ⟨AV.tup [AV.int .i32 0, AV.int .i64 1, AV.bool false], false, []⟩)
    else
    bif decide ((i29 : Int) > 1114111) then
    (some ⟨AV.tup [AV.int .i32 0, AV.int .i64 1, AV.bool false], false, []⟩)
    else
    bif decide ((i29 : Int) ≥ 55296) then
    (bif decide ((i29 : Int) ≤ 57343) then
    (some ⟨AV.tup [AV.int .i32 0, AV.int .i64 1, AV.bool false], false, []⟩)
    else
    some ⟨AV.tup [AV.int .i32 i29, AV.int .i64 i27, AV.bool true], false, []⟩)
    else
    some ⟨AV.tup [AV.int .i32 i29, AV.int .i64 i27, AV.bool true], false, []⟩)
      N s1 4 65536 (IntKind.i32.wrap (IntKind.u8.wrap (BitVec.ofInt IntKind.u8.bits (c1.toNat : Int) &&& BitVec.ofInt IntKind.u8.bits 7).toNat)) 1)
    else
    some ⟨AV.tup [AV.int .i32 0, AV.int .i64 1, AV.bool false], false, []⟩)
    else
    some ⟨AV.tup [AV.int .i32 0, AV.int .i64 1, AV.bool false], false, []⟩)
    else
    bif decide (((c1.toNat : Int) : Int) ≥ 240) then
    (bif decide (((c1.toNat : Int) : Int) ≤ 244) then
    (bif decide ((((s1.length : Nat) : Int) : Int) < 4) then
    (some ⟨AV.tup [AV.int .i32 0, AV.int .i64 1, AV.bool false], false, []⟩)
    else
    ref01Rune_L1 R N
      (fun i30 i31 b6 =>
    some ⟨AV.tup [AV.int .i32 i30, AV.int .i64 i31, AV.bool b6], false, []⟩)
      (fun i32 i33 i34 =>
    bif decide ((i34 : Int) < i33) then
    (some ⟨AV.tup [AV.int .i32 0, AV.int .i64 1, AV.bool false], false, []⟩)
    else
    bif decide ((i34 : Int) > 1114111) then
    (some ⟨AV.tup [AV.int .i32 0, AV.int .i64 1, AV.bool false], false, []⟩)
    else
    bif decide ((i34 : Int) ≥ 55296) then
    (bif decide ((i34 : Int) ≤ 57343) then
    (some ⟨AV.tup [AV.int .i32 0, AV.int .i64 1, AV.bool false], false, []⟩)
    else
    some ⟨AV.tup [AV.int .i32 i34, AV.int .i64 i32, AV.bool true], false, []⟩)
    else
    some ⟨AV.tup [AV.int .i32 i34, AV.int .i64 i32, AV.bool true], false, []⟩)
      N s1 4 65536 (IntKind.i32.wrap (IntKind.u8.wrap (BitVec.ofInt IntKind.u8.bits (c1.toNat : Int) &&& BitVec.ofInt IntKind.u8.bits 7).toNat)) 1)
    else
    some ⟨AV.tup [AV.int .i32 0, AV.int .i64 1, AV.bool false], false, []⟩)
    else
    some ⟨AV.tup [AV.int .i32 0, AV.int .i64 1, AV.bool false], false, []⟩)
    else
    bif decide (((c1.toNat : Int) : Int) ≥ 224) then
    (bif decide (((c1.toNat : Int) : Int) ≤ 239) then
    (bif decide ((((s1.length : Nat) : Int) : Int) < 3) then
    (some ⟨AV.tup [AV.int .i32 0, AV.int .i64 1, AV.bool false], false, []⟩)
    else
    ref01Rune_L1 R N
      (fun i35 i36 b7 =>
    some ⟨AV.tup [AV.int .i32 i35, AV.int .i64 i36, AV.bool b7], false, []⟩)
      (fun i37 i38 i39 =>
    bif decide ((i39 : Int) < i38) then
    (some ⟨AV.tup [AV.int .i32 0, AV.int .i64 1, AV.bool false], false, []⟩)
    else
    bif decide ((i39 : Int) > 1114111) then
    (some ⟨AV.tup [AV.int .i32 0, AV.int .i64 1, AV.bool false], false, []⟩)
    else
    bif decide ((i39 : Int) ≥ 55296) then
    (bif decide ((i39 : Int) ≤ 57343) then
    (some ⟨AV.tup [AV.int .i32 0, AV.int .i64 1, AV.bool false], false, []⟩)
    else
    some ⟨AV.tup [AV.int .i32 i39, AV.int .i64 i37, AV.bool true], false, []⟩)
    else
    some ⟨AV.tup [AV.int .i32 i39, AV.int .i64 i37, AV.bool true], false, []⟩)
      N s1 3 2048 (IntKind.i32.wrap (IntKind.u8.wrap (BitVec.ofInt IntKind.u8.bits (c1.toNat : Int) &&& BitVec.ofInt IntKind.u8.bits 15).toNat)) 1)
    else
    bif decide (((c1.toNat : Int) : Int) ≥ 240) then
    (bif decide (((c1.toNat : Int) : Int) ≤ 244) then
    (bif decide ((((s1.length : Nat) : Int) : Int) < 4) then
    (some ⟨AV.tup [AV.int .i32 0, AV.int .i64 1, AV.bool false], false, []⟩)
    else
    ref01Rune_L1 R N
      (fun i40 i41 b8 =>
    some ⟨AV.tup [AV.int .i32 i40, AV.int .i64 i41, AV.bool b8], false, []⟩)
      (fun i42 i43 i44 =>
    bif decide ((i44 : Int) < i43) then
    (some ⟨AV.tup [AV.int .i32 0, AV.int .i64 1, AV.bool false], false, []⟩)
    else
    bif decide ((i44 : Int) > 1114111) then
    (some ⟨AV.tup [AV.int .i32 0, AV.int .i64 1, AV.bool false], false, []⟩)
    else
    bif decide ((i44 : Int) ≥ 55296) then
    (bif decide ((i44 : Int) ≤ 57343) then
    (some ⟨AV.tup [AV.int .i32 0, AV.int .i64 1, AV.bool false], false, []⟩)
    else
    some ⟨AV.tup [AV.int .i32 i44, AV.int .i64 i42, AV.bool true], false, []⟩)
    else
    some ⟨AV.tup [AV.int .i32 i44, AV.int .i64 i42, AV.bool true], false, []⟩)
      N s1 4 65536 (IntKind.i32.wrap (IntKind.u8.wrap (BitVec.ofInt IntKind.u8.bits (c1.toNat : Int) &&& BitVec.ofInt IntKind.u8.bits 7).toNat)) 1)
    else
    some ⟨AV.tup [AV.int .i32 0, AV.int .i64 1, AV.bool false], false, []⟩)
    else
    some ⟨AV.tup [AV.int .i32 0, AV.int .i64 1, AV.bool false], false, []⟩)
    else
    bif decide (((c1.toNat : Int) : Int) ≥ 240) then
    (bif decide (((c1.toNat : Int) : Int) ≤ 244) then
    (bif decide ((((s1.length : Nat) : Int) : Int) < 4) then
    (some ⟨AV.tup [AV.int .i32 0, AV.int .i64 1, AV.bool false], false, []⟩)
    else
    ref01Rune_L1 R N
      (fun i45 i46 b9 =>
    some ⟨AV.tup [AV.int .i32 i45, AV.int .i64 i46, AV.bool b9], false, []⟩)
      (fun i47 i48 i49 =>
    bif decide ((i49 : Int) < i48) then
    (some ⟨AV.tup [AV.int .i32 0, AV.int .i64 1, AV.bool false], false, []⟩)
    else
    bif decide ((i49 : Int) > 1114111) then
    (some ⟨AV.tup [AV.int .i32 0, AV.int .i64 1, AV.bool false], false, []⟩)
    else
    bif decide ((i49 : Int) ≥ 55296) then
    (bif decide ((i49 : Int) ≤ 57343) then
    (some ⟨AV.tup [AV.int .i32 0, AV.int .i64 1, AV.bool false], false, []⟩)
    else
    some ⟨AV.tup [AV.int .i32 i49, AV.int .i64 i47, AV.bool true], false, []⟩)
    else
    some ⟨AV.tup [AV.int .i32 i49, AV.int .i64 i47, AV.bool true], false, []⟩)
      N s1 4 65536 (IntKind.i32.wrap (IntKind.u8.wrap (BitVec.ofInt IntKind.u8.bits (c1.toNat : Int) &&& BitVec.ofInt IntKind.u8.bits 7).toNat)) 1)
    else
    some ⟨AV.tup [AV.int .i32 0, AV.int .i64 1, AV.bool false], false, []⟩)
    else
    some ⟨AV.tup [AV.int .i32 0, AV.int .i64 1, AV.bool false], false, []⟩
theorem ref01Rune_eq (R : Nat → List AV → Option Res) (N : Nat) (s1 : List UInt8) : runF gl R N ref01Rune [AV.bytes s1] = ref01Runer R N s1 := by
  refine Eq.trans (b :=
    bif (((s1.length : Nat) : Int) : Int) == 0 then
    (some ⟨AV.tup [AV.int .i32 0, AV.int .i64 0, AV.bool false], false, []⟩)
    else
    need (decide (0 ≤ (0 : Int))) <|
    (s1[Int.toNat 0]?).bind fun c1 =>
    bif decide (((c1.toNat : Int) : Int) < 128) then
    (some ⟨AV.tup [AV.int .i32 (IntKind.i32.wrap (c1.toNat : Int)), AV.int .i64 1, AV.bool true], false, []⟩)
    else
    bif decide (((c1.toNat : Int) : Int) ≥ 194) then
    (bif decide (((c1.toNat : Int) : Int) ≤ 223) then
    (bif decide ((((s1.length : Nat) : Int) : Int) < 2) then
    (some ⟨AV.tup [AV.int .i32 0, AV.int .i64 1, AV.bool false], false, []⟩)
    else
    rounds [0, 6, 7, 8, 9] [] (evC gl R N ref01Rune_c0) (Kblock 1 (Kthen gl R N ref01Rune_c1 (Kret ref01Rune.rets []))) N ⟨[(0, .imm (AV.bytes s1)), (6, .imm (AV.int .i64 2)), (7, .imm (AV.int .i32 128)), (8, .imm (AV.int .i32 (IntKind.i32.wrap (IntKind.u8.wrap (BitVec.ofInt IntKind.u8.bits (c1.toNat : Int) &&& BitVec.ofInt IntKind.u8.bits 31).toNat)))), (9, .imm (AV.int .i64 1))], []⟩)
    else
    bif decide (((c1.toNat : Int) : Int) ≥ 224) then
    (bif decide (((c1.toNat : Int) : Int) ≤ 239) then
    (bif decide ((((s1.length : Nat) : Int) : Int) < 3) then
    (some ⟨AV.tup [AV.int .i32 0, AV.int .i64 1, AV.bool false], false, []⟩)
    else
    rounds [0, 6, 7, 8, 9] [] (evC gl R N ref01Rune_c0) (Kblock 1 (Kthen gl R N ref01Rune_c1 (Kret ref01Rune.rets []))) N ⟨[(0, .imm (AV.bytes s1)), (6, .imm (AV.int .i64 3)), (7, .imm (AV.int .i32 2048)), (8, .imm (AV.int .i32 (IntKind.i32.wrap (IntKind.u8.wrap (BitVec.ofInt IntKind.u8.bits (c1.toNat : Int) &&& BitVec.ofInt IntKind.u8.bits 15).toNat)))), (9, .imm (AV.int .i64 1))], []⟩)
    else
    bif decide (((c1.toNat : Int) : Int) ≥ 240) then
    (bif decide (((c1.toNat : Int) : Int) ≤ 244) then
    (bif decide ((((s1.length : Nat) : Int) : Int) < 4) then
    (some ⟨AV.tup [AV.int .i32 0, AV.int .i64 1, AV.bool false], false, []⟩)
    else
    rounds [0, 6, 7, 8, 9] [] (evC gl R N ref01Rune_c0) (Kblock 1 (Kthen gl R N ref01Rune_c1 (Kret ref01Rune.rets []))) N ⟨[(0, .imm (AV.bytes s1)), (6, .imm (AV.int .i64 4)), (7, .imm (AV.int .i32 65536)), (8, .imm (AV.int .i32 (IntKind.i32.wrap (IntKind.u8.wrap (BitVec.ofInt IntKind.u8.bits (c1.toNat : Int) &&& BitVec.ofInt IntKind.u8.bits 7).toNat)))), (9, .imm (AV.int .i64 1))], []⟩)
    else
    some ⟨AV.tup [AV.int .i32 0, AV.int .i64 1, AV.bool false], false, []⟩)
    else
    some ⟨AV.tup [AV.int .i32 0, AV.int .i64 1, AV.bool false], false, []⟩)
    else
    bif decide (((c1.toNat : Int) : Int) ≥ 240) then
    (bif decide (((c1.toNat : Int) : Int) ≤ 244) then
    (bif decide ((((s1.length : Nat) : Int) : Int) < 4) then
    (some ⟨AV.tup [AV.int .i32 0, AV.int .i64 1, AV.bool false], false, []⟩)
    else
    rounds [0, 6, 7, 8, 9] [] (evC gl R N ref01Rune_c0) (Kblock 1 (Kthen gl R N ref01Rune_c1 (Kret ref01Rune.rets []))) N ⟨[(0, .imm (AV.bytes s1)), (6, .imm (AV.int .i64 4)), (7, .imm (AV.int .i32 65536)), (8, .imm (AV.int .i32 (IntKind.i32.wrap (IntKind.u8.wrap (BitVec.ofInt IntKind.u8.bits (c1.toNat : Int) &&& BitVec.ofInt IntKind.u8.bits 7).toNat)))), (9, .imm (AV.int .i64 1))], []⟩)
    else
    some ⟨AV.tup [AV.int .i32 0, AV.int .i64 1, AV.bool false], false, []⟩)
    else
    some ⟨AV.tup [AV.int .i32 0, AV.int .i64 1, AV.bool false], false, []⟩)
    else
    bif decide (((c1.toNat : Int) : Int) ≥ 224) then
    (bif decide (((c1.toNat : Int) : Int) ≤ 239) then
    (bif decide ((((s1.length : Nat) : Int) : Int) < 3) then
    (some ⟨AV.tup [AV.int .i32 0, AV.int .i64 1, AV.bool false], false, []⟩)
    else
    rounds [0, 6, 7, 8, 9] [] (evC gl R N ref01Rune_c0) (Kblock 1 (Kthen gl R N ref01Rune_c1 (Kret ref01Rune.rets []))) N ⟨[(0, .imm (AV.bytes s1)), (6, .imm (AV.int .i64 3)), (7, .imm (AV.int .i32 2048)), (8, .imm (AV.int .i32 (IntKind.i32.wrap (IntKind.u8.wrap (BitVec.ofInt IntKind.u8.bits (c1.toNat : Int) &&& BitVec.ofInt IntKind.u8.bits 15).toNat)))), (9, .imm (AV.int .i64 1))], []⟩)
    else
    bif decide (((c1.toNat : Int) : Int) ≥ 240) then
    (bif decide (((c1.toNat : Int) : Int) ≤ 244) then
    (bif decide ((((s1.length : Nat) : Int) : Int) < 4) then
    (some ⟨AV.tup [AV.int .i32 0, AV.int .i64 1, AV.bool false], false, []⟩)
    else
    rounds [0, 6, 7, 8, 9] [] (evC gl R N ref01Rune_c0) (Kblock 1 (Kthen gl R N ref01Rune_c1 (Kret ref01Rune.rets []))) N ⟨[(0, .imm (AV.bytes s1)), (6, .imm (AV.int .i64 4)), (7, .imm (AV.int .i32 65536)), (8, .imm (AV.int .i32 (IntKind.i32.wrap (IntKind.u8.wrap (BitVec.ofInt IntKind.u8.bits (c1.toNat : Int) &&& BitVec.ofInt IntKind.u8.bits 7).toNat)))), (9, .imm (AV.int .i64 1))], []⟩)
    else
    some ⟨AV.tup [AV.int .i32 0, AV.int .i64 1, AV.bool false], false, []⟩)
    else
    some ⟨AV.tup [AV.int .i32 0, AV.int .i64 1, AV.bool false], false, []⟩)
    else
    bif decide (((c1.toNat : Int) : Int) ≥ 240) then
    (bif decide (((c1.toNat : Int) : Int) ≤ 244) then
    (bif decide ((((s1.length : Nat) : Int) : Int) < 4) then
    (some ⟨AV.tup [AV.int .i32 0, AV.int .i64 1, AV.bool false], false, []⟩)
    else
    rounds [0, 6, 7, 8, 9] [] (evC gl R N ref01Rune_c0) (Kblock 1 (Kthen gl R N ref01Rune_c1 (Kret ref01Rune.rets []))) N ⟨[(0, .imm (AV.bytes s1)), (6, .imm (AV.int .i64 4)), (7, .imm (AV.int .i32 65536)), (8, .imm (AV.int .i32 (IntKind.i32.wrap (IntKind.u8.wrap (BitVec.ofInt IntKind.u8.bits (c1.toNat : Int) &&& BitVec.ofInt IntKind.u8.bits 7).toNat)))), (9, .imm (AV.int .i64 1))], []⟩)
    else
    some ⟨AV.tup [AV.int .i32 0, AV.int .i64 1, AV.bool false], false, []⟩)
    else
    some ⟨AV.tup [AV.int .i32 0, AV.int .i64 1, AV.bool false], false, []⟩) (by kernel_rfl) ?_
  simp (config := { maxSteps := 100000000 }) only [ref01Rune_L1_eq]
  kernel_rfl
theorem ref01Rune_fit : fitF Tryd.prog ref01Rune Tryd.f29 = true := by
  kernel_rfl

def ref01Escape_L1s (R : Nat → List AV → Option Res) (N : Nat) (go : Int → List UInt8 → List AV → Int → Option Res) (k0 : Int → Option Res) (k1 : Option Res) (i2 : Int) (s1 : List UInt8) (l1 : List AV) (i3 : Int) : Option Res :=
  bif decide ((i3 : Int) < ((s1.length : Nat) : Int)) then
    (need (decide (0 ≤ (i3 : Int))) <|
    (s1[Int.toNat i3]?).bind fun c1 =>
    bif ((c1.toNat : Int) : Int) == i2 then
    (need (decide (0 ≤ (i3 : Int))) <|
    (l1[Int.toNat i3]?).bind fun e1 =>
    asI .i32 e1 fun i4 =>
    k0 i4)
    else
    go i2 s1 l1 (IntKind.i64.wrap (i3 + 1)))
  else
    k1
def ref01Escape_L1 (R : Nat → List AV → Option Res) (N : Nat) (k0 : Int → Option Res) (k1 : Option Res) : Nat → Int → List UInt8 → List AV → Int → Option Res
  | 0, _, _, _, _ => none
  | n + 1, i2, s1, l1, i3 => ref01Escape_L1s R N (ref01Escape_L1 R N k0 k1 n) k0 k1 i2 s1 l1 i3
def ref01Escape_c0 : AC := .seq (.seq (.region [.op (some 7) none (.mv (.t 5)), .op (some 8) none (.mv (.t 3)), .op (some 9) none (.len (.t 8) true), .op (some 10) none (.bin .lss (.t 7) (.t 9))]) (.cond (.t 10) (.skip) (.exit 0 [] []))) (.seq (.block 1 (.seq (.region [.op (some 13) none (.mv (.t 3)), .op (some 14) none (.mv (.t 5)), .op (some 15) none (.index (.t 13) (.t 14)), .op (some 16) none (.mv (.t 0)), .op (some 17) none (.bin .eql (.t 15) (.t 16))]) (.cond (.t 17) (.seq (.region [.op (some 18) none (.mv (.t 4)), .op (some 19) none (.mv (.t 5)), .op (some 20) none (.iaddr (.t 18) (.t 19) 1 (.int .i32)), .op (some 21) none (.load (.t 20) none (.int .i32)), .op (some 2) none (.mv (.t 21))]) (.ret [2] [])) (.skip)))) (.region [.op (some 11) none (.mv (.t 5)), .op (some 12) none (.bin .add (.t 11) (.k (AV.int .i64 1))), .op (some 5) none (.mv (.t 12))]))
theorem ref01Escape_L1s_eq (R : Nat → List AV → Option Res) (N : Nat) (K : Ex → St → Option Res) (W : St → Option Res) (i2 : Int) (s1 : List UInt8) (l1 : List AV) (i3 : Int) :
    evC gl R N ref01Escape_c0 (Kseq (fun st' => W (prune [0, 3, 4, 5] [] st')) K) ⟨[(0, .imm (AV.int .u8 i2)), (3, .imm (AV.str s1)), (4, .imm (AV.row 1 l1)), (5, .imm (AV.int .i64 i3))], []⟩ =
    ref01Escape_L1s R N (fun (i2 : Int) (s1 : List UInt8) (l1 : List AV) (i3 : Int) => W ⟨[(0, .imm (AV.int .u8 i2)), (3, .imm (AV.str s1)), (4, .imm (AV.row 1 l1)), (5, .imm (AV.int .i64 i3))], []⟩) (fun (i5 : Int) => K .ret ⟨[(2, .imm (AV.int .i32 i5))], []⟩) (K (.exit 0) ⟨[], []⟩) i2 s1 l1 i3 := by
  kernel_rfl
theorem ref01Escape_L1_eq (R : Nat → List AV → Option Res) (N : Nat) (K : Ex → St → Option Res) : ∀ (n : Nat) (i2 : Int) (s1 : List UInt8) (l1 : List AV) (i3 : Int),
    rounds [0, 3, 4, 5] [] (evC gl R N ref01Escape_c0) K n ⟨[(0, .imm (AV.int .u8 i2)), (3, .imm (AV.str s1)), (4, .imm (AV.row 1 l1)), (5, .imm (AV.int .i64 i3))], []⟩ = ref01Escape_L1 R N (fun (i5 : Int) => K .ret ⟨[(2, .imm (AV.int .i32 i5))], []⟩) (K (.exit 0) ⟨[], []⟩) n i2 s1 l1 i3
  | 0, _, _, _, _ => rfl
  | n + 1, i2, s1, l1, i3 => (ref01Escape_L1s_eq R N K (rounds [0, 3, 4, 5] [] (evC gl R N ref01Escape_c0) K n) i2 s1 l1 i3).trans
      (congrArg (fun go => ref01Escape_L1s R N go (fun (i5 : Int) => K .ret ⟨[(2, .imm (AV.int .i32 i5))], []⟩) (K (.exit 0) ⟨[], []⟩) i2 s1 l1 i3) (funext fun i2 => funext fun s1 => funext fun l1 => funext fun i3 => ref01Escape_L1_eq R N K n i2 s1 l1 i3))
def ref01Escape_c1 : AC := .seq (.region [.op (some 2) none (.mv (.k (AV.int .i32 (-1))))]) (.ret [2] [])
def ref01Escape_c2 : AC := .seq (.region [.op (some 2) none (.mv (.k (AV.int .i32 0)))]) (.seq (.region [.op (some 3) none (.mv (.k (AV.str ([48, 97, 98, 116, 110, 118, 102, 114, 101, 34, 47, 92, 32, 78, 95, 76, 80] : List UInt8))))]) (.seq (.region [.op (some 6) none (.bslice [.k (AV.int .i32 0), .k (AV.int .i32 7), .k (AV.int .i32 8), .k (AV.int .i32 9), .k (AV.int .i32 10), .k (AV.int .i32 11), .k (AV.int .i32 12), .k (AV.int .i32 13), .k (AV.int .i32 27), .k (AV.int .i32 34), .k (AV.int .i32 47), .k (AV.int .i32 92), .k (AV.int .i32 32), .k (AV.int .i32 133), .k (AV.int .i32 160), .k (AV.int .i32 8232), .k (AV.int .i32 8233)] 1 false), .op (some 4) none (.mv (.t 6))]) (.seq (.seq (.region [.op (some 5) none (.mv (.k (AV.int .i64 0)))]) (.block 0 (.loop [0, 3, 4, 5] [] (ref01Escape_c0)))) (ref01Escape_c1))))
def ref01Escape : AFunc := ⟨1, 22, [.tmp 2], ref01Escape_c2⟩
def ref01Escaper (R : Nat → List AV → Option Res) (N : Nat) (i1 : Int) : Option Res :=
  ref01Escape_L1 R N
    (fun i7 =>
    some ⟨AV.int .i32 i7, false, []⟩)
    (
    some ⟨AV.int .i32 (-1), false, []⟩)
    N i1 ([48, 97, 98, 116, 110, 118, 102, 114, 101, 34, 47, 92, 32, 78, 95, 76, 80] : List UInt8) [AV.int .i32 0, AV.int .i32 7, AV.int .i32 8, AV.int .i32 9, AV.int .i32 10, AV.int .i32 11, AV.int .i32 12, AV.int .i32 13, AV.int .i32 27, AV.int .i32 34, AV.int .i32 47, AV.int .i32 92, AV.int .i32 32, AV.int .i32 133, AV.int .i32 160, AV.int .i32 8232, AV.int .i32 8233] 0
theorem ref01Escape_eq (R : Nat → List AV → Option Res) (N : Nat) (i1 : Int) : runF gl R N ref01Escape [AV.int .u8 i1] = ref01Escaper R N i1 := by
  refine Eq.trans (b :=
    rounds [0, 3, 4, 5] [] (evC gl R N ref01Escape_c0) (Kblock 0 (Kthen gl R N ref01Escape_c1 (Kret ref01Escape.rets []))) N ⟨[(0, .imm (AV.int .u8 i1)), (3, .imm (AV.str ([48, 97, 98, 116, 110, 118, 102, 114, 101, 34, 47, 92, 32, 78, 95, 76, 80] : List UInt8))), (4, .imm (AV.row 1 [AV.int .i32 0, AV.int .i32 7, AV.int .i32 8, AV.int .i32 9, AV.int .i32 10, AV.int .i32 11, AV.int .i32 12, AV.int .i32 13, AV.int .i32 27, AV.int .i32 34, AV.int .i32 47, AV.int .i32 92, AV.int .i32 32, AV.int .i32 133, AV.int .i32 160, AV.int .i32 8232, AV.int .i32 8233])), (5, .imm (AV.int .i64 0))], []⟩) (by kernel_rfl) ?_
  simp (config := { maxSteps := 100000000 }) only [ref01Escape_L1_eq]
  kernel_rfl
theorem ref01Escape_fit : fitF Tryd.prog ref01Escape Tryd.f30 = true := by
  kernel_rfl

def ref01Printable_c0 : AC := .seq (.region [.op (some 2) none (.mv (.k (AV.bool false)))]) (.seq (.block 0 (.seq (.region [.op (some 4) none (.mv (.t 0)), .op (some 5) none (.bin .eql (.t 4) (.k (AV.int .i32 9))), .op (some 6) none (.mv (.t 5)), .split 6, .op (some 7) (some (6, false)) (.mv (.t 0)), .op (some 8) (some (6, false)) (.bin .eql (.t 7) (.k (AV.int .i32 10))), .op (some 9) none (.pick (.t 6) (.k (AV.bool true)) (.t 8)), .op (some 10) none (.mv (.t 9)), .split 10, .op (some 11) (some (10, false)) (.mv (.t 0)), .op (some 12) (some (10, false)) (.bin .eql (.t 11) (.k (AV.int .i32 13))), .op (some 13) none (.pick (.t 10) (.k (AV.bool true)) (.t 12)), .op (some 14) none (.mv (.t 13)), .split 14, .op (some 15) (some (14, false)) (.mv (.t 0)), .op (some 16) (some (14, false)) (.bin .eql (.t 15) (.k (AV.int .i32 133))), .op (some 17) none (.pick (.t 14) (.k (AV.bool true)) (.t 16)), .op (some 3) none (.mv (.t 17))]) (.cond (.t 3) (.seq (.region [.op (some 2) none (.mv (.k (AV.bool true)))]) (.ret [2] [])) (.seq (.region [.op (some 19) none (.mv (.t 0)), .op (some 20) none (.bin .lss (.t 19) (.k (AV.int .i32 32))), .op (some 21) none (.mv (.t 20)), .split 21, .op (some 22) (some (21, false)) (.mv (.t 0)), .op (some 23) (some (21, false)) (.bin .geq (.t 22) (.k (AV.int .i32 127))), .op (some 24) (some (21, false)) (.mv (.t 23)), .split 24, .op (some 25) (some (24, true)) (.mv (.t 0)), .op (some 26) (some (24, true)) (.bin .leq (.t 25) (.k (AV.int .i32 159))), .op (some 27) (some (21, false)) (.pick (.t 24) (.t 26) (.k (AV.bool false))), .op (some 28) none (.pick (.t 21) (.k (AV.bool true)) (.t 27)), .op (some 29) none (.mv (.t 28)), .split 29, .op (some 30) (some (29, false)) (.mv (.t 0)), .op (some 31) (some (29, false)) (.bin .geq (.t 30) (.k (AV.int .i32 55296))), .op (some 32) (some (29, false)) (.mv (.t 31)), .split 32, .op (some 33) (some (32, true)) (.mv (.t 0)), .op (some 34) (some (32, true)) (.bin .leq (.t 33) (.k (AV.int .i32 57343))), .op (some 35) (some (29, false)) (.pick (.t 32) (.t 34) (.k (AV.bool false))), .op (some 36) none (.pick (.t 29) (.k (AV.bool true)) (.t 35)), .op (some 37) none (.mv (.t 36)), .split 37, .op (some 38) (some (37, false)) (.mv (.t 0)), .op (some 39) (some (37, false)) (.bin .eql (.t 38) (.k (AV.int .i32 65279))), .op (some 40) none (.pick (.t 37) (.k (AV.bool true)) (.t 39)), .op (some 41) none (.mv (.t 40)), .split 41, .op (some 42) (some (41, false)) (.mv (.t 0)), .op (some 43) (some (41, false)) (.bin .eql (.t 42) (.k (AV.int .i32 65534))), .op (some 44) none (.pick (.t 41) (.k (AV.bool true)) (.t 43)), .op (some 45) none (.mv (.t 44)), .split 45, .op (some 46) (some (45, false)) (.mv (.t 0)), .op (some 47) (some (45, false)) (.bin .eql (.t 46) (.k (AV.int .i32 65535))), .op (some 48) none (.pick (.t 45) (.k (AV.bool true)) (.t 47)), .op (some 49) none (.mv (.t 48)), .split 49, .op (some 50) (some (49, false)) (.mv (.t 0)), .op (some 51) (some (49, false)) (.bin .gtr (.t 50) (.k (AV.int .i32 1114111))), .op (some 52) none (.pick (.t 49) (.k (AV.bool true)) (.t 51)), .op (some 18) none (.mv (.t 52))]) (.cond (.t 18) (.seq (.region [.op (some 2) none (.mv (.k (AV.bool false)))]) (.ret [2] [])) (.skip)))))) (.seq (.region [.op (some 2) none (.mv (.k (AV.bool true)))]) (.ret [2] [])))
def ref01Printable : AFunc := ⟨1, 53, [.tmp 2], ref01Printable_c0⟩
def ref01Printabler (R : Nat → List AV → Option Res) (N : Nat) (i1 : Int) : Option Res :=
  bif (i1 : Int) == 9 then
    (some ⟨AV.bool true, false, []⟩)
  else
    bif (i1 : Int) == 10 then
    (some ⟨AV.bool true, false, []⟩)
    else
    bif (i1 : Int) == 13 then
    (some ⟨AV.bool true, false, []⟩)
    else
    bif (i1 : Int) == 133 then
    (some ⟨AV.bool true, false, []⟩)
    else
    bif decide ((i1 : Int) < 32) then
    (some ⟨AV.bool false, false, []⟩)
    else
    bif decide ((i1 : Int) ≥ 127) then
    (bif decide ((i1 : Int) ≤ 159) then
    (some ⟨AV.bool false, false, []⟩)
    else
    bif decide ((i1 : Int) ≥ 55296) then
    (bif decide ((i1 : Int) ≤ 57343) then
    (some ⟨AV.bool false, false, []⟩)
    else
    bif (i1 : Int) == 65279 then
    (some ⟨AV.bool false, false, []⟩)
    else
    bif (i1 : Int) == 65534 then
    (some ⟨AV.bool false, false, []⟩)
    else
    bif (i1 : Int) == 65535 then
    (some ⟨AV.bool false, false, []⟩)
    else
    bif decide ((i1 : Int) > 1114111) then
    (some ⟨AV.bool false, false, []⟩)
    else
    some ⟨AV.bool true, false, []⟩)
    else
    bif (i1 : Int) == 65279 then
    (some ⟨AV.bool false, false, []⟩)
    else
    bif (i1 : Int) == 65534 then
    (some ⟨AV.bool false, false, []⟩)
    else
    bif (i1 : Int) == 65535 then
    (some ⟨AV.bool false, false, []⟩)
    else
    bif decide ((i1 : Int) > 1114111) then
    (some ⟨AV.bool false, false, []⟩)
    else
    some ⟨AV.bool true, false, []⟩)
    else
    bif decide ((i1 : Int) ≥ 55296) then
    (bif decide ((i1 : Int) ≤ 57343) then
    (some ⟨AV.bool false, false, []⟩)
    else
    bif (i1 : Int) == 65279 then
    (some ⟨AV.bool false, false, []⟩)
    else
    bif (i1 : Int) == 65534 then
    (some ⟨AV.bool false, false, []⟩)
    else
    bif (i1 : Int) == 65535 then
    (some ⟨AV.bool false, false, []⟩)
    else
    bif decide ((i1 : Int) > 1114111) then
    (some ⟨AV.bool false, false, []⟩)
    else
    some ⟨AV.bool true, false, []⟩)
    else
    bif (i1 : Int) == 65279 then
    (some ⟨AV.bool false, false, []⟩)
    else
    bif (i1 : Int) == 65534 then
    (some ⟨AV.bool false, false, []⟩)
    else
    bif (i1 : Int) == 65535 then
    (some ⟨AV.bool false, false, []⟩)
    else
    bif decide ((i1 : Int) > 1114111) then
    (some ⟨AV.bool false, false, []⟩)
    else
    some ⟨AV.bool true, false, []⟩
theorem ref01Printable_eq (R : Nat → List AV → Option Res) (N : Nat) (i1 : Int) : runF gl R N ref01Printable [AV.int .i32 i1] = ref01Printabler R N i1 := by
  kernel_rfl
theorem ref01Printable_fit : fitF Tryd.prog ref01Printable Tryd.f31 = true := by
  kernel_rfl

def ref01Hex_L1s (R : Nat → List AV → Option Res) (N : Nat) (go : Int → Int → List UInt8 → Option Res) (k0 : List UInt8 → Option Res) (i3 : Int) (i4 : Int) (s1 : List UInt8) : Option Res :=
  bif decide ((i4 : Int) ≥ 0) then
    (need (!decide ((IntKind.u64.wrap (IntKind.i64.wrap (4 * i4))) < 0)) <|
    need (decide (0 ≤ (IntKind.u32.wrap (BitVec.ofInt IntKind.u32.bits (Int.fdiv i3 (2 ^ (min (Int.toNat (IntKind.u64.wrap (IntKind.i64.wrap (4 * i4)))) IntKind.u32.bits))) &&& BitVec.ofInt IntKind.u32.bits 15).toNat : Int))) <|
    ((([48, 49, 50, 51, 52, 53, 54, 55, 56, 57, 65, 66, 67, 68, 69, 70] : List UInt8) : List UInt8)[Int.toNat (IntKind.u32.wrap (BitVec.ofInt IntKind.u32.bits (Int.fdiv i3 (2 ^ (min (Int.toNat (IntKind.u64.wrap (IntKind.i64.wrap (4 * i4)))) IntKind.u32.bits))) &&& BitVec.ofInt IntKind.u32.bits 15).toNat)]?).bind fun c1 =>
    need (decide (0 ≤ ((c1.toNat : Int) : Int)) && decide (((c1.toNat : Int) : Int) < 256)) <|
    need (decide (((s1.drop 0).take s1.length).length + ([UInt8.ofNat (Int.toNat (c1.toNat : Int))] : List UInt8).length ≤ 1099511627776)) <|
    go i3 (IntKind.i64.wrap (i4 - 1)) (((s1.drop 0).take s1.length) ++ [UInt8.ofNat (Int.toNat (c1.toNat : Int))]))
  else
    k0 s1
def ref01Hex_L1 (R : Nat → List AV → Option Res) (N : Nat) (k0 : List UInt8 → Option Res) : Nat → Int → Int → List UInt8 → Option Res
  | 0, _, _, _ => none
  | n + 1, i3, i4, s1 => ref01Hex_L1s R N (ref01Hex_L1 R N k0 n) k0 i3 i4 s1
def ref01Hex_c0 : AC := .seq (.seq (.region [.op (some 15) none (.mv (.t 6)), .op (some 16) none (.bin .geq (.t 15) (.k (AV.int .i64 0)))]) (.cond (.t 16) (.skip) (.exit 0 [5] [5]))) (.seq (.block 1 (.region [.op (some 19) none (.mv (.t 5)), .op (some 20) none (.mv (.t 0)), .op (some 21) none (.mv (.t 6)), .op (some 22) none (.bin .mul (.k (AV.int .i64 4)) (.t 21)), .op (some 23) none (.cvInt .u64 (.t 22)), .op (some 24) none (.bin .shr (.t 20) (.t 23)), .op (some 25) none (.bin .and (.t 24) (.k (AV.int .u32 15))), .op (some 26) none (.index (.k (AV.str ([48, 49, 50, 51, 52, 53, 54, 55, 56, 57, 65, 66, 67, 68, 69, 70] : List UInt8))) (.t 25)), .op (some 27) none (.bslice [.t 26] 1 true), .op (some 28) none (.app 5 (.t 19) (.t 27) 1 .any true), .op (some 5) none (.mv (.t 28))])) (.region [.op (some 17) none (.mv (.t 6)), .op (some 18) none (.bin .sub (.t 17) (.k (AV.int .i64 1))), .op (some 6) none (.mv (.t 18))]))
theorem ref01Hex_L1s_eq (R : Nat → List AV → Option Res) (N : Nat) (K : Ex → St → Option Res) (W : St → Option Res) (i3 : Int) (i4 : Int) (s1 : List UInt8) :
    evC gl R N ref01Hex_c0 (Kseq (fun st' => W (prune [0, 5, 6] [5] st')) K) ⟨[(0, .imm (AV.int .u32 i3)), (5, .own 5 0 s1.length none), (6, .imm (AV.int .i64 i4))], [(5, .bytes s1 false)]⟩ =
    ref01Hex_L1s R N (fun (i3 : Int) (i4 : Int) (s1 : List UInt8) => W ⟨[(0, .imm (AV.int .u32 i3)), (5, .own 5 0 s1.length none), (6, .imm (AV.int .i64 i4))], [(5, .bytes s1 false)]⟩) (fun (s2 : List UInt8) => K (.exit 0) ⟨[(5, .own 5 0 s2.length none)], [(5, .bytes s2 false)]⟩) i3 i4 s1 := by
  kernel_rfl
theorem ref01Hex_L1_eq (R : Nat → List AV → Option Res) (N : Nat) (K : Ex → St → Option Res) : ∀ (n : Nat) (i3 : Int) (i4 : Int) (s1 : List UInt8),
    rounds [0, 5, 6] [5] (evC gl R N ref01Hex_c0) K n ⟨[(0, .imm (AV.int .u32 i3)), (5, .own 5 0 s1.length none), (6, .imm (AV.int .i64 i4))], [(5, .bytes s1 false)]⟩ = ref01Hex_L1 R N (fun (s2 : List UInt8) => K (.exit 0) ⟨[(5, .own 5 0 s2.length none)], [(5, .bytes s2 false)]⟩) n i3 i4 s1
  | 0, _, _, _ => rfl
  | n + 1, i3, i4, s1 => (ref01Hex_L1s_eq R N K (rounds [0, 5, 6] [5] (evC gl R N ref01Hex_c0) K n) i3 i4 s1).trans
      (congrArg (fun go => ref01Hex_L1s R N go (fun (s2 : List UInt8) => K (.exit 0) ⟨[(5, .own 5 0 s2.length none)], [(5, .bytes s2 false)]⟩) i3 i4 s1) (funext fun i3 => funext fun i4 => funext fun s1 => ref01Hex_L1_eq R N K n i3 i4 s1))
def ref01Hex_c1 : AC := .seq (.region [.op (some 29) none (.mv (.t 5)), .op (some 30) none (.cvStr (.t 29)), .op (some 4) none (.mv (.t 30))]) (.ret [4] [])
def ref01Hex_c2 : AC := .seq (.region [.op (some 4) none (.mv (.k (AV.str ([] : List UInt8))))]) (.seq (.seq (.region [.op (some 7) none (.mv (.t 1)), .op (some 8) none (.bin .lss (.t 7) (.k (AV.int .i64 0))), .op (some 9) none (.mv (.t 8)), .split 9, .op (some 10) (some (9, false)) (.mv (.t 1)), .op (some 11) (some (9, false)) (.bin .gtr (.t 10) (.k (AV.int .i64 8))), .op (some 12) none (.pick (.t 9) (.k (AV.bool true)) (.t 11))]) (.cond (.t 12) (.seq (.region [.op (some 4) none (.mv (.k (AV.str ([] : List UInt8))))]) (.ret [4] [])) (.skip))) (.seq (.region [.op (some 5) none (.nilOwn 5 none)]) (.seq (.seq (.region [.op (some 13) none (.mv (.t 1)), .op (some 14) none (.bin .sub (.t 13) (.k (AV.int .i64 1))), .op (some 6) none (.mv (.t 14))]) (.block 0 (.loop [0, 5, 6] [5] (ref01Hex_c0)))) (ref01Hex_c1))))
def ref01Hex : AFunc := ⟨2, 31, [.tmp 4], ref01Hex_c2⟩
def ref01Hexr (R : Nat → List AV → Option Res) (N : Nat) (i1 : Int) (i2 : Int) : Option Res :=
  bif decide ((i2 : Int) < 0) then
    (some ⟨AV.str ([] : List UInt8), false, []⟩)
  else
    bif decide ((i2 : Int) > 8) then
    (some ⟨AV.str ([] : List UInt8), false, []⟩)
    else
    ref01Hex_L1 R N
      (fun s4 =>
    some ⟨AV.str ((s4.drop 0).take s4.length), false, []⟩)
      N i1 (IntKind.i64.wrap (i2 - 1)) []
theorem ref01Hex_eq (R : Nat → List AV → Option Res) (N : Nat) (i1 : Int) (i2 : Int) : runF gl R N ref01Hex [AV.int .u32 i1, AV.int .i64 i2] = ref01Hexr R N i1 i2 := by
  refine Eq.trans (b :=
    bif decide ((i2 : Int) < 0) then
    (some ⟨AV.str ([] : List UInt8), false, []⟩)
    else
    bif decide ((i2 : Int) > 8) then
    (some ⟨AV.str ([] : List UInt8), false, []⟩)
    else
    rounds [0, 5, 6] [5] (evC gl R N ref01Hex_c0) (Kblock 0 (Kthen gl R N ref01Hex_c1 (Kret ref01Hex.rets []))) N ⟨[(0, .imm (AV.int .u32 i1)), (5, .own 5 0 (([] : List UInt8).length) none), (6, .imm (AV.int .i64 (IntKind.i64.wrap (i2 - 1))))], [(5, .bytes [] false)]⟩) (by kernel_rfl) ?_
  simp (config := { maxSteps := 100000000 }) only [ref01Hex_L1_eq]
  kernel_rfl
theorem ref01Hex_fit : fitF Tryd.prog ref01Hex Tryd.f32 = true := by
  kernel_rfl

def ref01PutDouble_L2s (R : Nat → List AV → Option Res) (N : Nat) (go : List UInt8 → List UInt8 → Int → Int → Int → Int → Int → List UInt8 → Option Res) (k0 : List UInt8 → List UInt8 → Int → Int → Int → Option Res) (s4 : List UInt8) (s5 : List UInt8) (i3 : Int) (i4 : Int) (i5 : Int) (i6 : Int) (i7 : Int) (s6 : List UInt8) : Option Res :=
  bif decide ((i7 : Int) < i6) then
    (need (decide (0 ≤ (i7 : Int)) && decide ((i7 : Int) < ((s6.length : Nat) : Int))) <|
    (s6[0 + Int.toNat i7]?).bind fun c1 =>
    (R id_ref01Escape [AV.int .u8 (c1.toNat : Int)]).bind fun r2 =>
    asI .i32 r2.v fun i8 =>
    bif (i8 : Int) == i3 then
    (go s4 s5 i3 i4 (c1.toNat : Int) i6 (IntKind.i64.wrap (i7 + 1)) s6)
    else
    go s4 s5 i3 i4 i5 i6 (IntKind.i64.wrap (i7 + 1)) s6)
  else
    k0 s4 s5 i3 i4 i5
def ref01PutDouble_L2 (R : Nat → List AV → Option Res) (N : Nat) (k0 : List UInt8 → List UInt8 → Int → Int → Int → Option Res) : Nat → List UInt8 → List UInt8 → Int → Int → Int → Int → Int → List UInt8 → Option Res
  | 0, _, _, _, _, _, _, _, _ => none
  | n + 1, s4, s5, i3, i4, i5, i6, i7, s6 => ref01PutDouble_L2s R N (ref01PutDouble_L2 R N k0 n) k0 s4 s5 i3 i4 i5 i6 i7 s6
def ref01PutDouble_c0 : AC := .seq (.region [.op (some 29) none (.bin .lss (.t 28) (.t 27))]) (.seq (.cond (.t 29) (.skip) (.exit 2 [4, 5, 6, 7, 9] [])) (.seq (.block 3 (.seq (.region [.op (some 30) none (.iaddr (.t 26) (.t 28) 1 (.int .u8)), .op (some 31) none (.load (.t 30) none (.int .u8)), .op (some 11) none (.mv (.t 31))]) (.seq (.region [.op (some 32) none (.mv (.t 11)), .op (some 33) none (.call id_ref01Escape [.t 32] (.int .i32)), .op (some 34) none (.mv (.t 6)), .op (some 35) none (.bin .eql (.t 33) (.t 34))]) (.cond (.t 35) (.region [.op (some 36) none (.mv (.t 11)), .op (some 9) none (.mv (.t 36))]) (.skip))))) (.region [.op (some 37) none (.bin .add (.t 28) (.k (AV.int .i64 1))), .op (some 28) none (.mv (.t 37))])))
theorem ref01PutDouble_L2s_eq (R : Nat → List AV → Option Res) (N : Nat) (K : Ex → St → Option Res) (W : St → Option Res) (s4 : List UInt8) (s5 : List UInt8) (i3 : Int) (i4 : Int) (i5 : Int) (i6 : Int) (i7 : Int) (s6 : List UInt8) :
    evC gl R N ref01PutDouble_c0 (Kseq (fun st' => W (prune [4, 5, 6, 7, 9, 26, 27, 28] [25] st')) K) ⟨[(4, .imm (AV.bytes s4)), (5, .imm (AV.str s5)), (6, .imm (AV.int .i32 i3)), (7, .imm (AV.int .i64 i4)), (9, .imm (AV.int .u8 i5)), (26, .own 25 0 s6.length none), (27, .imm (AV.int .i64 i6)), (28, .imm (AV.int .i64 i7))], [(25, .bytes s6 false)]⟩ =
    ref01PutDouble_L2s R N (fun (s4 : List UInt8) (s5 : List UInt8) (i3 : Int) (i4 : Int) (i5 : Int) (i6 : Int) (i7 : Int) (s6 : List UInt8) => W ⟨[(4, .imm (AV.bytes s4)), (5, .imm (AV.str s5)), (6, .imm (AV.int .i32 i3)), (7, .imm (AV.int .i64 i4)), (9, .imm (AV.int .u8 i5)), (26, .own 25 0 s6.length none), (27, .imm (AV.int .i64 i6)), (28, .imm (AV.int .i64 i7))], [(25, .bytes s6 false)]⟩) (fun (s7 : List UInt8) (s8 : List UInt8) (i9 : Int) (i10 : Int) (i11 : Int) => K (.exit 2) ⟨[(4, .imm (AV.bytes s7)), (5, .imm (AV.str s8)), (6, .imm (AV.int .i32 i9)), (7, .imm (AV.int .i64 i10)), (9, .imm (AV.int .u8 i11))], []⟩) s4 s5 i3 i4 i5 i6 i7 s6 := by
  kernel_rfl
theorem ref01PutDouble_L2_eq (R : Nat → List AV → Option Res) (N : Nat) (K : Ex → St → Option Res) : ∀ (n : Nat) (s4 : List UInt8) (s5 : List UInt8) (i3 : Int) (i4 : Int) (i5 : Int) (i6 : Int) (i7 : Int) (s6 : List UInt8),
    rounds [4, 5, 6, 7, 9, 26, 27, 28] [25] (evC gl R N ref01PutDouble_c0) K n ⟨[(4, .imm (AV.bytes s4)), (5, .imm (AV.str s5)), (6, .imm (AV.int .i32 i3)), (7, .imm (AV.int .i64 i4)), (9, .imm (AV.int .u8 i5)), (26, .own 25 0 s6.length none), (27, .imm (AV.int .i64 i6)), (28, .imm (AV.int .i64 i7))], [(25, .bytes s6 false)]⟩ = ref01PutDouble_L2 R N (fun (s7 : List UInt8) (s8 : List UInt8) (i9 : Int) (i10 : Int) (i11 : Int) => K (.exit 2) ⟨[(4, .imm (AV.bytes s7)), (5, .imm (AV.str s8)), (6, .imm (AV.int .i32 i9)), (7, .imm (AV.int .i64 i10)), (9, .imm (AV.int .u8 i11))], []⟩) n s4 s5 i3 i4 i5 i6 i7 s6
  | 0, _, _, _, _, _, _, _, _ => rfl
  | n + 1, s4, s5, i3, i4, i5, i6, i7, s6 => (ref01PutDouble_L2s_eq R N K (rounds [4, 5, 6, 7, 9, 26, 27, 28] [25] (evC gl R N ref01PutDouble_c0) K n) s4 s5 i3 i4 i5 i6 i7 s6).trans
      (congrArg (fun go => ref01PutDouble_L2s R N go (fun (s7 : List UInt8) (s8 : List UInt8) (i9 : Int) (i10 : Int) (i11 : Int) => K (.exit 2) ⟨[(4, .imm (AV.bytes s7)), (5, .imm (AV.str s8)), (6, .imm (AV.int .i32 i9)), (7, .imm (AV.int .i64 i10)), (9, .imm (AV.int .u8 i11))], []⟩) s4 s5 i3 i4 i5 i6 i7 s6) (funext fun s4 => funext fun s5 => funext fun i3 => funext fun i4 => funext fun i5 => funext fun i6 => funext fun i7 => funext fun s6 => ref01PutDouble_L2_eq R N K n s4 s5 i3 i4 i5 i6 i7 s6))
def ref01PutDouble_L1s (R : Nat → List AV → Option Res) (N : Nat) (go : List UInt8 → List UInt8 → Option Res) (k0 : List UInt8 → Bool → Option Res) (k1 : List UInt8 → Option Res) (s2 : List UInt8) (s3 : List UInt8) : Option Res :=
  bif decide ((((s2.length : Nat) : Int) : Int) > 0) then
    ((R id_ref01Rune [AV.bytes s2]).bind fun r1 =>
    asJIBT r1.v fun i1 i2 b1 =>
    bif !b1 then
    (k0 ([] : List UInt8) false)
    else
    ref01PutDouble_L2 R N
      (fun s11 s12 i15 i16 i17 =>
    bif (i17 : Int) != 0 then
    (need (decide (0 ≤ (i17 : Int)) && decide ((i17 : Int) < 256)) <|
    need (decide ((([92] : List UInt8) : List UInt8).length + ([UInt8.ofNat (Int.toNat i17)] : List UInt8).length ≤ 9223372036854775807)) <|
    need (decide (s12.length + (([92] : List UInt8) ++ [UInt8.ofNat (Int.toNat i17)] : List UInt8).length ≤ 9223372036854775807)) <|
    need (decide (0 ≤ (i16 : Int)) && decide ((i16 : Int) ≤ ((s11.length : Nat) : Int))) <|
    go ((s11.take s11.length).drop (Int.toNat i16)) (s12 ++ (([92] : List UInt8) ++ [UInt8.ofNat (Int.toNat i17)])))
    else
    (R id_ref01Printable [AV.int .i32 i15]).bind fun r3 =>
    asB r3.v fun b2 =>
    bif b2 then
    (need (decide (0 ≤ (i16 : Int)) && decide ((i16 : Int) ≤ ((s11.length : Nat) : Int))) <|
    need (decide (s12.length + ((s11.take (Int.toNat i16)).drop 0).length ≤ 9223372036854775807)) <|
    need (decide (0 ≤ (i16 : Int)) && decide ((i16 : Int) ≤ ((s11.length : Nat) : Int))) <|
    go ((s11.take s11.length).drop (Int.toNat i16)) (s12 ++ ((s11.take (Int.toNat i16)).drop 0)))
    else
    bif decide ((i15 : Int) ≤ 255) then
    ((R id_ref01Hex [AV.int .u32 (IntKind.u32.wrap i15), AV.int .i64 2]).bind fun r4 =>
    asS r4.v fun s13 =>
    need (decide ((([92, 120] : List UInt8) : List UInt8).length + s13.length ≤ 9223372036854775807)) <|
    need (decide (s12.length + (([92, 120] : List UInt8) ++ s13 : List UInt8).length ≤ 9223372036854775807)) <|
    need (decide (0 ≤ (i16 : Int)) && decide ((i16 : Int) ≤ ((s11.length : Nat) : Int))) <|
    go ((s11.take s11.length).drop (Int.toNat i16)) (s12 ++ (([92, 120] : List UInt8) ++ s13)))
    else
    bif decide ((i15 : Int) ≤ 65535) then
    ((R id_ref01Hex [AV.int .u32 (IntKind.u32.wrap i15), AV.int .i64 4]).bind fun r5 =>
    asS r5.v fun s14 =>
    need (decide ((([92, 117] : List UInt8) : List UInt8).length + s14.length ≤ 9223372036854775807)) <|
    need (decide (s12.length + (([92, 117] : List UInt8) ++ s14 : List UInt8).length ≤ 9223372036854775807)) <|
    need (decide (0 ≤ (i16 : Int)) && decide ((i16 : Int) ≤ ((s11.length : Nat) : Int))) <|
    go ((s11.take s11.length).drop (Int.toNat i16)) (s12 ++ (([92, 117] : List UInt8) ++ s14)))
    else
    (R id_ref01Hex [AV.int .u32 (IntKind.u32.wrap i15), AV.int .i64 8]).bind fun r6 =>
    asS r6.v fun s15 =>
    need (decide ((([92, 85] : List UInt8) : List UInt8).length + s15.length ≤ 9223372036854775807)) <|
    need (decide (s12.length + (([92, 85] : List UInt8) ++ s15 : List UInt8).length ≤ 9223372036854775807)) <|
    need (decide (0 ≤ (i16 : Int)) && decide ((i16 : Int) ≤ ((s11.length : Nat) : Int))) <|
    go ((s11.take s11.length).drop (Int.toNat i16)) (s12 ++ (([92, 85] : List UInt8) ++ s15)))
      N s2 s3 i1 i2 0 (15 : Int) 0 [48, 97, 98, 116, 110, 118, 102, 114, 101, 34, 92, 78, 95, 76, 80])
  else
    k1 s3
def ref01PutDouble_L1 (R : Nat → List AV → Option Res) (N : Nat) (k0 : List UInt8 → Bool → Option Res) (k1 : List UInt8 → Option Res) : Nat → List UInt8 → List UInt8 → Option Res
  | 0, _, _ => none
  | n + 1, s2, s3 => ref01PutDouble_L1s R N (ref01PutDouble_L1 R N k0 k1 n) k0 k1 s2 s3
def ref01PutDouble_c1 : AC := .seq (.block 4 (.seq (.region [.op (some 45) none (.mv (.t 9)), .op (some 46) none (.bin .neq (.t 45) (.k (AV.int .u8 0))), .op (some 44) none (.mv (.t 46))]) (.cond (.t 44) (.region [.op (some 47) none (.mv (.t 5)), .op (some 48) none (.mv (.t 9)), .op (some 49) none (.bslice [.t 48] 1 true), .op (some 50) none (.cvStr (.t 49)), .op (some 51) none (.bin .add (.k (AV.str ([92] : List UInt8))) (.t 50)), .op (some 52) none (.bin .add (.t 47) (.t 51)), .op (some 5) none (.mv (.t 52))]) (.seq (.region [.op (some 54) none (.mv (.t 6)), .op (some 55) none (.call id_ref01Printable [.t 54] (.bool)), .op (some 53) none (.mv (.t 55))]) (.cond (.t 53) (.region [.op (some 56) none (.mv (.t 5)), .op (some 57) none (.mv (.t 4)), .op (some 58) none (.mv (.t 7)), .op (some 59) none (.slice (.t 57) none (some (.t 58)) 1), .op (some 60) none (.cvStr (.t 59)), .op (some 61) none (.bin .add (.t 56) (.t 60)), .op (some 5) none (.mv (.t 61))]) (.seq (.region [.op (some 63) none (.mv (.t 6)), .op (some 64) none (.bin .leq (.t 63) (.k (AV.int .i32 255))), .op (some 62) none (.mv (.t 64))]) (.cond (.t 62) (.region [.op (some 65) none (.mv (.t 5)), .op (some 66) none (.mv (.t 6)), .op (some 67) none (.cvInt .u32 (.t 66)), .op (some 68) none (.call id_ref01Hex [.t 67, .k (AV.int .i64 2)] (.str)), .op (some 69) none (.bin .add (.k (AV.str ([92, 120] : List UInt8))) (.t 68)), .op (some 70) none (.bin .add (.t 65) (.t 69)), .op (some 5) none (.mv (.t 70))]) (.seq (.region [.op (some 72) none (.mv (.t 6)), .op (some 73) none (.bin .leq (.t 72) (.k (AV.int .i32 65535))), .op (some 71) none (.mv (.t 73))]) (.cond (.t 71) (.region [.op (some 74) none (.mv (.t 5)), .op (some 75) none (.mv (.t 6)), .op (some 76) none (.cvInt .u32 (.t 75)), .op (some 77) none (.call id_ref01Hex [.t 76, .k (AV.int .i64 4)] (.str)), .op (some 78) none (.bin .add (.k (AV.str ([92, 117] : List UInt8))) (.t 77)), .op (some 79) none (.bin .add (.t 74) (.t 78)), .op (some 5) none (.mv (.t 79))]) (.region [.op (some 38) none (.mv (.t 5)), .op (some 39) none (.mv (.t 6)), .op (some 40) none (.cvInt .u32 (.t 39)), .op (some 41) none (.call id_ref01Hex [.t 40, .k (AV.int .i64 8)] (.str)), .op (some 42) none (.bin .add (.k (AV.str ([92, 85] : List UInt8))) (.t 41)), .op (some 43) none (.bin .add (.t 38) (.t 42)), .op (some 5) none (.mv (.t 43))])))))))))) (.region [.op (some 80) none (.mv (.t 4)), .op (some 81) none (.mv (.t 7)), .op (some 82) none (.slice (.t 80) (some (.t 81)) none 1), .op (some 4) none (.mv (.t 82))])
def ref01PutDouble_c2 : AC := .seq (.seq (.region [.op (some 14) none (.mv (.t 4)), .op (some 15) none (.len (.t 14) false), .op (some 16) none (.bin .gtr (.t 15) (.k (AV.int .i64 0)))]) (.cond (.t 16) (.skip) (.exit 0 [5] []))) (.block 1 (.seq (.region [.op (some 18) none (.mv (.t 4)), .op (some 19) none (.call id_ref01Rune [.t 18] (.tup [.int .i32, .int .i64, .bool])), .op (some 17) none (.mv (.t 19)), .op (some 20) none (.extract (.t 17) 0), .op (some 21) none (.extract (.t 17) 1), .op (some 22) none (.extract (.t 17) 2), .op (some 6) none (.mv (.t 20)), .op (some 7) none (.mv (.t 21)), .op (some 8) none (.mv (.t 22))]) (.seq (.seq (.region [.op (some 23) none (.mv (.t 8)), .op (some 24) none (.un .not (.t 23))]) (.cond (.t 24) (.seq (.region [.op (some 2) none (.mv (.k (AV.str ([] : List UInt8)))), .op (some 3) none (.mv (.k (AV.bool false)))]) (.ret [2, 3] [])) (.skip))) (.seq (.region [.op (some 9) none (.mv (.k (AV.int .u8 0)))]) (.seq (.seq (.region [.op (some 25) none (.bsliceOwn 25 [.k (AV.int .u8 48), .k (AV.int .u8 97), .k (AV.int .u8 98), .k (AV.int .u8 116), .k (AV.int .u8 110), .k (AV.int .u8 118), .k (AV.int .u8 102), .k (AV.int .u8 114), .k (AV.int .u8 101), .k (AV.int .u8 34), .k (AV.int .u8 92), .k (AV.int .u8 78), .k (AV.int .u8 95), .k (AV.int .u8 76), .k (AV.int .u8 80)] 1 .any true), .op (some 26) none (.cvSame (.t 25)), .op (some 27) none (.len (.t 26) false), .op (some 28) none (.mv (.k (AV.int .i64 0)))]) (.block 2 (.loop [4, 5, 6, 7, 9, 26, 27, 28] [25] (ref01PutDouble_c0)))) (ref01PutDouble_c1))))))
theorem ref01PutDouble_L1s_eq (R : Nat → List AV → Option Res) (N : Nat) (K : Ex → St → Option Res) (W : St → Option Res) (s2 : List UInt8) (s3 : List UInt8) :
    evC gl R N ref01PutDouble_c2 (Kseq (fun st' => W (prune [4, 5] [] st')) K) ⟨[(4, .imm (AV.bytes s2)), (5, .imm (AV.str s3))], []⟩ =
    ref01PutDouble_L1s R N (fun (s2 : List UInt8) (s3 : List UInt8) => W ⟨[(4, .imm (AV.bytes s2)), (5, .imm (AV.str s3))], []⟩) (fun (s16 : List UInt8) (b3 : Bool) => K .ret ⟨[(2, .imm (AV.str s16)), (3, .imm (AV.bool b3))], []⟩) (fun (s17 : List UInt8) => K (.exit 0) ⟨[(5, .imm (AV.str s17))], []⟩) s2 s3 := by
  refine Eq.trans (b :=
    bif decide ((((s2.length : Nat) : Int) : Int) > 0) then
    ((R id_ref01Rune [AV.bytes s2]).bind fun r1 =>
    asJIBT r1.v fun i1 i2 b1 =>
    bif !b1 then
    ((fun (s18 : List UInt8) (b4 : Bool) => K .ret ⟨[(2, .imm (AV.str s18)), (3, .imm (AV.bool b4))], []⟩) ([] : List UInt8) false)
    else
    rounds [4, 5, 6, 7, 9, 26, 27, 28] [25] (evC gl R N ref01PutDouble_c0) (Kblock 2 (Kthen gl R N ref01PutDouble_c1 (Kblock 1 (Kseq (fun st' => W (prune [4, 5] [] st')) K)))) N ⟨[(4, .imm (AV.bytes s2)), (5, .imm (AV.str s3)), (6, .imm (AV.int .i32 i1)), (7, .imm (AV.int .i64 i2)), (9, .imm (AV.int .u8 0)), (26, .own 25 0 (([48, 97, 98, 116, 110, 118, 102, 114, 101, 34, 92, 78, 95, 76, 80] : List UInt8).length) none), (27, .imm (AV.int .i64 (15 : Int))), (28, .imm (AV.int .i64 0))], [(25, .bytes [48, 97, 98, 116, 110, 118, 102, 114, 101, 34, 92, 78, 95, 76, 80] false)]⟩)
    else
    (fun (s19 : List UInt8) => K (.exit 0) ⟨[(5, .imm (AV.str s19))], []⟩) s3) (by kernel_rfl) ?_
  simp (config := { maxSteps := 100000000 }) only [ref01PutDouble_L2_eq]
  kernel_rfl
theorem ref01PutDouble_L1_eq (R : Nat → List AV → Option Res) (N : Nat) (K : Ex → St → Option Res) : ∀ (n : Nat) (s2 : List UInt8) (s3 : List UInt8),
    rounds [4, 5] [] (evC gl R N ref01PutDouble_c2) K n ⟨[(4, .imm (AV.bytes s2)), (5, .imm (AV.str s3))], []⟩ = ref01PutDouble_L1 R N (fun (s16 : List UInt8) (b3 : Bool) => K .ret ⟨[(2, .imm (AV.str s16)), (3, .imm (AV.bool b3))], []⟩) (fun (s17 : List UInt8) => K (.exit 0) ⟨[(5, .imm (AV.str s17))], []⟩) n s2 s3
  | 0, _, _ => rfl
  | n + 1, s2, s3 => (ref01PutDouble_L1s_eq R N K (rounds [4, 5] [] (evC gl R N ref01PutDouble_c2) K n) s2 s3).trans
      (congrArg (fun go => ref01PutDouble_L1s R N go (fun (s16 : List UInt8) (b3 : Bool) => K .ret ⟨[(2, .imm (AV.str s16)), (3, .imm (AV.bool b3))], []⟩) (fun (s17 : List UInt8) => K (.exit 0) ⟨[(5, .imm (AV.str s17))], []⟩) s2 s3) (funext fun s2 => funext fun s3 => ref01PutDouble_L1_eq R N K n s2 s3))
def ref01PutDouble_c3 : AC := .seq (.region [.op (some 83) none (.mv (.t 5)), .op (some 84) none (.bin .add (.t 83) (.k (AV.str ([34] : List UInt8)))), .op (some 2) none (.mv (.t 84)), .op (some 3) none (.mv (.k (AV.bool true)))]) (.ret [2, 3] [])
def ref01PutDouble_c4 : AC := .seq (.region [.op (some 2) none (.mv (.k (AV.str ([] : List UInt8)))), .op (some 3) none (.mv (.k (AV.bool false)))]) (.seq (.region [.op (some 12) none (.mv (.t 0)), .op (some 13) none (.cvBytes (.t 12)), .op (some 4) none (.mv (.t 13))]) (.seq (.region [.op (some 5) none (.mv (.k (AV.str ([34] : List UInt8))))]) (.seq (.block 0 (.loop [4, 5] [] (ref01PutDouble_c2))) (ref01PutDouble_c3))))
def ref01PutDouble : AFunc := ⟨1, 85, [.tmp 2, .tmp 3], ref01PutDouble_c4⟩
def ref01PutDoubler (R : Nat → List AV → Option Res) (N : Nat) (s1 : List UInt8) : Option Res :=
  ref01PutDouble_L1 R N
    (fun s20 b5 =>
    some ⟨AV.tup [AV.str s20, AV.bool b5], false, []⟩)
    (fun s21 =>
    need (decide (s21.length + (([34] : List UInt8) : List UInt8).length ≤ 9223372036854775807)) <|
    some ⟨AV.tup [AV.str (s21 ++ ([34] : List UInt8)), AV.bool true], false, []⟩)
    N s1 ([34] : List UInt8)
theorem ref01PutDouble_eq (R : Nat → List AV → Option Res) (N : Nat) (s1 : List UInt8) : runF gl R N ref01PutDouble [AV.str s1] = ref01PutDoubler R N s1 := by
  refine Eq.trans (b :=
    rounds [4, 5] [] (evC gl R N ref01PutDouble_c2) (Kblock 0 (Kthen gl R N ref01PutDouble_c3 (Kret ref01PutDouble.rets []))) N ⟨[(4, .imm (AV.bytes s1)), (5, .imm (AV.str ([34] : List UInt8)))], []⟩) (by kernel_rfl) ?_
  simp (config := { maxSteps := 100000000 }) only [ref01PutDouble_L1_eq]
  kernel_rfl
theorem ref01PutDouble_fit : fitF Tryd.prog ref01PutDouble Tryd.f16 = true := by
  kernel_rfl

def ref01Letter_c0 : AC := .seq (.region [.op (some 2) none (.mv (.k (AV.bool false)))]) (.seq (.region [.op (some 3) none (.mv (.t 0)), .op (some 4) none (.bin .geq (.t 3) (.k (AV.int .u8 65))), .op (some 5) none (.mv (.t 4)), .split 5, .op (some 6) (some (5, true)) (.mv (.t 0)), .op (some 7) (some (5, true)) (.bin .leq (.t 6) (.k (AV.int .u8 90))), .op (some 8) none (.pick (.t 5) (.t 7) (.k (AV.bool false))), .op (some 9) none (.mv (.t 8)), .split 9, .op (some 10) (some (9, false)) (.mv (.t 0)), .op (some 11) (some (9, false)) (.bin .geq (.t 10) (.k (AV.int .u8 97))), .op (some 12) (some (9, false)) (.mv (.t 11)), .split 12, .op (some 13) (some (12, true)) (.mv (.t 0)), .op (some 14) (some (12, true)) (.bin .leq (.t 13) (.k (AV.int .u8 122))), .op (some 15) (some (9, false)) (.pick (.t 12) (.t 14) (.k (AV.bool false))), .op (some 16) none (.pick (.t 9) (.k (AV.bool true)) (.t 15)), .op (some 17) none (.mv (.t 16)), .split 17, .op (some 18) (some (17, false)) (.mv (.t 0)), .op (some 19) (some (17, false)) (.bin .geq (.t 18) (.k (AV.int .u8 48))), .op (some 20) (some (17, false)) (.mv (.t 19)), .split 20, .op (some 21) (some (20, true)) (.mv (.t 0)), .op (some 22) (some (20, true)) (.bin .leq (.t 21) (.k (AV.int .u8 57))), .op (some 23) (some (17, false)) (.pick (.t 20) (.t 22) (.k (AV.bool false))), .op (some 24) none (.pick (.t 17) (.k (AV.bool true)) (.t 23)), .op (some 25) none (.mv (.t 24)), .split 25, .op (some 26) (some (25, false)) (.mv (.t 0)), .op (some 27) (some (25, false)) (.bin .eql (.t 26) (.k (AV.int .u8 45))), .op (some 28) none (.pick (.t 25) (.k (AV.bool true)) (.t 27)), .op (some 29) none (.mv (.t 28)), .split 29, .op (some 30) (some (29, false)) (.mv (.t 0)), .op (some 31) (some (29, false)) (.bin .eql (.t 30) (.k (AV.int .u8 95))), .op (some 32) none (.pick (.t 29) (.k (AV.bool true)) (.t 31)), .op (some 2) none (.mv (.t 32))]) (.ret [2] []))
def ref01Letter : AFunc := ⟨1, 33, [.tmp 2], ref01Letter_c0⟩
def ref01Letterr (R : Nat → List AV → Option Res) (N : Nat) (i1 : Int) : Option Res :=
  bif decide ((i1 : Int) ≥ 65) then
    (bif decide ((i1 : Int) ≤ 90) then
    (some ⟨AV.bool true, false, []⟩)
    else
    bif decide ((i1 : Int) ≥ 97) then
    (bif decide ((i1 : Int) ≤ 122) then
    (some ⟨AV.bool true, false, []⟩)
    else
    bif decide ((i1 : Int) ≥ 48) then
    (bif decide ((i1 : Int) ≤ 57) then
    (some ⟨AV.bool true, false, []⟩)
    else
    bif (i1 : Int) == 45 then
    (some ⟨AV.bool true, false, []⟩)
    else
    some ⟨AV.bool ((i1 : Int) == 95), false, []⟩)
    else
    bif (i1 : Int) == 45 then
    (some ⟨AV.bool true, false, []⟩)
    else
    some ⟨AV.bool ((i1 : Int) == 95), false, []⟩)
    else
    bif decide ((i1 : Int) ≥ 48) then
    (bif decide ((i1 : Int) ≤ 57) then
    (some ⟨AV.bool true, false, []⟩)
    else
    bif (i1 : Int) == 45 then
    (some ⟨AV.bool true, false, []⟩)
    else
    some ⟨AV.bool ((i1 : Int) == 95), false, []⟩)
    else
    bif (i1 : Int) == 45 then
    (some ⟨AV.bool true, false, []⟩)
    else
    some ⟨AV.bool ((i1 : Int) == 95), false, []⟩)
  else
    bif decide ((i1 : Int) ≥ 97) then
    (bif decide ((i1 : Int) ≤ 122) then
    (some ⟨AV.bool true, false, []⟩)
    else
    bif decide ((i1 : Int) ≥ 48) then
    (bif decide ((i1 : Int) ≤ 57) then
    (some ⟨AV.bool true, false, []⟩)
    else
    bif (i1 : Int) == 45 then
    (some ⟨AV.bool true, false, []⟩)
    else
    some ⟨AV.bool ((i1 : Int) == 95), false, []⟩)
    else
    bif (i1 : Int) == 45 then
    (some ⟨AV.bool true, false, []⟩)
    else
    some ⟨AV.bool ((i1 : Int) == 95), false, []⟩)
    else
    bif decide ((i1 : Int) ≥ 48) then
    (bif decide ((i1 : Int) ≤ 57) then
    (some ⟨AV.bool true, false, []⟩)
    else
    bif (i1 : Int) == 45 then
    (some ⟨AV.bool true, false, []⟩)
    else
    some ⟨AV.bool ((i1 : Int) == 95), false, []⟩)
    else
    bif (i1 : Int) == 45 then
    (some ⟨AV.bool true, false, []⟩)
    else
    some ⟨AV.bool ((i1 : Int) == 95), false, []⟩
theorem ref01Letter_eq (R : Nat → List AV → Option Res) (N : Nat) (i1 : Int) : runF gl R N ref01Letter [AV.int .u8 i1] = ref01Letterr R N i1 := by
  kernel_rfl
theorem ref01Letter_fit : fitF Tryd.prog ref01Letter Tryd.f35 = true := by
  kernel_rfl

def ref01Name_L1s (R : Nat → List AV → Option Res) (N : Nat) (go : List UInt8 → Int → Option Res) (k0 : Bool → Option Res) (k1 : List UInt8 → Option Res) (s2 : List UInt8) (i1 : Int) : Option Res :=
  bif decide ((i1 : Int) < ((s2.length : Nat) : Int)) then
    (need (decide (0 ≤ (i1 : Int))) <|
    (s2[Int.toNat i1]?).bind fun c1 =>
    (R id_ref01Letter [AV.int .u8 (c1.toNat : Int)]).bind fun r1 =>
    asB r1.v fun b1 =>
    bif !b1 then
    (k0 false)
    else
    go s2 (IntKind.i64.wrap (i1 + 1)))
  else
    k1 s2
def ref01Name_L1 (R : Nat → List AV → Option Res) (N : Nat) (k0 : Bool → Option Res) (k1 : List UInt8 → Option Res) : Nat → List UInt8 → Int → Option Res
  | 0, _, _ => none
  | n + 1, s2, i1 => ref01Name_L1s R N (ref01Name_L1 R N k0 k1 n) k0 k1 s2 i1
def ref01Name_c0 : AC := .seq (.seq (.region [.op (some 4) none (.mv (.t 3)), .op (some 5) none (.mv (.t 0)), .op (some 6) none (.len (.t 5) true), .op (some 7) none (.bin .lss (.t 4) (.t 6))]) (.cond (.t 7) (.skip) (.exit 0 [0] []))) (.seq (.block 1 (.seq (.region [.op (some 10) none (.mv (.t 0)), .op (some 11) none (.mv (.t 3)), .op (some 12) none (.index (.t 10) (.t 11)), .op (some 13) none (.call id_ref01Letter [.t 12] (.bool)), .op (some 14) none (.un .not (.t 13))]) (.cond (.t 14) (.seq (.region [.op (some 2) none (.mv (.k (AV.bool false)))]) (.ret [2] [])) (.skip)))) (.region [.op (some 8) none (.mv (.t 3)), .op (some 9) none (.bin .add (.t 8) (.k (AV.int .i64 1))), .op (some 3) none (.mv (.t 9))]))
theorem ref01Name_L1s_eq (R : Nat → List AV → Option Res) (N : Nat) (K : Ex → St → Option Res) (W : St → Option Res) (s2 : List UInt8) (i1 : Int) :
    evC gl R N ref01Name_c0 (Kseq (fun st' => W (prune [0, 3] [] st')) K) ⟨[(0, .imm (AV.str s2)), (3, .imm (AV.int .i64 i1))], []⟩ =
    ref01Name_L1s R N (fun (s2 : List UInt8) (i1 : Int) => W ⟨[(0, .imm (AV.str s2)), (3, .imm (AV.int .i64 i1))], []⟩) (fun (b2 : Bool) => K .ret ⟨[(2, .imm (AV.bool b2))], []⟩) (fun (s3 : List UInt8) => K (.exit 0) ⟨[(0, .imm (AV.str s3))], []⟩) s2 i1 := by
  kernel_rfl
theorem ref01Name_L1_eq (R : Nat → List AV → Option Res) (N : Nat) (K : Ex → St → Option Res) : ∀ (n : Nat) (s2 : List UInt8) (i1 : Int),
    rounds [0, 3] [] (evC gl R N ref01Name_c0) K n ⟨[(0, .imm (AV.str s2)), (3, .imm (AV.int .i64 i1))], []⟩ = ref01Name_L1 R N (fun (b2 : Bool) => K .ret ⟨[(2, .imm (AV.bool b2))], []⟩) (fun (s3 : List UInt8) => K (.exit 0) ⟨[(0, .imm (AV.str s3))], []⟩) n s2 i1
  | 0, _, _ => rfl
  | n + 1, s2, i1 => (ref01Name_L1s_eq R N K (rounds [0, 3] [] (evC gl R N ref01Name_c0) K n) s2 i1).trans
      (congrArg (fun go => ref01Name_L1s R N go (fun (b2 : Bool) => K .ret ⟨[(2, .imm (AV.bool b2))], []⟩) (fun (s3 : List UInt8) => K (.exit 0) ⟨[(0, .imm (AV.str s3))], []⟩) s2 i1) (funext fun s2 => funext fun i1 => ref01Name_L1_eq R N K n s2 i1))
def ref01Name_c1 : AC := .seq (.region [.op (some 15) none (.mv (.t 0)), .op (some 16) none (.len (.t 15) true), .op (some 17) none (.bin .geq (.t 16) (.k (AV.int .i64 1))), .op (some 18) none (.mv (.t 17)), .split 18, .op (some 19) (some (18, true)) (.mv (.t 0)), .op (some 20) (some (18, true)) (.len (.t 19) true), .op (some 21) (some (18, true)) (.bin .leq (.t 20) (.k (AV.int .i64 32))), .op (some 22) none (.pick (.t 18) (.t 21) (.k (AV.bool false))), .op (some 2) none (.mv (.t 22))]) (.ret [2] [])
def ref01Name_c2 : AC := .seq (.region [.op (some 2) none (.mv (.k (AV.bool false)))]) (.seq (.seq (.region [.op (some 3) none (.mv (.k (AV.int .i64 0)))]) (.block 0 (.loop [0, 3] [] (ref01Name_c0)))) (ref01Name_c1))
def ref01Name : AFunc := ⟨1, 23, [.tmp 2], ref01Name_c2⟩
def ref01Namer (R : Nat → List AV → Option Res) (N : Nat) (s1 : List UInt8) : Option Res :=
  ref01Name_L1 R N
    (fun b4 =>
    some ⟨AV.bool b4, false, []⟩)
    (fun s5 =>
    bif decide ((((s5.length : Nat) : Int) : Int) ≥ 1) then
    (some ⟨AV.bool (decide ((((s5.length : Nat) : Int) : Int) ≤ 32)), false, []⟩)
    else
    some ⟨AV.bool false, false, []⟩)
    N s1 0
theorem ref01Name_eq (R : Nat → List AV → Option Res) (N : Nat) (s1 : List UInt8) : runF gl R N ref01Name [AV.str s1] = ref01Namer R N s1 := by
  refine Eq.trans (b :=
    rounds [0, 3] [] (evC gl R N ref01Name_c0) (Kblock 0 (Kthen gl R N ref01Name_c1 (Kret ref01Name.rets []))) N ⟨[(0, .imm (AV.str s1)), (3, .imm (AV.int .i64 0))], []⟩) (by kernel_rfl) ?_
  simp (config := { maxSteps := 100000000 }) only [ref01Name_L1_eq]
  kernel_rfl
theorem ref01Name_fit : fitF Tryd.prog ref01Name Tryd.f24 = true := by
  kernel_rfl

def ref01Utf8_c0 : AC := .seq (.region [.op (some 2) none (.mv (.k (AV.bytes [])))]) (.seq (.block 0 (.seq (.region [.op (some 4) none (.mv (.t 0)), .op (some 5) none (.bin .lss (.t 4) (.k (AV.int .i32 128))), .op (some 3) none (.mv (.t 5))]) (.cond (.t 3) (.seq (.region [.op (some 6) none (.mv (.t 0)), .op (some 7) none (.cvInt .u8 (.t 6)), .op (some 8) none (.bslice [.t 7] 1 true), .op (some 2) none (.mv (.t 8))]) (.ret [2] [])) (.seq (.region [.op (some 10) none (.mv (.t 0)), .op (some 11) none (.bin .lss (.t 10) (.k (AV.int .i32 2048))), .op (some 9) none (.mv (.t 11))]) (.cond (.t 9) (.seq (.region [.op (some 12) none (.mv (.t 0)), .op (some 13) none (.bin .shr (.t 12) (.k (AV.int .u64 6))), .op (some 14) none (.cvInt .u8 (.t 13)), .op (some 15) none (.bin .or (.k (AV.int .u8 192)) (.t 14)), .op (some 16) none (.mv (.t 0)), .op (some 17) none (.bin .and (.t 16) (.k (AV.int .i32 63))), .op (some 18) none (.cvInt .u8 (.t 17)), .op (some 19) none (.bin .or (.k (AV.int .u8 128)) (.t 18)), .op (some 20) none (.bslice [.t 15, .t 19] 1 true), .op (some 2) none (.mv (.t 20))]) (.ret [2] [])) (.seq (.region [.op (some 22) none (.mv (.t 0)), .op (some 23) none (.bin .lss (.t 22) (.k (AV.int .i32 65536))), .op (some 21) none (.mv (.t 23))]) (.cond (.t 21) (.seq (.region [.op (some 24) none (.mv (.t 0)), .op (some 25) none (.bin .shr (.t 24) (.k (AV.int .u64 12))), .op (some 26) none (.cvInt .u8 (.t 25)), .op (some 27) none (.bin .or (.k (AV.int .u8 224)) (.t 26)), .op (some 28) none (.mv (.t 0)), .op (some 29) none (.bin .shr (.t 28) (.k (AV.int .u64 6))), .op (some 30) none (.bin .and (.t 29) (.k (AV.int .i32 63))), .op (some 31) none (.cvInt .u8 (.t 30)), .op (some 32) none (.bin .or (.k (AV.int .u8 128)) (.t 31)), .op (some 33) none (.mv (.t 0)), .op (some 34) none (.bin .and (.t 33) (.k (AV.int .i32 63))), .op (some 35) none (.cvInt .u8 (.t 34)), .op (some 36) none (.bin .or (.k (AV.int .u8 128)) (.t 35)), .op (some 37) none (.bslice [.t 27, .t 32, .t 36] 1 true), .op (some 2) none (.mv (.t 37))]) (.ret [2] [])) (.skip)))))))) (.seq (.region [.op (some 38) none (.mv (.t 0)), .op (some 39) none (.bin .shr (.t 38) (.k (AV.int .u64 18))), .op (some 40) none (.cvInt .u8 (.t 39)), .op (some 41) none (.bin .or (.k (AV.int .u8 240)) (.t 40)), .op (some 42) none (.mv (.t 0)), .op (some 43) none (.bin .shr (.t 42) (.k (AV.int .u64 12))), .op (some 44) none (.bin .and (.t 43) (.k (AV.int .i32 63))), .op (some 45) none (.cvInt .u8 (.t 44)), .op (some 46) none (.bin .or (.k (AV.int .u8 128)) (.t 45)), .op (some 47) none (.mv (.t 0)), .op (some 48) none (.bin .shr (.t 47) (.k (AV.int .u64 6))), .op (some 49) none (.bin .and (.t 48) (.k (AV.int .i32 63))), .op (some 50) none (.cvInt .u8 (.t 49)), .op (some 51) none (.bin .or (.k (AV.int .u8 128)) (.t 50)), .op (some 52) none (.mv (.t 0)), .op (some 53) none (.bin .and (.t 52) (.k (AV.int .i32 63))), .op (some 54) none (.cvInt .u8 (.t 53)), .op (some 55) none (.bin .or (.k (AV.int .u8 128)) (.t 54)), .op (some 56) none (.bslice [.t 41, .t 46, .t 51, .t 55] 1 true), .op (some 2) none (.mv (.t 56))]) (.ret [2] [])))
def ref01Utf8 : AFunc := ⟨1, 57, [.tmp 2], ref01Utf8_c0⟩
def ref01Utf8r (R : Nat → List AV → Option Res) (N : Nat) (i1 : Int) : Option Res :=
  bif decide ((i1 : Int) < 128) then
    (need (decide (0 ≤ (IntKind.u8.wrap i1 : Int)) && decide ((IntKind.u8.wrap i1 : Int) < 256)) <|
    some ⟨AV.bytes [UInt8.ofNat (Int.toNat (IntKind.u8.wrap i1))], false, []⟩)
  else
    bif decide ((i1 : Int) < 2048) then
    (need (!decide (6 < 0)) <|
    need (decide (0 ≤ (IntKind.u8.wrap (BitVec.ofInt IntKind.u8.bits 192 ||| BitVec.ofInt IntKind.u8.bits (IntKind.u8.wrap (Int.fdiv i1 (2 ^ (min (Int.toNat 6) IntKind.i32.bits))))).toNat : Int)) && decide ((IntKind.u8.wrap (BitVec.ofInt IntKind.u8.bits 192 ||| BitVec.ofInt IntKind.u8.bits (IntKind.u8.wrap (Int.fdiv i1 (2 ^ (min (Int.toNat 6) IntKind.i32.bits))))).toNat : Int) < 256)) <|
    need (decide (0 ≤ (IntKind.u8.wrap (BitVec.ofInt IntKind.u8.bits 128 ||| BitVec.ofInt IntKind.u8.bits (IntKind.u8.wrap (IntKind.i32.wrap (BitVec.ofInt IntKind.i32.bits i1 &&& BitVec.ofInt IntKind.i32.bits 63).toNat))).toNat : Int)) && decide ((IntKind.u8.wrap (BitVec.ofInt IntKind.u8.bits 128 ||| BitVec.ofInt IntKind.u8.bits (IntKind.u8.wrap (IntKind.i32.wrap (BitVec.ofInt IntKind.i32.bits i1 &&& BitVec.ofInt IntKind.i32.bits 63).toNat))).toNat : Int) < 256)) <|
    some ⟨AV.bytes [UInt8.ofNat (Int.toNat (IntKind.u8.wrap (BitVec.ofInt IntKind.u8.bits 192 ||| BitVec.ofInt IntKind.u8.bits (IntKind.u8.wrap (Int.fdiv i1 (2 ^ (min (Int.toNat 6) IntKind.i32.bits))))).toNat)), UInt8.ofNat (Int.toNat (IntKind.u8.wrap (BitVec.ofInt IntKind.u8.bits 128 ||| BitVec.ofInt IntKind.u8.bits (IntKind.u8.wrap (IntKind.i32.wrap (BitVec.ofInt IntKind.i32.bits i1 &&& BitVec.ofInt IntKind.i32.bits 63).toNat))).toNat))], false, []⟩)
    else
    bif decide ((i1 : Int) < 65536) then
    (need (!decide (12 < 0)) <|
    need (!decide (6 < 0)) <|
    need (decide (0 ≤ (IntKind.u8.wrap (BitVec.ofInt IntKind.u8.bits 224 ||| BitVec.ofInt IntKind.u8.bits (IntKind.u8.wrap (Int.fdiv i1 (2 ^ (min (Int.toNat 12) IntKind.i32.bits))))).toNat : Int)) && decide ((IntKind.u8.wrap (BitVec.ofInt IntKind.u8.bits 224 ||| BitVec.ofInt IntKind.u8.bits (IntKind.u8.wrap (Int.fdiv i1 (2 ^ (min (Int.toNat 12) IntKind.i32.bits))))).toNat : Int) < 256)) <|
    need (decide (0 ≤ (IntKind.u8.wrap (BitVec.ofInt IntKind.u8.bits 128 ||| BitVec.ofInt IntKind.u8.bits (IntKind.u8.wrap (IntKind.i32.wrap (BitVec.ofInt IntKind.i32.bits (Int.fdiv i1 (2 ^ (min (Int.toNat 6) IntKind.i32.bits))) &&& BitVec.ofInt IntKind.i32.bits 63).toNat))).toNat : Int)) && decide ((IntKind.u8.wrap (BitVec.ofInt IntKind.u8.bits 128 ||| BitVec.ofInt IntKind.u8.bits (IntKind.u8.wrap (IntKind.i32.wrap (BitVec.ofInt IntKind.i32.bits (Int.fdiv i1 (2 ^ (min (Int.toNat 6) IntKind.i32.bits))) &&& BitVec.ofInt IntKind.i32.bits 63).toNat))).toNat : Int) < 256)) <|
    need (decide (0 ≤ (IntKind.u8.wrap (BitVec.ofInt IntKind.u8.bits 128 ||| BitVec.ofInt IntKind.u8.bits (IntKind.u8.wrap (IntKind.i32.wrap (BitVec.ofInt IntKind.i32.bits i1 &&& BitVec.ofInt IntKind.i32.bits 63).toNat))).toNat : Int)) && decide ((IntKind.u8.wrap (BitVec.ofInt IntKind.u8.bits 128 ||| BitVec.ofInt IntKind.u8.bits (IntKind.u8.wrap (IntKind.i32.wrap (BitVec.ofInt IntKind.i32.bits i1 &&& BitVec.ofInt IntKind.i32.bits 63).toNat))).toNat : Int) < 256)) <|
    some ⟨AV.bytes [UInt8.ofNat (Int.toNat (IntKind.u8.wrap (BitVec.ofInt IntKind.u8.bits 224 ||| BitVec.ofInt IntKind.u8.bits (IntKind.u8.wrap (Int.fdiv i1 (2 ^ (min (Int.toNat 12) IntKind.i32.bits))))).toNat)), UInt8.ofNat (Int.toNat (IntKind.u8.wrap (BitVec.ofInt IntKind.u8.bits 128 ||| BitVec.ofInt IntKind.u8.bits (IntKind.u8.wrap (IntKind.i32.wrap (BitVec.ofInt IntKind.i32.bits (Int.fdiv i1 (2 ^ (min (Int.toNat 6) IntKind.i32.bits))) &&& BitVec.ofInt IntKind.i32.bits 63).toNat))).toNat)), UInt8.ofNat (Int.toNat (IntKind.u8.wrap (BitVec.ofInt IntKind.u8.bits 128 ||| BitVec.ofInt IntKind.u8.bits (IntKind.u8.wrap (IntKind.i32.wrap (BitVec.ofInt IntKind.i32.bits i1 &&& BitVec.ofInt IntKind.i32.bits 63).toNat))).toNat))], false, []⟩)
    else
    need (!decide (18 < 0)) <|
    need (!decide (12 < 0)) <|
    need (!decide (6 < 0)) <|
    need (decide (0 ≤ (IntKind.u8.wrap (BitVec.ofInt IntKind.u8.bits 240 ||| BitVec.ofInt IntKind.u8.bits (IntKind.u8.wrap (Int.fdiv i1 (2 ^ (min (Int.toNat 18) IntKind.i32.bits))))).toNat : Int)) && decide ((IntKind.u8.wrap (BitVec.ofInt IntKind.u8.bits 240 ||| BitVec.ofInt IntKind.u8.bits (IntKind.u8.wrap (Int.fdiv i1 (2 ^ (min (Int.toNat 18) IntKind.i32.bits))))).toNat : Int) < 256)) <|
    need (decide (0 ≤ (IntKind.u8.wrap (BitVec.ofInt IntKind.u8.bits 128 ||| BitVec.ofInt IntKind.u8.bits (IntKind.u8.wrap (IntKind.i32.wrap (BitVec.ofInt IntKind.i32.bits (Int.fdiv i1 (2 ^ (min (Int.toNat 12) IntKind.i32.bits))) &&& BitVec.ofInt IntKind.i32.bits 63).toNat))).toNat : Int)) && decide ((IntKind.u8.wrap (BitVec.ofInt IntKind.u8.bits 128 ||| BitVec.ofInt IntKind.u8.bits (IntKind.u8.wrap (IntKind.i32.wrap (BitVec.ofInt IntKind.i32.bits (Int.fdiv i1 (2 ^ (min (Int.toNat 12) IntKind.i32.bits))) &&& BitVec.ofInt IntKind.i32.bits 63).toNat))).toNat : Int) < 256)) <|
    need (decide (0 ≤ (IntKind.u8.wrap (BitVec.ofInt IntKind.u8.bits 128 ||| BitVec.ofInt IntKind.u8.bits (IntKind.u8.wrap (IntKind.i32.wrap (BitVec.ofInt IntKind.i32.bits (Int.fdiv i1 (2 ^ (min (Int.toNat 6) IntKind.i32.bits))) &&& BitVec.ofInt IntKind.i32.bits 63).toNat))).toNat : Int)) && decide ((IntKind.u8.wrap (BitVec.ofInt IntKind.u8.bits 128 ||| BitVec.ofInt IntKind.u8.bits (IntKind.u8.wrap (IntKind.i32.wrap (BitVec.ofInt IntKind.i32.bits (Int.fdiv i1 (2 ^ (min (Int.toNat 6) IntKind.i32.bits))) &&& BitVec.ofInt IntKind.i32.bits 63).toNat))).toNat : Int) < 256)) <|
    need (decide (0 ≤ (IntKind.u8.wrap (BitVec.ofInt IntKind.u8.bits 128 ||| BitVec.ofInt IntKind.u8.bits (IntKind.u8.wrap (IntKind.i32.wrap (BitVec.ofInt IntKind.i32.bits i1 &&& BitVec.ofInt IntKind.i32.bits 63).toNat))).toNat : Int)) && decide ((IntKind.u8.wrap (BitVec.ofInt IntKind.u8.bits 128 ||| BitVec.ofInt IntKind.u8.bits (IntKind.u8.wrap (IntKind.i32.wrap (BitVec.ofInt IntKind.i32.bits i1 &&& BitVec.ofInt IntKind.i32.bits 63).toNat))).toNat : Int) < 256)) <|
    some ⟨AV.bytes [UInt8.ofNat (Int.toNat (IntKind.u8.wrap (BitVec.ofInt IntKind.u8.bits 240 ||| BitVec.ofInt IntKind.u8.bits (IntKind.u8.wrap (Int.fdiv i1 (2 ^ (min (Int.toNat 18) IntKind.i32.bits))))).toNat)), UInt8.ofNat (Int.toNat (IntKind.u8.wrap (BitVec.ofInt IntKind.u8.bits 128 ||| BitVec.ofInt IntKind.u8.bits (IntKind.u8.wrap (IntKind.i32.wrap (BitVec.ofInt IntKind.i32.bits (Int.fdiv i1 (2 ^ (min (Int.toNat 12) IntKind.i32.bits))) &&& BitVec.ofInt IntKind.i32.bits 63).toNat))).toNat)), UInt8.ofNat (Int.toNat (IntKind.u8.wrap (BitVec.ofInt IntKind.u8.bits 128 ||| BitVec.ofInt IntKind.u8.bits (IntKind.u8.wrap (IntKind.i32.wrap (BitVec.ofInt IntKind.i32.bits (Int.fdiv i1 (2 ^ (min (Int.toNat 6) IntKind.i32.bits))) &&& BitVec.ofInt IntKind.i32.bits 63).toNat))).toNat)), UInt8.ofNat (Int.toNat (IntKind.u8.wrap (BitVec.ofInt IntKind.u8.bits 128 ||| BitVec.ofInt IntKind.u8.bits (IntKind.u8.wrap (IntKind.i32.wrap (BitVec.ofInt IntKind.i32.bits i1 &&& BitVec.ofInt IntKind.i32.bits 63).toNat))).toNat))], false, []⟩
theorem ref01Utf8_eq (R : Nat → List AV → Option Res) (N : Nat) (i1 : Int) : runF gl R N ref01Utf8 [AV.int .i32 i1] = ref01Utf8r R N i1 := by
  kernel_rfl
theorem ref01Utf8_fit : fitF Tryd.prog ref01Utf8 Tryd.f44 = true := by
  kernel_rfl

def ref01Digit_c0 : AC := .seq (.region [.op (some 2) none (.mv (.k (AV.int .i64 0)))]) (.seq (.block 0 (.seq (.region [.op (some 4) none (.mv (.t 0)), .op (some 5) none (.bin .geq (.t 4) (.k (AV.int .u8 48))), .op (some 6) none (.mv (.t 5)), .split 6, .op (some 7) (some (6, true)) (.mv (.t 0)), .op (some 8) (some (6, true)) (.bin .leq (.t 7) (.k (AV.int .u8 57))), .op (some 9) none (.pick (.t 6) (.t 8) (.k (AV.bool false))), .op (some 3) none (.mv (.t 9))]) (.cond (.t 3) (.seq (.region [.op (some 10) none (.mv (.t 0)), .op (some 11) none (.bin .sub (.t 10) (.k (AV.int .u8 48))), .op (some 12) none (.cvInt .i64 (.t 11)), .op (some 2) none (.mv (.t 12))]) (.ret [2] [])) (.seq (.region [.op (some 14) none (.mv (.t 0)), .op (some 15) none (.bin .geq (.t 14) (.k (AV.int .u8 65))), .op (some 16) none (.mv (.t 15)), .split 16, .op (some 17) (some (16, true)) (.mv (.t 0)), .op (some 18) (some (16, true)) (.bin .leq (.t 17) (.k (AV.int .u8 70))), .op (some 19) none (.pick (.t 16) (.t 18) (.k (AV.bool false))), .op (some 13) none (.mv (.t 19))]) (.cond (.t 13) (.seq (.region [.op (some 20) none (.mv (.t 0)), .op (some 21) none (.bin .sub (.t 20) (.k (AV.int .u8 65))), .op (some 22) none (.cvInt .i64 (.t 21)), .op (some 23) none (.bin .add (.t 22) (.k (AV.int .i64 10))), .op (some 2) none (.mv (.t 23))]) (.ret [2] [])) (.seq (.region [.op (some 25) none (.mv (.t 0)), .op (some 26) none (.bin .geq (.t 25) (.k (AV.int .u8 97))), .op (some 27) none (.mv (.t 26)), .split 27, .op (some 28) (some (27, true)) (.mv (.t 0)), .op (some 29) (some (27, true)) (.bin .leq (.t 28) (.k (AV.int .u8 102))), .op (some 30) none (.pick (.t 27) (.t 29) (.k (AV.bool false))), .op (some 24) none (.mv (.t 30))]) (.cond (.t 24) (.seq (.region [.op (some 31) none (.mv (.t 0)), .op (some 32) none (.bin .sub (.t 31) (.k (AV.int .u8 97))), .op (some 33) none (.cvInt .i64 (.t 32)), .op (some 34) none (.bin .add (.t 33) (.k (AV.int .i64 10))), .op (some 2) none (.mv (.t 34))]) (.ret [2] [])) (.skip)))))))) (.seq (.region [.op (some 2) none (.mv (.k (AV.int .i64 (-1))))]) (.ret [2] [])))
def ref01Digit : AFunc := ⟨1, 35, [.tmp 2], ref01Digit_c0⟩
def ref01Digitr (R : Nat → List AV → Option Res) (N : Nat) (i1 : Int) : Option Res :=
  bif decide ((i1 : Int) ≥ 48) then
    (bif decide ((i1 : Int) ≤ 57) then
    (some ⟨AV.int .i64 (IntKind.i64.wrap (IntKind.u8.wrap (i1 - 48))), false, []⟩)
    else
    bif decide ((i1 : Int) ≥ 65) then
    (bif decide ((i1 : Int) ≤ 70) then
    (some ⟨AV.int .i64 (IntKind.i64.wrap ((IntKind.i64.wrap (IntKind.u8.wrap (i1 - 65))) + 10)), false, []⟩)
    else
    bif decide ((i1 : Int) ≥ 97) then
    (bif decide ((i1 : Int) ≤ 102) then
    (some ⟨AV.int .i64 (IntKind.i64.wrap ((IntKind.i64.wrap (IntKind.u8.wrap (i1 - 97))) + 10)), false, []⟩)
    else
    some ⟨AV.int .i64 (-1), false, []⟩)
    else
    some ⟨AV.int .i64 (-1), false, []⟩)
    else
    bif decide ((i1 : Int) ≥ 97) then
    (bif decide ((i1 : Int) ≤ 102) then
    (some ⟨AV.int .i64 (IntKind.i64.wrap ((IntKind.i64.wrap (IntKind.u8.wrap (i1 - 97))) + 10)), false, []⟩)
    else
    some ⟨AV.int .i64 (-1), false, []⟩)
    else
    some ⟨AV.int .i64 (-1), false, []⟩)
  else
    bif decide ((i1 : Int) ≥ 65) then
    (bif decide ((i1 : Int) ≤ 70) then
    (some ⟨AV.int .i64 (IntKind.i64.wrap ((IntKind.i64.wrap (IntKind.u8.wrap (i1 - 65))) + 10)), false, []⟩)
    else
    bif decide ((i1 : Int) ≥ 97) then
    (bif decide ((i1 : Int) ≤ 102) then
    (some ⟨AV.int .i64 (IntKind.i64.wrap ((IntKind.i64.wrap (IntKind.u8.wrap (i1 - 97))) + 10)), false, []⟩)
    else
    some ⟨AV.int .i64 (-1), false, []⟩)
    else
    some ⟨AV.int .i64 (-1), false, []⟩)
    else
    bif decide ((i1 : Int) ≥ 97) then
    (bif decide ((i1 : Int) ≤ 102) then
    (some ⟨AV.int .i64 (IntKind.i64.wrap ((IntKind.i64.wrap (IntKind.u8.wrap (i1 - 97))) + 10)), false, []⟩)
    else
    some ⟨AV.int .i64 (-1), false, []⟩)
    else
    some ⟨AV.int .i64 (-1), false, []⟩
theorem ref01Digit_eq (R : Nat → List AV → Option Res) (N : Nat) (i1 : Int) : runF gl R N ref01Digit [AV.int .u8 i1] = ref01Digitr R N i1 := by
  kernel_rfl
theorem ref01Digit_fit : fitF Tryd.prog ref01Digit Tryd.f45 = true := by
  kernel_rfl

def law20Wakes_c0 : AC := .seq (.region [.op (some 0) none (.mv (.k (AV.bool false)))]) (.seq (.region [.op (some 4) none (.call id_pathParse [.k (AV.str ([64, 49, 46, 97, 91, 50, 93, 46, 46] : List UInt8))] (.tup [.row 3, .int .i64])), .op (some 3) none (.mv (.t 4)), .op (some 5) none (.extract (.t 3) 0), .op (some 6) none (.extract (.t 3) 1), .op (some 1) none (.mv (.t 5)), .op (some 2) none (.mv (.t 6))]) (.seq (.region [.op (some 7) none (.mv (.t 2)), .op (some 8) none (.bin .eql (.t 7) (.k (AV.int .i64 0))), .op (some 9) none (.mv (.t 8)), .split 9, .op (some 10) (some (9, true)) (.mv (.t 1)), .op (some 11) (some (9, true)) (.len (.t 10) false), .op (some 12) (some (9, true)) (.bin .eql (.t 11) (.k (AV.int .i64 4))), .op (some 13) none (.pick (.t 9) (.t 12) (.k (AV.bool false))), .op (some 14) none (.mv (.t 13)), .split 14, .op (some 15) (some (14, true)) (.mv (.t 1)), .op (some 16) (some (14, true)) (.iaddr (.t 15) (.k (AV.int .i64 0)) 3 (.agg [.int .i64, .str, .int .i64])), .op (some 17) (some (14, true)) (.faddr (.t 16) 2), .op (some 18) (some (14, true)) (.load (.t 17) none (.int .i64)), .op (some 19) (some (14, true)) (.bin .eql (.t 18) (.k (AV.int .i64 1))), .op (some 20) none (.pick (.t 14) (.t 19) (.k (AV.bool false))), .op (some 21) none (.mv (.t 20)), .split 21, .op (some 22) (some (21, true)) (.mv (.t 1)), .op (some 23) (some (21, true)) (.iaddr (.t 22) (.k (AV.int .i64 1)) 3 (.agg [.int .i64, .str, .int .i64])), .op (some 24) (some (21, true)) (.faddr (.t 23) 1), .op (some 25) (some (21, true)) (.load (.t 24) none (.str)), .op (some 26) (some (21, true)) (.bin .eql (.t 25) (.k (AV.str ([97] : List UInt8)))), .op (some 27) none (.pick (.t 21) (.t 26) (.k (AV.bool false))), .op (some 28) none (.mv (.t 27)), .split 28, .op (some 29) (some (28, true)) (.mv (.t 1)), .op (some 30) (some (28, true)) (.iaddr (.t 29) (.k (AV.int .i64 2)) 3 (.agg [.int .i64, .str, .int .i64])), .op (some 31) (some (28, true)) (.faddr (.t 30) 2), .op (some 32) (some (28, true)) (.load (.t 31) none (.int .i64)), .op (some 33) (some (28, true)) (.bin .eql (.t 32) (.k (AV.int .i64 2))), .op (some 34) none (.pick (.t 28) (.t 33) (.k (AV.bool false))), .op (some 35) none (.mv (.t 34)), .split 35, .op (some 36) (some (35, true)) (.mv (.t 1)), .op (some 37) (some (35, true)) (.iaddr (.t 36) (.k (AV.int .i64 3)) 3 (.agg [.int .i64, .str, .int .i64])), .op (some 38) (some (35, true)) (.faddr (.t 37) 0), .op (some 39) (some (35, true)) (.load (.t 38) none (.int .i64)), .op (some 40) (some (35, true)) (.bin .eql (.t 39) (.k (AV.int .i64 5))), .op (some 41) none (.pick (.t 35) (.t 40) (.k (AV.bool false))), .op (some 0) none (.mv (.t 41))]) (.ret [0] [])))
def law20Wakes : AFunc := ⟨0, 42, [.tmp 0], law20Wakes_c0⟩
def law20Wakesr (R : Nat → List AV → Option Res) (N : Nat) : Option Res :=
  (R id_pathParse [AV.str ([64, 49, 46, 97, 91, 50, 93, 46, 46] : List UInt8)]).bind fun r1 =>
  asRIT r1.v fun l1 i1 =>
  bif (i1 : Int) == 0 then
    (bif (((l1.length : Nat) : Int) : Int) == 4 then
    (need (decide (0 ≤ (0 : Int))) <|
    (l1[Int.toNat 0]?).bind fun e1 =>
    asISIA e1 fun i2 s1 i3 =>
    bif (i3 : Int) == 1 then
    (need (decide (0 ≤ (1 : Int))) <|
    (l1[Int.toNat 1]?).bind fun e2 =>
    asISIA e2 fun i4 s2 i5 =>
    bif s2 == ([97] : List UInt8) then
    (need (decide (0 ≤ (2 : Int))) <|
    (l1[Int.toNat 2]?).bind fun e3 =>
    asISIA e3 fun i6 s3 i7 =>
    bif (i7 : Int) == 2 then
    (need (decide (0 ≤ (3 : Int))) <|
    (l1[Int.toNat 3]?).bind fun e4 =>
    asISIA e4 fun i8 s4 i9 =>
    some ⟨AV.bool ((i8 : Int) == 5), false, []⟩)
    else
    some ⟨AV.bool false, false, []⟩)
    else
    some ⟨AV.bool false, false, []⟩)
    else
    some ⟨AV.bool false, false, []⟩)
    else
    some ⟨AV.bool false, false, []⟩)
  else
    some ⟨AV.bool false, false, []⟩
theorem law20Wakes_eq (R : Nat → List AV → Option Res) (N : Nat) : runF gl R N law20Wakes [] = law20Wakesr R N := by
  kernel_rfl
theorem law20Wakes_fit : fitF Tryd.prog law20Wakes Tryd.f12 = true := by
  kernel_rfl

def keepSamePathStep_L1s (R : Nat → List AV → Option Res) (N : Nat) (go : List AV → List AV → Int → Option Res) (k0 : Bool → Option Res) (k1 : Option Res) (l3 : List AV) (l4 : List AV) (i1 : Int) : Option Res :=
  bif decide ((i1 : Int) < ((l3.length : Nat) : Int)) then
    (need (decide (0 ≤ (i1 : Int))) <|
    (l3[Int.toNat i1]?).bind fun e1 =>
    asISIA e1 fun i2 s1 i3 =>
    need (decide (0 ≤ (i1 : Int))) <|
    (l4[Int.toNat i1]?).bind fun e2 =>
    asISIA e2 fun i4 s2 i5 =>
    bif !(((i2 : Int) == i4) && ((s1 == s2) && (((i3 : Int) == i5) && (true)))) then
    (k0 false)
    else
    go l3 l4 (IntKind.i64.wrap (i1 + 1)))
  else
    k1
def keepSamePathStep_L1 (R : Nat → List AV → Option Res) (N : Nat) (k0 : Bool → Option Res) (k1 : Option Res) : Nat → List AV → List AV → Int → Option Res
  | 0, _, _, _ => none
  | n + 1, l3, l4, i1 => keepSamePathStep_L1s R N (keepSamePathStep_L1 R N k0 k1 n) k0 k1 l3 l4 i1
def keepSamePathStep_c0 : AC := .seq (.seq (.region [.op (some 11) none (.mv (.t 5)), .op (some 12) none (.mv (.t 0)), .op (some 13) none (.len (.t 12) false), .op (some 14) none (.bin .lss (.t 11) (.t 13))]) (.cond (.t 14) (.skip) (.exit 0 [] []))) (.seq (.block 1 (.seq (.regionD [0, 1, 5, 25] [] [.op (some 17) none (.mv (.t 0)), .op (some 18) none (.mv (.t 5)), .op (some 19) none (.iaddr (.t 17) (.t 18) 3 (.agg [.int .i64, .str, .int .i64])), .op (some 20) none (.load (.t 19) (some 3) (.agg [.int .i64, .str, .int .i64])), .op (some 21) none (.mv (.t 1)), .op (some 22) none (.mv (.t 5)), .op (some 23) none (.iaddr (.t 21) (.t 22) 3 (.agg [.int .i64, .str, .int .i64])), .op (some 24) none (.load (.t 23) (some 3) (.agg [.int .i64, .str, .int .i64])), .op (some 25) none (.binA true (.t 20) (.t 24) [0, 2, 0])] []) (.cond (.t 25) (.seq (.region [.op (some 4) none (.mv (.k (AV.bool false)))]) (.ret [4] [])) (.skip)))) (.region [.op (some 15) none (.mv (.t 5)), .op (some 16) none (.bin .add (.t 15) (.k (AV.int .i64 1))), .op (some 5) none (.mv (.t 16))]))
theorem keepSamePathStep_L1s_eq (R : Nat → List AV → Option Res) (N : Nat) (K : Ex → St → Option Res) (W : St → Option Res) (l3 : List AV) (l4 : List AV) (i1 : Int) :
    evC gl R N keepSamePathStep_c0 (Kseq (fun st' => W (prune [0, 1, 5] [] st')) K) ⟨[(0, .imm (AV.row 3 l3)), (1, .imm (AV.row 3 l4)), (5, .imm (AV.int .i64 i1))], []⟩ =
    keepSamePathStep_L1s R N (fun (l3 : List AV) (l4 : List AV) (i1 : Int) => W ⟨[(0, .imm (AV.row 3 l3)), (1, .imm (AV.row 3 l4)), (5, .imm (AV.int .i64 i1))], []⟩) (fun (b1 : Bool) => K .ret ⟨[(4, .imm (AV.bool b1))], []⟩) (K (.exit 0) ⟨[], []⟩) l3 l4 i1 := by
  kernel_rfl
theorem keepSamePathStep_L1_eq (R : Nat → List AV → Option Res) (N : Nat) (K : Ex → St → Option Res) : ∀ (n : Nat) (l3 : List AV) (l4 : List AV) (i1 : Int),
    rounds [0, 1, 5] [] (evC gl R N keepSamePathStep_c0) K n ⟨[(0, .imm (AV.row 3 l3)), (1, .imm (AV.row 3 l4)), (5, .imm (AV.int .i64 i1))], []⟩ = keepSamePathStep_L1 R N (fun (b1 : Bool) => K .ret ⟨[(4, .imm (AV.bool b1))], []⟩) (K (.exit 0) ⟨[], []⟩) n l3 l4 i1
  | 0, _, _, _ => rfl
  | n + 1, l3, l4, i1 => (keepSamePathStep_L1s_eq R N K (rounds [0, 1, 5] [] (evC gl R N keepSamePathStep_c0) K n) l3 l4 i1).trans
      (congrArg (fun go => keepSamePathStep_L1s R N go (fun (b1 : Bool) => K .ret ⟨[(4, .imm (AV.bool b1))], []⟩) (K (.exit 0) ⟨[], []⟩) l3 l4 i1) (funext fun l3 => funext fun l4 => funext fun i1 => keepSamePathStep_L1_eq R N K n l3 l4 i1))
def keepSamePathStep_c1 : AC := .seq (.region [.op (some 4) none (.mv (.k (AV.bool true)))]) (.ret [4] [])
def keepSamePathStep_c2 : AC := .seq (.region [.op (some 4) none (.mv (.k (AV.bool false)))]) (.seq (.seq (.region [.op (some 6) none (.mv (.t 0)), .op (some 7) none (.len (.t 6) false), .op (some 8) none (.mv (.t 1)), .op (some 9) none (.len (.t 8) false), .op (some 10) none (.bin .neq (.t 7) (.t 9))]) (.cond (.t 10) (.seq (.region [.op (some 4) none (.mv (.k (AV.bool false)))]) (.ret [4] [])) (.skip))) (.seq (.seq (.region [.op (some 5) none (.mv (.k (AV.int .i64 0)))]) (.block 0 (.loop [0, 1, 5] [] (keepSamePathStep_c0)))) (keepSamePathStep_c1)))
def keepSamePathStep : AFunc := ⟨2, 26, [.tmp 4], keepSamePathStep_c2⟩
def keepSamePathStepr (R : Nat → List AV → Option Res) (N : Nat) (l1 : List AV) (l2 : List AV) : Option Res :=
  bif (((l1.length : Nat) : Int) : Int) != ((l2.length : Nat) : Int) then
    (some ⟨AV.bool false, false, []⟩)
  else
    keepSamePathStep_L1 R N
      (fun b3 =>
    some ⟨AV.bool b3, false, []⟩)
      (
    some ⟨AV.bool true, false, []⟩)
      N l1 l2 0
theorem keepSamePathStep_eq (R : Nat → List AV → Option Res) (N : Nat) (l1 : List AV) (l2 : List AV) : runF gl R N keepSamePathStep [AV.row 3 l1, AV.row 3 l2] = keepSamePathStepr R N l1 l2 := by
  refine Eq.trans (b :=
    bif (((l1.length : Nat) : Int) : Int) != ((l2.length : Nat) : Int) then
    (some ⟨AV.bool false, false, []⟩)
    else
    rounds [0, 1, 5] [] (evC gl R N keepSamePathStep_c0) (Kblock 0 (Kthen gl R N keepSamePathStep_c1 (Kret keepSamePathStep.rets []))) N ⟨[(0, .imm (AV.row 3 l1)), (1, .imm (AV.row 3 l2)), (5, .imm (AV.int .i64 0))], []⟩) (by kernel_rfl) ?_
  simp (config := { maxSteps := 100000000 }) only [keepSamePathStep_L1_eq]
  kernel_rfl
theorem keepSamePathStep_fit : fitF Tryd.prog keepSamePathStep Tryd.f14 = true := by
  kernel_rfl

def law20Text_L1s (R : Nat → List AV → Option Res) (N : Nat) (go : List AV → List AV → List UInt8 → Int → Option Res) (k0 : List UInt8 → Option Res) (l2 : List AV) (l3 : List AV) (s3 : List UInt8) (i1 : Int) : Option Res :=
  bif decide ((i1 : Int) < ((l2.length : Nat) : Int)) then
    (bif decide ((i1 : Int) < 40) then
    (need (decide (0 ≤ (i1 : Int))) <|
    (l2[Int.toNat i1]?).bind fun e1 =>
    asI .i64 e1 fun i2 =>
    (R id_keepWithin [AV.int .i64 i2, AV.int .i64 60]).bind fun r2 =>
    asI .i64 r2.v fun i3 =>
    bif decide ((i3 : Int) ≥ ((l3.length : Nat) : Int)) then
    (need (!decide (10 = 0)) <|
    need (decide (0 ≤ (Int.tmod i3 10 : Int))) <|
    (l3[Int.toNat (Int.tmod i3 10)]?).bind fun e2 =>
    asS e2 fun s4 =>
    need (decide (s3.length + s4.length ≤ 9223372036854775807)) <|
    go l2 l3 (s3 ++ s4) (IntKind.i64.wrap (i1 + 1)))
    else
    need (decide (0 ≤ (i3 : Int))) <|
    (l3[Int.toNat i3]?).bind fun e3 =>
    asS e3 fun s5 =>
    need (decide (s3.length + s5.length ≤ 9223372036854775807)) <|
    go l2 l3 (s3 ++ s5) (IntKind.i64.wrap (i1 + 1)))
    else
    k0 s3)
  else
    k0 s3
def law20Text_L1 (R : Nat → List AV → Option Res) (N : Nat) (k0 : List UInt8 → Option Res) : Nat → List AV → List AV → List UInt8 → Int → Option Res
  | 0, _, _, _, _ => none
  | n + 1, l2, l3, s3, i1 => law20Text_L1s R N (law20Text_L1 R N k0 n) k0 l2 l3 s3 i1
def law20Text_c0 : AC := .seq (.seq (.region [.op (some 15) none (.mv (.t 9)), .op (some 16) none (.mv (.t 1)), .op (some 17) none (.len (.t 16) false), .op (some 18) none (.bin .lss (.t 15) (.t 17)), .op (some 19) none (.mv (.t 18)), .split 19, .op (some 20) (some (19, true)) (.mv (.t 9)), .op (some 21) (some (19, true)) (.bin .lss (.t 20) (.k (AV.int .i64 40))), .op (some 22) none (.pick (.t 19) (.t 21) (.k (AV.bool false)))]) (.cond (.t 22) (.skip) (.exit 0 [8] []))) (.seq (.block 1 (.seq (.region [.op (some 25) none (.mv (.t 1)), .op (some 26) none (.mv (.t 9)), .op (some 27) none (.iaddr (.t 25) (.t 26) 1 (.int .i64)), .op (some 28) none (.load (.t 27) none (.int .i64)), .op (some 29) none (.call id_keepWithin [.t 28, .k (AV.int .i64 60)] (.int .i64)), .op (some 10) none (.mv (.t 29))]) (.seq (.seq (.region [.op (some 30) none (.mv (.t 10)), .op (some 31) none (.mv (.t 7)), .op (some 32) none (.len (.t 31) false), .op (some 33) none (.bin .geq (.t 30) (.t 32))]) (.cond (.t 33) (.region [.op (some 34) none (.mv (.t 10)), .op (some 35) none (.bin .rem (.t 34) (.k (AV.int .i64 10))), .op (some 10) none (.mv (.t 35))]) (.skip))) (.region [.op (some 36) none (.mv (.t 8)), .op (some 37) none (.mv (.t 7)), .op (some 38) none (.mv (.t 10)), .op (some 39) none (.iaddr (.t 37) (.t 38) 1 (.str)), .op (some 40) none (.load (.t 39) none (.str)), .op (some 41) none (.bin .add (.t 36) (.t 40)), .op (some 8) none (.mv (.t 41))])))) (.region [.op (some 23) none (.mv (.t 9)), .op (some 24) none (.bin .add (.t 23) (.k (AV.int .i64 1))), .op (some 9) none (.mv (.t 24))]))
theorem law20Text_L1s_eq (R : Nat → List AV → Option Res) (N : Nat) (K : Ex → St → Option Res) (W : St → Option Res) (l2 : List AV) (l3 : List AV) (s3 : List UInt8) (i1 : Int) :
    evC gl R N law20Text_c0 (Kseq (fun st' => W (prune [1, 7, 8, 9] [] st')) K) ⟨[(1, .imm (AV.row 1 l2)), (7, .imm (AV.row 1 l3)), (8, .imm (AV.str s3)), (9, .imm (AV.int .i64 i1))], []⟩ =
    law20Text_L1s R N (fun (l2 : List AV) (l3 : List AV) (s3 : List UInt8) (i1 : Int) => W ⟨[(1, .imm (AV.row 1 l2)), (7, .imm (AV.row 1 l3)), (8, .imm (AV.str s3)), (9, .imm (AV.int .i64 i1))], []⟩) (fun (s6 : List UInt8) => K (.exit 0) ⟨[(8, .imm (AV.str s6))], []⟩) l2 l3 s3 i1 := by
  kernel_rfl
theorem law20Text_L1_eq (R : Nat → List AV → Option Res) (N : Nat) (K : Ex → St → Option Res) : ∀ (n : Nat) (l2 : List AV) (l3 : List AV) (s3 : List UInt8) (i1 : Int),
    rounds [1, 7, 8, 9] [] (evC gl R N law20Text_c0) K n ⟨[(1, .imm (AV.row 1 l2)), (7, .imm (AV.row 1 l3)), (8, .imm (AV.str s3)), (9, .imm (AV.int .i64 i1))], []⟩ = law20Text_L1 R N (fun (s6 : List UInt8) => K (.exit 0) ⟨[(8, .imm (AV.str s6))], []⟩) n l2 l3 s3 i1
  | 0, _, _, _, _ => rfl
  | n + 1, l2, l3, s3, i1 => (law20Text_L1s_eq R N K (rounds [1, 7, 8, 9] [] (evC gl R N law20Text_c0) K n) l2 l3 s3 i1).trans
      (congrArg (fun go => law20Text_L1s R N go (fun (s6 : List UInt8) => K (.exit 0) ⟨[(8, .imm (AV.str s6))], []⟩) l2 l3 s3 i1) (funext fun l2 => funext fun l3 => funext fun s3 => funext fun i1 => law20Text_L1_eq R N K n l2 l3 s3 i1))
def law20Text_c1 : AC := .seq (.region [.op (some 42) none (.mv (.t 8)), .op (some 6) none (.mv (.t 42))]) (.ret [6] [])
def law20Text_c2 : AC := .seq (.region [.op (some 6) none (.mv (.k (AV.str ([] : List UInt8))))]) (.seq (.seq (.region [.op (some 11) none (.mv (.t 2))]) (.cond (.t 11) (.seq (.region [.op (some 12) none (.mv (.t 0)), .op (some 13) none (.call id_keepText [.t 12, .k (AV.int .i64 60)] (.str)), .op (some 6) none (.mv (.t 13))]) (.ret [6] [])) (.skip))) (.seq (.region [.op (some 14) none (.bslice [.k (AV.str ([46, 97] : List UInt8)), .k (AV.str ([46, 98] : List UInt8)), .k (AV.str ([91, 48, 93] : List UInt8)), .k (AV.str ([91, 49, 93] : List UInt8)), .k (AV.str ([46, 42] : List UInt8)), .k (AV.str ([46, 46] : List UInt8)), .k (AV.str ([46, 34, 120, 32, 121, 34] : List UInt8)), .k (AV.str ([46, 34, 97, 92, 110, 34] : List UInt8)), .k (AV.str ([46, 99, 45, 100, 95, 49] : List UInt8)), .k (AV.str ([91, 49, 50, 93] : List UInt8)), .k (AV.str ([64] : List UInt8)), .k (AV.str ([64, 42] : List UInt8)), .k (AV.str ([64, 48] : List UInt8)), .k (AV.str ([64, 49] : List UInt8)), .k (AV.str ([46] : List UInt8)), .k (AV.str ([91] : List UInt8)), .k (AV.str ([93] : List UInt8)), .k (AV.str ([91, 48, 49, 93] : List UInt8)), .k (AV.str ([91, 45, 49, 93] : List UInt8)), .k (AV.str ([42] : List UInt8)), .k (AV.str ([97] : List UInt8)), .k (AV.str ([34] : List UInt8)), .k (AV.str ([91, 57, 57, 57, 57, 57, 57, 57, 93] : List UInt8))] 1 false), .op (some 7) none (.mv (.t 14))]) (.seq (.region [.op (some 8) none (.mv (.k (AV.str ([] : List UInt8))))]) (.seq (.seq (.region [.op (some 9) none (.mv (.k (AV.int .i64 0)))]) (.block 0 (.loop [1, 7, 8, 9] [] (law20Text_c0)))) (law20Text_c1)))))
def law20Text : AFunc := ⟨3, 43, [.tmp 6], law20Text_c2⟩
def law20Textr (R : Nat → List AV → Option Res) (N : Nat) (s1 : List UInt8) (l1 : List AV) (b1 : Bool) : Option Res :=
  bif b1 then
    ((R id_keepText [AV.str s1, AV.int .i64 60]).bind fun r1 =>
    asS r1.v fun s2 =>
    some ⟨AV.str s2, false, []⟩)
  else
    law20Text_L1 R N
      (fun s8 =>
    some ⟨AV.str s8, false, []⟩)
      N l1 [AV.str ([46, 97] : List UInt8), AV.str ([46, 98] : List UInt8), AV.str ([91, 48, 93] : List UInt8), AV.str ([91, 49, 93] : List UInt8), AV.str ([46, 42] : List UInt8), AV.str ([46, 46] : List UInt8), AV.str ([46, 34, 120, 32, 121, 34] : List UInt8), AV.str ([46, 34, 97, 92, 110, 34] : List UInt8), AV.str ([46, 99, 45, 100, 95, 49] : List UInt8), AV.str ([91, 49, 50, 93] : List UInt8), AV.str ([64] : List UInt8), AV.str ([64, 42] : List UInt8), AV.str ([64, 48] : List UInt8), AV.str ([64, 49] : List UInt8), AV.str ([46] : List UInt8), AV.str ([91] : List UInt8), AV.str ([93] : List UInt8), AV.str ([91, 48, 49, 93] : List UInt8), AV.str ([91, 45, 49, 93] : List UInt8), AV.str ([42] : List UInt8), AV.str ([97] : List UInt8), AV.str ([34] : List UInt8), AV.str ([91, 57, 57, 57, 57, 57, 57, 57, 93] : List UInt8)] ([] : List UInt8) 0
theorem law20Text_eq (R : Nat → List AV → Option Res) (N : Nat) (s1 : List UInt8) (l1 : List AV) (b1 : Bool) : runF gl R N law20Text [AV.str s1, AV.row 1 l1, AV.bool b1] = law20Textr R N s1 l1 b1 := by
  refine Eq.trans (b :=
    bif b1 then
    ((R id_keepText [AV.str s1, AV.int .i64 60]).bind fun r1 =>
    asS r1.v fun s2 =>
    some ⟨AV.str s2, false, []⟩)
    else
    rounds [1, 7, 8, 9] [] (evC gl R N law20Text_c0) (Kblock 0 (Kthen gl R N law20Text_c1 (Kret law20Text.rets []))) N ⟨[(1, .imm (AV.row 1 l1)), (7, .imm (AV.row 1 [AV.str ([46, 97] : List UInt8), AV.str ([46, 98] : List UInt8), AV.str ([91, 48, 93] : List UInt8), AV.str ([91, 49, 93] : List UInt8), AV.str ([46, 42] : List UInt8), AV.str ([46, 46] : List UInt8), AV.str ([46, 34, 120, 32, 121, 34] : List UInt8), AV.str ([46, 34, 97, 92, 110, 34] : List UInt8), AV.str ([46, 99, 45, 100, 95, 49] : List UInt8), AV.str ([91, 49, 50, 93] : List UInt8), AV.str ([64] : List UInt8), AV.str ([64, 42] : List UInt8), AV.str ([64, 48] : List UInt8), AV.str ([64, 49] : List UInt8), AV.str ([46] : List UInt8), AV.str ([91] : List UInt8), AV.str ([93] : List UInt8), AV.str ([91, 48, 49, 93] : List UInt8), AV.str ([91, 45, 49, 93] : List UInt8), AV.str ([42] : List UInt8), AV.str ([97] : List UInt8), AV.str ([34] : List UInt8), AV.str ([91, 57, 57, 57, 57, 57, 57, 57, 93] : List UInt8)])), (8, .imm (AV.str ([] : List UInt8))), (9, .imm (AV.int .i64 0))], []⟩) (by kernel_rfl) ?_
  simp (config := { maxSteps := 100000000 }) only [law20Text_L1_eq]
  kernel_rfl
theorem law20Text_fit : fitF Tryd.prog law20Text Tryd.f15 = true := by
  kernel_rfl

def law20PathBack_L1s (R : Nat → List AV → Option Res) (N : Nat) (go : List AV → List UInt8 → Int → Int → Int → Option Res) (k0 : Bool → Option Res) (k1 : List AV → List UInt8 → Int → Option Res) (l6 : List AV) (s5 : List UInt8) (i5 : Int) (i6 : Int) (i7 : Int) : Option Res :=
  bif decide ((i7 : Int) < i6) then
    (need (decide (0 ≤ (i7 : Int))) <|
    (l6[Int.toNat i7]?).bind fun e1 =>
    asISIA e1 fun i8 s6 i9 =>
    (R id_ref01PutDouble [AV.str s6]).bind fun r10 =>
    asSBT r10.v fun s7 b5 =>
    bif !b5 then
    (bif (i5 : Int) == 6 then
    (bif s5 == ([] : List UInt8) then
    ((R id_law20Wakes []).bind fun r11 =>
    asB r11.v fun b6 =>
    k0 b6)
    else
    k0 false)
    else
    k0 false)
    else
    go l6 s5 i5 i6 (IntKind.i64.wrap (i7 + 1)))
  else
    k1 l6 s5 i5
def law20PathBack_L1 (R : Nat → List AV → Option Res) (N : Nat) (k0 : Bool → Option Res) (k1 : List AV → List UInt8 → Int → Option Res) : Nat → List AV → List UInt8 → Int → Int → Int → Option Res
  | 0, _, _, _, _, _ => none
  | n + 1, l6, s5, i5, i6, i7 => law20PathBack_L1s R N (law20PathBack_L1 R N k0 k1 n) k0 k1 l6 s5 i5 i6 i7
def law20PathBack_c0 : AC := .seq (.region [.op (some 82) none (.bin .lss (.t 81) (.t 80))]) (.seq (.cond (.t 82) (.skip) (.exit 0 [14, 15, 16] [])) (.seq (.block 1 (.seq (.region [.op (some 83) none (.mv (.t 81)), .op (some 17) none (.mv (.t 83))]) (.seq (.region [.op (some 85) none (.mv (.t 14)), .op (some 86) none (.mv (.t 17)), .op (some 87) none (.iaddr (.t 85) (.t 86) 3 (.agg [.int .i64, .str, .int .i64])), .op (some 88) none (.faddr (.t 87) 1), .op (some 89) none (.load (.t 88) none (.str)), .op (some 90) none (.call id_ref01PutDouble [.t 89] (.tup [.str, .bool])), .op (some 84) none (.mv (.t 90)), .op (some 91) none (.extract (.t 84) 0), .op (some 92) none (.extract (.t 84) 1), .op (some 18) none (.mv (.t 91)), .op (some 19) none (.mv (.t 92))]) (.seq (.region [.op (some 93) none (.mv (.t 19)), .op (some 94) none (.un .not (.t 93))]) (.cond (.t 94) (.seq (.region [.op (some 95) none (.mv (.t 16)), .op (some 96) none (.bin .eql (.t 95) (.k (AV.int .i64 6))), .op (some 97) none (.mv (.t 96)), .split 97, .op (some 98) (some (97, true)) (.mv (.t 15)), .op (some 99) (some (97, true)) (.bin .eql (.t 98) (.k (AV.str ([] : List UInt8)))), .op (some 100) none (.pick (.t 97) (.t 99) (.k (AV.bool false))), .op (some 101) none (.mv (.t 100)), .split 101, .op (some 102) (some (101, true)) (.call id_law20Wakes [] (.bool)), .op (some 103) none (.pick (.t 101) (.t 102) (.k (AV.bool false))), .op (some 8) none (.mv (.t 103))]) (.ret [8] [])) (.skip)))))) (.region [.op (some 104) none (.bin .add (.t 81) (.k (AV.int .i64 1))), .op (some 81) none (.mv (.t 104))])))
theorem law20PathBack_L1s_eq (R : Nat → List AV → Option Res) (N : Nat) (K : Ex → St → Option Res) (W : St → Option Res) (l6 : List AV) (s5 : List UInt8) (i5 : Int) (i6 : Int) (i7 : Int) :
    evC gl R N law20PathBack_c0 (Kseq (fun st' => W (prune [14, 15, 16, 80, 81] [] st')) K) ⟨[(14, .imm (AV.row 3 l6)), (15, .imm (AV.str s5)), (16, .imm (AV.int .i64 i5)), (80, .imm (AV.int .i64 i6)), (81, .imm (AV.int .i64 i7))], []⟩ =
    law20PathBack_L1s R N (fun (l6 : List AV) (s5 : List UInt8) (i5 : Int) (i6 : Int) (i7 : Int) => W ⟨[(14, .imm (AV.row 3 l6)), (15, .imm (AV.str s5)), (16, .imm (AV.int .i64 i5)), (80, .imm (AV.int .i64 i6)), (81, .imm (AV.int .i64 i7))], []⟩) (fun (b7 : Bool) => K .ret ⟨[(8, .imm (AV.bool b7))], []⟩) (fun (l7 : List AV) (s8 : List UInt8) (i10 : Int) => K (.exit 0) ⟨[(14, .imm (AV.row 3 l7)), (15, .imm (AV.str s8)), (16, .imm (AV.int .i64 i10))], []⟩) l6 s5 i5 i6 i7 := by
  kernel_rfl
theorem law20PathBack_L1_eq (R : Nat → List AV → Option Res) (N : Nat) (K : Ex → St → Option Res) : ∀ (n : Nat) (l6 : List AV) (s5 : List UInt8) (i5 : Int) (i6 : Int) (i7 : Int),
    rounds [14, 15, 16, 80, 81] [] (evC gl R N law20PathBack_c0) K n ⟨[(14, .imm (AV.row 3 l6)), (15, .imm (AV.str s5)), (16, .imm (AV.int .i64 i5)), (80, .imm (AV.int .i64 i6)), (81, .imm (AV.int .i64 i7))], []⟩ = law20PathBack_L1 R N (fun (b7 : Bool) => K .ret ⟨[(8, .imm (AV.bool b7))], []⟩) (fun (l7 : List AV) (s8 : List UInt8) (i10 : Int) => K (.exit 0) ⟨[(14, .imm (AV.row 3 l7)), (15, .imm (AV.str s8)), (16, .imm (AV.int .i64 i10))], []⟩) n l6 s5 i5 i6 i7
  | 0, _, _, _, _, _ => rfl
  | n + 1, l6, s5, i5, i6, i7 => (law20PathBack_L1s_eq R N K (rounds [14, 15, 16, 80, 81] [] (evC gl R N law20PathBack_c0) K n) l6 s5 i5 i6 i7).trans
      (congrArg (fun go => law20PathBack_L1s R N go (fun (b7 : Bool) => K .ret ⟨[(8, .imm (AV.bool b7))], []⟩) (fun (l7 : List AV) (s8 : List UInt8) (i10 : Int) => K (.exit 0) ⟨[(14, .imm (AV.row 3 l7)), (15, .imm (AV.str s8)), (16, .imm (AV.int .i64 i10))], []⟩) l6 s5 i5 i6 i7) (funext fun l6 => funext fun s5 => funext fun i5 => funext fun i6 => funext fun i7 => law20PathBack_L1_eq R N K n l6 s5 i5 i6 i7))
def law20PathBack_c1 : AC := .seq (.region [.op (some 106) none (.mv (.t 15)), .op (some 107) none (.call id_pathParse [.t 106] (.tup [.row 3, .int .i64])), .op (some 105) none (.mv (.t 107)), .op (some 108) none (.extract (.t 105) 0), .op (some 109) none (.extract (.t 105) 1), .op (some 20) none (.mv (.t 108)), .op (some 21) none (.mv (.t 109))]) (.seq (.region [.op (some 110) none (.mv (.t 16)), .op (some 111) none (.bin .eql (.t 110) (.k (AV.int .i64 0))), .op (some 112) none (.mv (.t 111)), .split 112, .op (some 113) (some (112, true)) (.mv (.t 21)), .op (some 114) (some (112, true)) (.bin .eql (.t 113) (.k (AV.int .i64 0))), .op (some 115) none (.pick (.t 112) (.t 114) (.k (AV.bool false))), .op (some 116) none (.mv (.t 115)), .split 116, .op (some 117) (some (116, true)) (.mv (.t 14)), .op (some 118) (some (116, true)) (.mv (.t 20)), .op (some 119) (some (116, true)) (.call id_keepSamePathStep [.t 117, .t 118] (.bool)), .op (some 120) none (.pick (.t 116) (.t 119) (.k (AV.bool false))), .op (some 121) none (.mv (.t 120)), .split 121, .op (some 122) (some (121, true)) (.call id_law20Wakes [] (.bool)), .op (some 123) none (.pick (.t 121) (.t 122) (.k (AV.bool false))), .op (some 8) none (.mv (.t 123))]) (.ret [8] []))
def law20PathBack_c2 : AC := .seq (.region [.op (some 8) none (.mv (.k (AV.bool false)))]) (.seq (.region [.op (some 22) none (.mv (.t 0)), .op (some 23) none (.call id_law20Steps [.t 22, .k (AV.bool false)] (.row 3)), .op (some 9) none (.mv (.t 23))]) (.seq (.region [.op (some 25) none (.mv (.t 9)), .op (some 26) none (.call id_pathPrint [.t 25] (.tup [.str, .int .i64])), .op (some 24) none (.mv (.t 26)), .op (some 27) none (.extract (.t 24) 0), .op (some 28) none (.extract (.t 24) 1), .op (some 10) none (.mv (.t 27)), .op (some 11) none (.mv (.t 28))]) (.seq (.seq (.region [.op (some 29) none (.mv (.t 11)), .op (some 30) none (.bin .eql (.t 29) (.k (AV.int .i64 0)))]) (.cond (.t 30) (.seq (.region [.op (some 32) none (.mv (.t 10)), .op (some 33) none (.call id_pathParse [.t 32] (.tup [.row 3, .int .i64])), .op (some 31) none (.mv (.t 33)), .op (some 34) none (.extract (.t 31) 0), .op (some 35) none (.extract (.t 31) 1), .op (some 12) none (.mv (.t 34)), .op (some 13) none (.mv (.t 35))]) (.seq (.region [.op (some 36) none (.mv (.t 13)), .op (some 37) none (.bin .neq (.t 36) (.k (AV.int .i64 0))), .op (some 38) none (.mv (.t 37)), .split 38, .op (some 39) (some (38, false)) (.mv (.t 9)), .op (some 40) (some (38, false)) (.mv (.t 12)), .op (some 41) (some (38, false)) (.call id_keepSamePathStep [.t 39, .t 40] (.bool)), .op (some 42) (some (38, false)) (.un .not (.t 41)), .op (some 43) none (.pick (.t 38) (.k (AV.bool true)) (.t 42))]) (.cond (.t 43) (.seq (.region [.op (some 8) none (.mv (.k (AV.bool false)))]) (.ret [8] [])) (.skip)))) (.seq (.region [.op (some 44) none (.mv (.t 11)), .op (some 45) none (.bin .neq (.t 44) (.k (AV.int .i64 6))), .op (some 46) none (.mv (.t 45)), .split 46, .op (some 47) (some (46, false)) (.mv (.t 10)), .op (some 48) (some (46, false)) (.bin .neq (.t 47) (.k (AV.str ([] : List UInt8)))), .op (some 49) none (.pick (.t 46) (.k (AV.bool true)) (.t 48))]) (.cond (.t 49) (.seq (.region [.op (some 8) none (.mv (.k (AV.bool false)))]) (.ret [8] [])) (.skip))))) (.seq (.region [.op (some 51) none (.mv (.t 1)), .op (some 52) none (.mv (.t 2)), .op (some 53) none (.mv (.t 3)), .op (some 54) none (.call id_law20Text [.t 51, .t 52, .t 53] (.str)), .op (some 55) none (.call id_pathParse [.t 54] (.tup [.row 3, .int .i64])), .op (some 50) none (.mv (.t 55)), .op (some 56) none (.extract (.t 50) 0), .op (some 57) none (.extract (.t 50) 1), .op (some 14) none (.mv (.t 56)), .op (some 11) none (.mv (.t 57))]) (.seq (.seq (.region [.op (some 58) none (.mv (.t 11)), .op (some 59) none (.bin .neq (.t 58) (.k (AV.int .i64 0)))]) (.cond (.t 59) (.seq (.region [.op (some 60) none (.mv (.t 11)), .op (some 61) none (.bin .eql (.t 60) (.k (AV.int .i64 6))), .op (some 62) none (.mv (.t 61)), .split 62, .op (some 63) (some (62, false)) (.mv (.t 11)), .op (some 64) (some (62, false)) (.bin .eql (.t 63) (.k (AV.int .i64 10))), .op (some 65) none (.pick (.t 62) (.k (AV.bool true)) (.t 64)), .op (some 66) none (.mv (.t 65)), .split 66, .op (some 67) (some (66, true)) (.mv (.t 14)), .op (some 68) (some (66, true)) (.len (.t 67) false), .op (some 69) (some (66, true)) (.bin .eql (.t 68) (.k (AV.int .i64 0))), .op (some 70) none (.pick (.t 66) (.t 69) (.k (AV.bool false))), .op (some 71) none (.mv (.t 70)), .split 71, .op (some 72) (some (71, true)) (.call id_law20Wakes [] (.bool)), .op (some 73) none (.pick (.t 71) (.t 72) (.k (AV.bool false))), .op (some 8) none (.mv (.t 73))]) (.ret [8] [])) (.skip))) (.seq (.region [.op (some 75) none (.mv (.t 14)), .op (some 76) none (.call id_pathPrint [.t 75] (.tup [.str, .int .i64])), .op (some 74) none (.mv (.t 76)), .op (some 77) none (.extract (.t 74) 0), .op (some 78) none (.extract (.t 74) 1), .op (some 15) none (.mv (.t 77)), .op (some 16) none (.mv (.t 78))]) (.seq (.seq (.region [.op (some 79) none (.mv (.t 14)), .op (some 80) none (.len (.t 79) false), .op (some 81) none (.mv (.k (AV.int .i64 0)))]) (.block 0 (.loop [14, 15, 16, 80, 81] [] (law20PathBack_c0)))) (law20PathBack_c1))))))))
def law20PathBack : AFunc := ⟨4, 124, [.tmp 8], law20PathBack_c2⟩
def law20PathBackr (R : Nat → List AV → Option Res) (N : Nat) (l1 : List AV) (s1 : List UInt8) (l2 : List AV) (b1 : Bool) : Option Res :=
  (R id_law20Steps [AV.row 3 l1, AV.bool false]).bind fun r1 =>
  asR 3 r1.v fun l3 =>
  (R id_pathPrint [AV.row 3 l3]).bind fun r2 =>
  asSIT r2.v fun s2 i1 =>
  bif (i1 : Int) == 0 then
    ((R id_pathParse [AV.str s2]).bind fun r3 =>
    asRIT r3.v fun l4 i2 =>
    bif (i2 : Int) != 0 then
    (some ⟨AV.bool false, false, []⟩)
    else
    (R id_keepSamePathStep [AV.row 3 l3, AV.row 3 l4]).bind fun r4 =>
    asB r4.v fun b2 =>
    bif !b2 then
    (some ⟨AV.bool false, false, []⟩)
    else
    (R id_law20Text [AV.str s1, AV.row 1 l2, AV.bool b1]).bind fun r5 =>
    asS r5.v fun s3 =>
    (R id_pathParse [AV.str s3]).bind fun r6 =>
    asRIT r6.v fun l5 i3 =>
    bif (i3 : Int) != 0 then
    (bif (i3 : Int) == 6 then
    (bif (((l5.length : Nat) : Int) : Int) == 0 then
    ((R id_law20Wakes []).bind fun r7 =>
    asB r7.v fun b3 =>
    some ⟨AV.bool b3, false, []⟩)
    else
    some ⟨AV.bool false, false, []⟩)
    else
    bif (i3 : Int) == 10 then
    (bif (((l5.length : Nat) : Int) : Int) == 0 then
    ((R id_law20Wakes []).bind fun r8 =>
    asB r8.v fun b4 =>
    some ⟨AV.bool b4, false, []⟩)
    else
    some ⟨AV.bool false, false, []⟩)
    else
    some ⟨AV.bool false, false, []⟩)
    else
    (R id_pathPrint [AV.row 3 l5]).bind fun r9 =>
    asSIT r9.v fun s4 i4 =>
    law20PathBack_L1 R N
      (fun b9 =>
    some ⟨AV.bool b9, false, []⟩)
      (fun l9 s10 i12 =>
    (R id_pathParse [AV.str s10]).bind fun r12 =>
    asRIT r12.v fun l10 i13 =>
    bif (i12 : Int) == 0 then
    (bif (i13 : Int) == 0 then
    ((R id_keepSamePathStep [AV.row 3 l9, AV.row 3 l10]).bind fun r13 =>
    asB r13.v fun b10 =>
    bif b10 then
    ((R id_law20Wakes []).bind fun r14 =>
    asB r14.v fun b11 =>
    some ⟨AV.bool b11, false, []⟩)
    else
    some ⟨AV.bool false, false, []⟩)
    else
    some ⟨AV.bool false, false, []⟩)
    else
    some ⟨AV.bool false, false, []⟩)
      N l5 s4 i4 ((l5.length : Nat) : Int) 0)
  else
    bif (i1 : Int) != 6 then
    (some ⟨AV.bool false, false, []⟩)
    else
    bif !(s2 == ([] : List UInt8)) then
    (some ⟨AV.bool false, false, []⟩)
    else
    (R id_law20Text [AV.str s1, AV.row 1 l2, AV.bool b1]).bind fun r15 =>
    asS r15.v fun s11 =>
    (R id_pathParse [AV.str s11]).bind fun r16 =>
    asRIT r16.v fun l11 i14 =>
    bif (i14 : Int) != 0 then
    (bif (i14 : Int) == 6 then
    (bif (((l11.length : Nat) : Int) : Int) == 0 then
    ((R id_law20Wakes []).bind fun r17 =>
    asB r17.v fun b12 =>
    some ⟨AV.bool b12, false, []⟩)
    else
    some ⟨AV.bool false, false, []⟩)
    else
    bif (i14 : Int) == 10 then
    (bif (((l11.length : Nat) : Int) : Int) == 0 then
    ((R id_law20Wakes []).bind fun r18 =>
    asB r18.v fun b13 =>
    some ⟨AV.bool b13, false, []⟩)
    else
    some ⟨AV.bool false, false, []⟩)
    else
    some ⟨AV.bool false, false, []⟩)
    else
    (R id_pathPrint [AV.row 3 l11]).bind fun r19 =>
    asSIT r19.v fun s12 i15 =>
    law20PathBack_L1 R N
      (fun b14 =>
    some ⟨AV.bool b14, false, []⟩)
      (fun l12 s13 i16 =>
    (R id_pathParse [AV.str s13]).bind fun r20 =>
    asRIT r20.v fun l13 i17 =>
    bif (i16 : Int) == 0 then
    (bif (i17 : Int) == 0 then
    ((R id_keepSamePathStep [AV.row 3 l12, AV.row 3 l13]).bind fun r21 =>
    asB r21.v fun b15 =>
    bif b15 then
    ((R id_law20Wakes []).bind fun r22 =>
    asB r22.v fun b16 =>
    some ⟨AV.bool b16, false, []⟩)
    else
    some ⟨AV.bool false, false, []⟩)
    else
    some ⟨AV.bool false, false, []⟩)
    else
    some ⟨AV.bool false, false, []⟩)
      N l11 s12 i15 ((l11.length : Nat) : Int) 0
theorem law20PathBack_eq (R : Nat → List AV → Option Res) (N : Nat) (l1 : List AV) (s1 : List UInt8) (l2 : List AV) (b1 : Bool) : runF gl R N law20PathBack [AV.row 3 l1, AV.str s1, AV.row 1 l2, AV.bool b1] = law20PathBackr R N l1 s1 l2 b1 := by
  refine Eq.trans (b :=
    (R id_law20Steps [AV.row 3 l1, AV.bool false]).bind fun r1 =>
    asR 3 r1.v fun l3 =>
    (R id_pathPrint [AV.row 3 l3]).bind fun r2 =>
    asSIT r2.v fun s2 i1 =>
    bif (i1 : Int) == 0 then
    ((R id_pathParse [AV.str s2]).bind fun r3 =>
    asRIT r3.v fun l4 i2 =>
    bif (i2 : Int) != 0 then
    (some ⟨AV.bool false, false, []⟩)
    else
    (R id_keepSamePathStep [AV.row 3 l3, AV.row 3 l4]).bind fun r4 =>
    asB r4.v fun b2 =>
    bif !b2 then
    (some ⟨AV.bool false, false, []⟩)
    else
    (R id_law20Text [AV.str s1, AV.row 1 l2, AV.bool b1]).bind fun r5 =>
    asS r5.v fun s3 =>
    (R id_pathParse [AV.str s3]).bind fun r6 =>
    asRIT r6.v fun l5 i3 =>
    bif (i3 : Int) != 0 then
    (bif (i3 : Int) == 6 then
    (bif (((l5.length : Nat) : Int) : Int) == 0 then
    ((R id_law20Wakes []).bind fun r7 =>
    asB r7.v fun b3 =>
    some ⟨AV.bool b3, false, []⟩)
    else
    some ⟨AV.bool false, false, []⟩)
    else
    bif (i3 : Int) == 10 then
    (bif (((l5.length : Nat) : Int) : Int) == 0 then
    ((R id_law20Wakes []).bind fun r8 =>
    asB r8.v fun b4 =>
    some ⟨AV.bool b4, false, []⟩)
    else
    some ⟨AV.bool false, false, []⟩)
    else
    some ⟨AV.bool false, false, []⟩)
    else
    (R id_pathPrint [AV.row 3 l5]).bind fun r9 =>
    asSIT r9.v fun s4 i4 =>
    rounds [14, 15, 16, 80, 81] [] (evC gl R N law20PathBack_c0) (Kblock 0 (Kthen gl R N law20PathBack_c1 (Kret law20PathBack.rets []))) N ⟨[(14, .imm (AV.row 3 l5)), (15, .imm (AV.str s4)), (16, .imm (AV.int .i64 i4)), (80, .imm (AV.int .i64 ((l5.length : Nat) : Int))), (81, .imm (AV.int .i64 0))], []⟩)
    else
    bif (i1 : Int) != 6 then
    (some ⟨AV.bool false, false, []⟩)
    else
    bif !(s2 == ([] : List UInt8)) then
    (some ⟨AV.bool false, false, []⟩)
    else
    (R id_law20Text [AV.str s1, AV.row 1 l2, AV.bool b1]).bind fun r15 =>
    asS r15.v fun s11 =>
    (R id_pathParse [AV.str s11]).bind fun r16 =>
    asRIT r16.v fun l11 i14 =>
    bif (i14 : Int) != 0 then
    (bif (i14 : Int) == 6 then
    (bif (((l11.length : Nat) : Int) : Int) == 0 then
    ((R id_law20Wakes []).bind fun r17 =>
    asB r17.v fun b12 =>
    some ⟨AV.bool b12, false, []⟩)
    else
    some ⟨AV.bool false, false, []⟩)
    else
    bif (i14 : Int) == 10 then
    (bif (((l11.length : Nat) : Int) : Int) == 0 then
    ((R id_law20Wakes []).bind fun r18 =>
    asB r18.v fun b13 =>
    some ⟨AV.bool b13, false, []⟩)
    else
    some ⟨AV.bool false, false, []⟩)
    else
    some ⟨AV.bool false, false, []⟩)
    else
    (R id_pathPrint [AV.row 3 l11]).bind fun r19 =>
    asSIT r19.v fun s12 i15 =>
    rounds [14, 15, 16, 80, 81] [] (evC gl R N law20PathBack_c0) (Kblock 0 (Kthen gl R N law20PathBack_c1 (Kret law20PathBack.rets []))) N ⟨[(14, .imm (AV.row 3 l11)), (15, .imm (AV.str s12)), (16, .imm (AV.int .i64 i15)), (80, .imm (AV.int .i64 ((l11.length : Nat) : Int))), (81, .imm (AV.int .i64 0))], []⟩) (by kernel_rfl) ?_
  simp (config := { maxSteps := 100000000 }) only [law20PathBack_L1_eq]
  kernel_rfl
theorem law20PathBack_fit : fitF Tryd.prog law20PathBack Tryd.f4 = true := by
  kernel_rfl

def pathParse1_c0 : AC := .seq (.region [.op (some 1) none (.box 1001 (.t 0) 3), .op (some 2) none (.mv (.k (AV.bool false)))]) (.seq (.region [.op (some 3) none (.faddr (.t 1) 1), .op (some 4) none (.load (.t 3) none (.str)), .op (some 5) none (.len (.t 4) true), .op (some 6) none (.bin .gtr (.t 5) (.k (AV.int .i64 128))), .op (some 2) none (.mv (.t 6))]) (.ret [2] []))
def pathParse1 : AFunc := ⟨1, 7, [.tmp 2], pathParse1_c0⟩
def pathParse1r (R : Nat → List AV → Option Res) (N : Nat) (i1 : Int) (s1 : List UInt8) (i2 : Int) : Option Res :=
  some ⟨AV.bool (decide ((((s1.length : Nat) : Int) : Int) > 128)), false, []⟩
theorem pathParse1_eq (R : Nat → List AV → Option Res) (N : Nat) (i1 : Int) (s1 : List UInt8) (i2 : Int) : runF gl R N pathParse1 [AV.agg [AV.int .i64 i1, AV.str s1, AV.int .i64 i2]] = pathParse1r R N i1 s1 i2 := by
  kernel_rfl
theorem pathParse1_fit : fitF Tryd.prog pathParse1 Tryd.f28 = true := by
  kernel_rfl

def table : List (Nat × AFunc) := [(id_keepWithin, keepWithin), (id_keepText, keepText), (id_law20Steps, law20Steps), (id_internalStringsliteHasPrefix, internalStringsliteHasPrefix), (id_internalStringsliteCutPrefix, internalStringsliteCutPrefix), (id_stringsCutPrefix, stringsCutPrefix), (id_charsDigit, charsDigit), (id_pathNumber, pathNumber), (id_pathFirst, pathFirst), (id_doubleRunes, doubleRunes), (id_internalStringsliteIndexByte, internalStringsliteIndexByte), (id_stringsIndexByte, stringsIndexByte), (id_doubleDigits, doubleDigits), (id_doubleNumber, doubleNumber), (id_doubleEscape, doubleEscape), (id_unicodeUtf8AppendRuneNonASCII, unicodeUtf8AppendRuneNonASCII), (id_unicodeUtf8AppendRune, unicodeUtf8AppendRune), (id_doubleTake, doubleTake), (id_charsLetter, charsLetter), (id_charsName, charsName), (id_pathName, pathName), (id_pathStep, pathStep), (id_slicesIndexFuncScholiumPathStepScholiumPathStep, slicesIndexFuncScholiumPathStepScholiumPathStep), (id_slicesContainsFuncScholiumPathStepScholiumPathStep, slicesContainsFuncScholiumPathStepScholiumPathStep), (id_pathParse, pathParse), (id_unicodeUtf8WordString, unicodeUtf8WordString), (id_charsPrintable, charsPrintable), (id_doubleHex, doubleHex), (id_doubleOne, doubleOne), (id_pathText, pathText), (id_slicesEqualScholiumPathStepScholiumPathStep, slicesEqualScholiumPathStepScholiumPathStep), (id_pathPrint, pathPrint), (id_ref01Rune, ref01Rune), (id_ref01Escape, ref01Escape), (id_ref01Printable, ref01Printable), (id_ref01Hex, ref01Hex), (id_ref01PutDouble, ref01PutDouble), (id_ref01Letter, ref01Letter), (id_ref01Name, ref01Name), (id_ref01Utf8, ref01Utf8), (id_ref01Digit, ref01Digit), (id_law20Wakes, law20Wakes), (id_keepSamePathStep, keepSamePathStep), (id_law20Text, law20Text), (id_law20PathBack, law20PathBack), (id_pathParse1, pathParse1)]
theorem table_fits : Fits Tryd.prog table := ⟨⟨_, Tryd.func17, keepWithin_fit⟩, ⟨_, Tryd.func20, keepText_fit⟩, ⟨_, Tryd.func9, law20Steps_fit⟩, ⟨_, Tryd.func64, internalStringsliteHasPrefix_fit⟩, ⟨_, Tryd.func53, internalStringsliteCutPrefix_fit⟩, ⟨_, Tryd.func39, stringsCutPrefix_fit⟩, ⟨_, Tryd.func54, charsDigit_fit⟩, ⟨_, Tryd.func40, pathNumber_fit⟩, ⟨_, Tryd.func25, pathFirst_fit⟩, ⟨_, Tryd.func61, doubleRunes_fit⟩, ⟨_, Tryd.func81, internalStringsliteIndexByte_fit⟩, ⟨_, Tryd.func67, stringsIndexByte_fit⟩, ⟨_, Tryd.func68, doubleDigits_fit⟩, ⟨_, Tryd.func69, doubleNumber_fit⟩, ⟨_, Tryd.func56, doubleEscape_fit⟩, ⟨_, Tryd.func70, unicodeUtf8AppendRuneNonASCII_fit⟩, ⟨_, Tryd.func57, unicodeUtf8AppendRune_fit⟩, ⟨_, Tryd.func41, doubleTake_fit⟩, ⟨_, Tryd.func47, charsLetter_fit⟩, ⟨_, Tryd.func37, charsName_fit⟩, ⟨_, Tryd.func42, pathName_fit⟩, ⟨_, Tryd.func26, pathStep_fit⟩, ⟨_, Tryd.func43, slicesIndexFuncScholiumPathStepScholiumPathStep_fit⟩, ⟨_, Tryd.func27, slicesContainsFuncScholiumPathStepScholiumPathStep_fit⟩, ⟨_, Tryd.func13, pathParse_fit⟩, ⟨_, Tryd.func59, unicodeUtf8WordString_fit⟩, ⟨_, Tryd.func62, charsPrintable_fit⟩, ⟨_, Tryd.func63, doubleHex_fit⟩, ⟨_, Tryd.func51, doubleOne_fit⟩, ⟨_, Tryd.func21, pathText_fit⟩, ⟨_, Tryd.func22, slicesEqualScholiumPathStepScholiumPathStep_fit⟩, ⟨_, Tryd.func10, pathPrint_fit⟩, ⟨_, Tryd.func29, ref01Rune_fit⟩, ⟨_, Tryd.func30, ref01Escape_fit⟩, ⟨_, Tryd.func31, ref01Printable_fit⟩, ⟨_, Tryd.func32, ref01Hex_fit⟩, ⟨_, Tryd.func16, ref01PutDouble_fit⟩, ⟨_, Tryd.func35, ref01Letter_fit⟩, ⟨_, Tryd.func24, ref01Name_fit⟩, ⟨_, Tryd.func44, ref01Utf8_fit⟩, ⟨_, Tryd.func45, ref01Digit_fit⟩, ⟨_, Tryd.func12, law20Wakes_fit⟩, ⟨_, Tryd.func14, keepSamePathStep_fit⟩, ⟨_, Tryd.func15, law20Text_fit⟩, ⟨_, Tryd.func4, law20PathBack_fit⟩, ⟨_, Tryd.func28, pathParse1_fit⟩, trivial⟩
theorem table_fit : ∀ f F, get table f = some F → ∃ fn, Tryd.prog.funcs[f]? = some fn ∧ fitF Tryd.prog F fn = true := table_fits.get
end Go.Proofs.YtlionohbndehgaaDoor.Vf
