/- The code of the functions that the statements reach, as our evaluator takes it, and what each of them comes to, readably: printed by a program of ours. No condition. -/
import Derived.Test.YtlionohbndehgaaDoorVfWalk1
namespace Go.Proofs.YtlionohbndehgaaDoor.Vf
set_option linter.unusedVariables false
set_option linter.unusedSimpArgs false
set_option maxRecDepth 100000


def doubleOne_L1s (R : Nat → List AV → Option Res) (N : Nat) (go : Int → List AV → Int → Int → Option Res) (k0 : List UInt8 → Option Res) (k1 : Int → Option Res) (i2 : Int) (l2 : List AV) (i3 : Int) (i4 : Int) : Option Res :=
  bif decide ((i4 : Int) < i3) then
    (need (decide (0 ≤ (i4 : Int))) <|
    (l2[Int.toNat i4]?).bind fun e1 =>
    asI .i32 e1 fun i5 =>
    bif (i5 : Int) == i2 then
    (need (decide (0 ≤ (IntKind.i64.wrap (i4 + 1) : Int)) && decide ((IntKind.i64.wrap (i4 + 1) : Int) ≤ (((([48, 97, 98, 116, 110, 118, 102, 114, 101, 78, 95, 76, 80] : List UInt8) : List UInt8).length : Nat) : Int))) <|
    need (decide (0 ≤ (i4 : Int)) && decide ((i4 : Int) ≤ ((Int.toNat (IntKind.i64.wrap (i4 + 1)) : Nat) : Int))) <|
    need (decide ((([92] : List UInt8) : List UInt8).length + ((([48, 97, 98, 116, 110, 118, 102, 114, 101, 78, 95, 76, 80] : List UInt8).take (Int.toNat (IntKind.i64.wrap (i4 + 1)))).drop (Int.toNat i4) : List UInt8).length ≤ 9223372036854775807)) <|
    k0 (([92] : List UInt8) ++ ((([48, 97, 98, 116, 110, 118, 102, 114, 101, 78, 95, 76, 80] : List UInt8).take (Int.toNat (IntKind.i64.wrap (i4 + 1)))).drop (Int.toNat i4))))
    else
    go i2 l2 i3 (IntKind.i64.wrap (i4 + 1)))
  else
    k1 i2
def doubleOne_L1 (R : Nat → List AV → Option Res) (N : Nat) (k0 : List UInt8 → Option Res) (k1 : Int → Option Res) : Nat → Int → List AV → Int → Int → Option Res
  | 0, _, _, _, _ => none
  | n + 1, i2, l2, i3, i4 => doubleOne_L1s R N (doubleOne_L1 R N k0 k1 n) k0 k1 i2 l2 i3 i4
def doubleOne_c0 : AC := .seq (.region [.op (some 8) none (.bin .lss (.t 7) (.t 6))]) (.seq (.cond (.t 8) (.skip) (.exit 0 [0] [])) (.seq (.block 1 (.seq (.region [.op (some 9) none (.mv (.t 7)), .op (some 10) none (.iaddr (.t 5) (.t 7) 1 (.int .i32)), .op (some 11) none (.load (.t 10) none (.int .i32)), .op (some 3) none (.mv (.t 9)), .op (some 4) none (.mv (.t 11))]) (.seq (.region [.op (some 12) none (.mv (.t 4)), .op (some 13) none (.mv (.t 0)), .op (some 14) none (.bin .eql (.t 12) (.t 13))]) (.cond (.t 14) (.seq (.region [.op (some 15) none (.mv (.t 3)), .op (some 16) none (.mv (.t 3)), .op (some 17) none (.bin .add (.t 16) (.k (AV.int .i64 1))), .op (some 18) none (.sliceS (.k (AV.str ([48, 97, 98, 116, 110, 118, 102, 114, 101, 78, 95, 76, 80] : List UInt8))) (some (.t 15)) (some (.t 17))), .op (some 19) none (.bin .add (.k (AV.str ([92] : List UInt8))) (.t 18)), .op (some 2) none (.mv (.t 19))]) (.ret [2] [])) (.skip))))) (.region [.op (some 20) none (.bin .add (.t 7) (.k (AV.int .i64 1))), .op (some 7) none (.mv (.t 20))])))
theorem doubleOne_L1s_eq (R : Nat → List AV → Option Res) (N : Nat) (K : Ex → St → Option Res) (W : St → Option Res) (i2 : Int) (l2 : List AV) (i3 : Int) (i4 : Int) :
    evC gl R N doubleOne_c0 (Kseq (fun st' => W (prune [0, 5, 6, 7] [] st')) K) ⟨[(0, .imm (AV.int .i32 i2)), (5, .imm (AV.row 1 l2)), (6, .imm (AV.int .i64 i3)), (7, .imm (AV.int .i64 i4))], []⟩ =
    doubleOne_L1s R N (fun (i2 : Int) (l2 : List AV) (i3 : Int) (i4 : Int) => W ⟨[(0, .imm (AV.int .i32 i2)), (5, .imm (AV.row 1 l2)), (6, .imm (AV.int .i64 i3)), (7, .imm (AV.int .i64 i4))], []⟩) (fun (s1 : List UInt8) => K .ret ⟨[(2, .imm (AV.str s1))], []⟩) (fun (i6 : Int) => K (.exit 0) ⟨[(0, .imm (AV.int .i32 i6))], []⟩) i2 l2 i3 i4 := by
  kernel_rfl
theorem doubleOne_L1_eq (R : Nat → List AV → Option Res) (N : Nat) (K : Ex → St → Option Res) : ∀ (n : Nat) (i2 : Int) (l2 : List AV) (i3 : Int) (i4 : Int),
    rounds [0, 5, 6, 7] [] (evC gl R N doubleOne_c0) K n ⟨[(0, .imm (AV.int .i32 i2)), (5, .imm (AV.row 1 l2)), (6, .imm (AV.int .i64 i3)), (7, .imm (AV.int .i64 i4))], []⟩ = doubleOne_L1 R N (fun (s1 : List UInt8) => K .ret ⟨[(2, .imm (AV.str s1))], []⟩) (fun (i6 : Int) => K (.exit 0) ⟨[(0, .imm (AV.int .i32 i6))], []⟩) n i2 l2 i3 i4
  | 0, _, _, _, _ => rfl
  | n + 1, i2, l2, i3, i4 => (doubleOne_L1s_eq R N K (rounds [0, 5, 6, 7] [] (evC gl R N doubleOne_c0) K n) i2 l2 i3 i4).trans
      (congrArg (fun go => doubleOne_L1s R N go (fun (s1 : List UInt8) => K .ret ⟨[(2, .imm (AV.str s1))], []⟩) (fun (i6 : Int) => K (.exit 0) ⟨[(0, .imm (AV.int .i32 i6))], []⟩) i2 l2 i3 i4) (funext fun i2 => funext fun l2 => funext fun i3 => funext fun i4 => doubleOne_L1_eq R N K n i2 l2 i3 i4))
def doubleOne_c1 : AC := .seq (.block 2 (.seq (.region [.op (some 22) none (.mv (.t 0)), .op (some 23) none (.bin .eql (.t 22) (.k (AV.int .i32 34))), .op (some 24) none (.mv (.t 23)), .split 24, .op (some 25) (some (24, false)) (.mv (.t 0)), .op (some 26) (some (24, false)) (.bin .eql (.t 25) (.k (AV.int .i32 92))), .op (some 27) none (.pick (.t 24) (.k (AV.bool true)) (.t 26)), .op (some 21) none (.mv (.t 27))]) (.cond (.t 21) (.seq (.region [.op (some 28) none (.mv (.t 0)), .op (some 29) none (.cvRune (.t 28)), .op (some 30) none (.bin .add (.k (AV.str ([92] : List UInt8))) (.t 29)), .op (some 2) none (.mv (.t 30))]) (.ret [2] [])) (.seq (.region [.op (some 32) none (.mv (.t 0)), .op (some 33) none (.call id_charsPrintable [.t 32] (.bool)), .op (some 31) none (.mv (.t 33))]) (.cond (.t 31) (.seq (.region [.op (some 34) none (.mv (.t 0)), .op (some 35) none (.cvRune (.t 34)), .op (some 2) none (.mv (.t 35))]) (.ret [2] [])) (.seq (.region [.op (some 37) none (.mv (.t 0)), .op (some 38) none (.bin .lss (.t 37) (.k (AV.int .i32 256))), .op (some 36) none (.mv (.t 38))]) (.cond (.t 36) (.seq (.region [.op (some 39) none (.mv (.t 0)), .op (some 40) none (.cvInt .u32 (.t 39)), .op (some 41) none (.call id_doubleHex [.t 40, .k (AV.int .i64 2)] (.str)), .op (some 42) none (.bin .add (.k (AV.str ([92, 120] : List UInt8))) (.t 41)), .op (some 2) none (.mv (.t 42))]) (.ret [2] [])) (.seq (.region [.op (some 44) none (.mv (.t 0)), .op (some 45) none (.bin .lss (.t 44) (.k (AV.int .i32 65536))), .op (some 43) none (.mv (.t 45))]) (.cond (.t 43) (.seq (.region [.op (some 46) none (.mv (.t 0)), .op (some 47) none (.cvInt .u32 (.t 46)), .op (some 48) none (.call id_doubleHex [.t 47, .k (AV.int .i64 4)] (.str)), .op (some 49) none (.bin .add (.k (AV.str ([92, 117] : List UInt8))) (.t 48)), .op (some 2) none (.mv (.t 49))]) (.ret [2] [])) (.skip)))))))))) (.seq (.region [.op (some 50) none (.mv (.t 0)), .op (some 51) none (.cvInt .u32 (.t 50)), .op (some 52) none (.call id_doubleHex [.t 51, .k (AV.int .i64 8)] (.str)), .op (some 53) none (.bin .add (.k (AV.str ([92, 85] : List UInt8))) (.t 52)), .op (some 2) none (.mv (.t 53))]) (.ret [2] []))
def doubleOne_c2 : AC := .seq (.region [.op (some 2) none (.mv (.k (AV.str ([] : List UInt8))))]) (.seq (.seq (.region [.op (some 5) none (.call id_doubleRunes [] (.row 1)), .op (some 6) none (.len (.t 5) false), .op (some 7) none (.mv (.k (AV.int .i64 0)))]) (.block 0 (.loop [0, 5, 6, 7] [] (doubleOne_c0)))) (doubleOne_c1))
def doubleOne : AFunc := ⟨1, 54, [.tmp 2], doubleOne_c2⟩
def doubleOner (R : Nat → List AV → Option Res) (N : Nat) (i1 : Int) : Option Res :=
  (R id_doubleRunes []).bind fun r1 =>
  asR 1 r1.v fun l1 =>
  doubleOne_L1 R N
    (fun s3 =>
    some ⟨AV.str s3, false, []⟩)
    (fun i8 =>
    bif (i8 : Int) == 34 then
    (need (decide ((([92] : List UInt8) : List UInt8).length + ((Utf8.encode i8).data.toList).length ≤ 9223372036854775807)) <|
    some ⟨AV.str (([92] : List UInt8) ++ ((Utf8.encode i8).data.toList)), false, []⟩)
    else
    bif (i8 : Int) == 92 then
    (need (decide ((([92] : List UInt8) : List UInt8).length + ((Utf8.encode i8).data.toList).length ≤ 9223372036854775807)) <|
    some ⟨AV.str (([92] : List UInt8) ++ ((Utf8.encode i8).data.toList)), false, []⟩)
    else
    (R id_charsPrintable [AV.int .i32 i8]).bind fun r2 =>
    asB r2.v fun b1 =>
    bif b1 then
    (some ⟨AV.str ((Utf8.encode i8).data.toList), false, []⟩)
    else
    bif decide ((i8 : Int) < 256) then
    ((R id_doubleHex [AV.int .u32 (IntKind.u32.wrap i8), AV.int .i64 2]).bind fun r3 =>
    asS r3.v fun s4 =>
    need (decide ((([92, 120] : List UInt8) : List UInt8).length + s4.length ≤ 9223372036854775807)) <|
    some ⟨AV.str (([92, 120] : List UInt8) ++ s4), false, []⟩)
    else
    bif decide ((i8 : Int) < 65536) then
    ((R id_doubleHex [AV.int .u32 (IntKind.u32.wrap i8), AV.int .i64 4]).bind fun r4 =>
    asS r4.v fun s5 =>
    need (decide ((([92, 117] : List UInt8) : List UInt8).length + s5.length ≤ 9223372036854775807)) <|
    some ⟨AV.str (([92, 117] : List UInt8) ++ s5), false, []⟩)
    else
    (R id_doubleHex [AV.int .u32 (IntKind.u32.wrap i8), AV.int .i64 8]).bind fun r5 =>
    asS r5.v fun s6 =>
    need (decide ((([92, 85] : List UInt8) : List UInt8).length + s6.length ≤ 9223372036854775807)) <|
    some ⟨AV.str (([92, 85] : List UInt8) ++ s6), false, []⟩)
    N i1 l1 ((l1.length : Nat) : Int) 0
theorem doubleOne_eq (R : Nat → List AV → Option Res) (N : Nat) (i1 : Int) : runF gl R N doubleOne [AV.int .i32 i1] = doubleOner R N i1 := by
  refine Eq.trans (b :=
    (R id_doubleRunes []).bind fun r1 =>
    asR 1 r1.v fun l1 =>
    rounds [0, 5, 6, 7] [] (evC gl R N doubleOne_c0) (Kblock 0 (Kthen gl R N doubleOne_c1 (Kret doubleOne.rets []))) N ⟨[(0, .imm (AV.int .i32 i1)), (5, .imm (AV.row 1 l1)), (6, .imm (AV.int .i64 ((l1.length : Nat) : Int))), (7, .imm (AV.int .i64 0))], []⟩) (by kernel_rfl) ?_
  simp (config := { maxSteps := 100000000 }) only [doubleOne_L1_eq]
  kernel_rfl
theorem doubleOne_fit : fitF Tryd.prog doubleOne Tryd.f51 = true := by
  kernel_rfl

def pathText_c0 : AC := .seq (.region [.op (some 1) none (.box 1001 (.t 0) 3), .op (some 2) none (.mv (.k (AV.str ([] : List UInt8))))]) (.seq (.block 0 (.seq (.region [.op (some 6) none (.faddr (.t 1) 0), .op (some 7) none (.load (.t 6) none (.int .i64)), .op (some 8) none (.bin .eql (.t 7) (.k (AV.int .i64 1))), .op (some 9) none (.mv (.t 8)), .split 9, .op (some 10) (some (9, true)) (.faddr (.t 1) 2), .op (some 11) (some (9, true)) (.load (.t 10) none (.int .i64)), .op (some 12) (some (9, true)) (.bin .eql (.t 11) (.k (AV.int .i64 (-1)))), .op (some 13) none (.pick (.t 9) (.t 12) (.k (AV.bool false))), .op (some 5) none (.mv (.t 13))]) (.cond (.t 5) (.seq (.region [.op (some 2) none (.mv (.k (AV.str ([64, 42] : List UInt8))))]) (.ret [2] [])) (.seq (.region [.op (some 15) none (.faddr (.t 1) 0), .op (some 16) none (.load (.t 15) none (.int .i64)), .op (some 17) none (.bin .eql (.t 16) (.k (AV.int .i64 1))), .op (some 14) none (.mv (.t 17))]) (.cond (.t 14) (.seq (.region [.op (some 18) none (.faddr (.t 1) 2), .op (some 19) none (.load (.t 18) none (.int .i64)), .op (some 20) none (.call id_strconvItoa [.t 19] (.str)), .op (some 21) none (.bin .add (.k (AV.str ([64] : List UInt8))) (.t 20)), .op (some 2) none (.mv (.t 21))]) (.ret [2] [])) (.seq (.region [.op (some 23) none (.faddr (.t 1) 0), .op (some 24) none (.load (.t 23) none (.int .i64)), .op (some 25) none (.bin .eql (.t 24) (.k (AV.int .i64 2))), .op (some 26) none (.mv (.t 25)), .split 26, .op (some 27) (some (26, true)) (.faddr (.t 1) 1), .op (some 28) (some (26, true)) (.load (.t 27) none (.str)), .op (some 29) (some (26, true)) (.call id_charsName [.t 28] (.bool)), .op (some 30) none (.pick (.t 26) (.t 29) (.k (AV.bool false))), .op (some 22) none (.mv (.t 30))]) (.cond (.t 22) (.seq (.region [.op (some 31) none (.faddr (.t 1) 1), .op (some 32) none (.load (.t 31) none (.str)), .op (some 33) none (.bin .add (.k (AV.str ([46] : List UInt8))) (.t 32)), .op (some 2) none (.mv (.t 33))]) (.ret [2] [])) (.seq (.region [.op (some 35) none (.faddr (.t 1) 0), .op (some 36) none (.load (.t 35) none (.int .i64)), .op (some 37) none (.bin .eql (.t 36) (.k (AV.int .i64 2))), .op (some 34) none (.mv (.t 37))]) (.cond (.t 34) (.seq (.region [.op (some 39) none (.faddr (.t 1) 1), .op (some 40) none (.load (.t 39) none (.str)), .op (some 41) none (.call id_doublePut [.t 40] (.tup [.str, .bool])), .op (some 38) none (.mv (.t 41)), .op (some 42) none (.extract (.t 38) 0), .op (some 43) none (.extract (.t 38) 1), .op (some 3) none (.mv (.t 42)), .op (some 4) none (.mv (.t 43))]) (.seq (.region [.op (some 44) none (.mv (.t 3)), .op (some 45) none (.bin .add (.k (AV.str ([46] : List UInt8))) (.t 44)), .op (some 2) none (.mv (.t 45))]) (.ret [2] []))) (.seq (.region [.op (some 47) none (.faddr (.t 1) 0), .op (some 48) none (.load (.t 47) none (.int .i64)), .op (some 49) none (.bin .eql (.t 48) (.k (AV.int .i64 3))), .op (some 46) none (.mv (.t 49))]) (.cond (.t 46) (.seq (.region [.op (some 50) none (.faddr (.t 1) 2), .op (some 51) none (.load (.t 50) none (.int .i64)), .op (some 52) none (.call id_strconvItoa [.t 51] (.str)), .op (some 53) none (.bin .add (.k (AV.str ([91] : List UInt8))) (.t 52)), .op (some 54) none (.bin .add (.t 53) (.k (AV.str ([93] : List UInt8)))), .op (some 2) none (.mv (.t 54))]) (.ret [2] [])) (.seq (.region [.op (some 56) none (.faddr (.t 1) 0), .op (some 57) none (.load (.t 56) none (.int .i64)), .op (some 58) none (.bin .eql (.t 57) (.k (AV.int .i64 4))), .op (some 55) none (.mv (.t 58))]) (.cond (.t 55) (.seq (.region [.op (some 2) none (.mv (.k (AV.str ([46, 42] : List UInt8))))]) (.ret [2] [])) (.skip)))))))))))))) (.seq (.region [.op (some 2) none (.mv (.k (AV.str ([46, 46] : List UInt8))))]) (.ret [2] [])))
def pathText : AFunc := ⟨1, 59, [.tmp 2], pathText_c0⟩
def pathTextr (R : Nat → List AV → Option Res) (N : Nat) (i1 : Int) (s1 : List UInt8) (i2 : Int) : Option Res :=
  bif (i1 : Int) == 1 then
    (bif (i2 : Int) == (-1) then
    (some ⟨AV.str ([64, 42] : List UInt8), false, []⟩)
    else
    bif (i1 : Int) == 1 then
    ((R id_strconvItoa [AV.int .i64 i2]).bind fun r1 =>
    asS r1.v fun s2 =>
    need (decide ((([64] : List UInt8) : List UInt8).length + s2.length ≤ 9223372036854775807)) <|
    some ⟨AV.str (([64] : List UInt8) ++ s2), false, []⟩)
    else
    bif (i1 : Int) == 2 then
    ((R id_charsName [AV.str s1]).bind fun r2 =>
    asB r2.v fun b1 =>
    bif b1 then
    (need (decide ((([46] : List UInt8) : List UInt8).length + s1.length ≤ 9223372036854775807)) <|
    some ⟨AV.str (([46] : List UInt8) ++ s1), false, []⟩)
    else
    bif (i1 : Int) == 2 then
    ((R id_doublePut [AV.str s1]).bind fun r3 =>
    asSBT r3.v fun s3 b2 =>
    need (decide ((([46] : List UInt8) : List UInt8).length + s3.length ≤ 9223372036854775807)) <|
    some ⟨AV.str (([46] : List UInt8) ++ s3), false, []⟩)
    else
    bif (i1 : Int) == 3 then
    ((R id_strconvItoa [AV.int .i64 i2]).bind fun r4 =>
    asS r4.v fun s4 =>
    need (decide ((([91] : List UInt8) : List UInt8).length + s4.length ≤ 9223372036854775807)) <|
    need (decide ((([91] : List UInt8) ++ s4 : List UInt8).length + (([93] : List UInt8) : List UInt8).length ≤ 9223372036854775807)) <|
    some ⟨AV.str ((([91] : List UInt8) ++ s4) ++ ([93] : List UInt8)), false, []⟩)
    else
    bif (i1 : Int) == 4 then
    (some ⟨AV.str ([46, 42] : List UInt8), false, []⟩)
    else
    some ⟨AV.str ([46, 46] : List UInt8), false, []⟩)
    else
    bif (i1 : Int) == 2 then
    ((R id_doublePut [AV.str s1]).bind fun r5 =>
    asSBT r5.v fun s5 b3 =>
    need (decide ((([46] : List UInt8) : List UInt8).length + s5.length ≤ 9223372036854775807)) <|
    some ⟨AV.str (([46] : List UInt8) ++ s5), false, []⟩)
    else
    bif (i1 : Int) == 3 then
    ((R id_strconvItoa [AV.int .i64 i2]).bind fun r6 =>
    asS r6.v fun s6 =>
    need (decide ((([91] : List UInt8) : List UInt8).length + s6.length ≤ 9223372036854775807)) <|
    need (decide ((([91] : List UInt8) ++ s6 : List UInt8).length + (([93] : List UInt8) : List UInt8).length ≤ 9223372036854775807)) <|
    some ⟨AV.str ((([91] : List UInt8) ++ s6) ++ ([93] : List UInt8)), false, []⟩)
    else
    bif (i1 : Int) == 4 then
    (some ⟨AV.str ([46, 42] : List UInt8), false, []⟩)
    else
    some ⟨AV.str ([46, 46] : List UInt8), false, []⟩)
  else
    bif (i1 : Int) == 1 then
    ((R id_strconvItoa [AV.int .i64 i2]).bind fun r7 =>
    asS r7.v fun s7 =>
    need (decide ((([64] : List UInt8) : List UInt8).length + s7.length ≤ 9223372036854775807)) <|
    some ⟨AV.str (([64] : List UInt8) ++ s7), false, []⟩)
    else
    bif (i1 : Int) == 2 then
    ((R id_charsName [AV.str s1]).bind fun r8 =>
    asB r8.v fun b4 =>
    bif b4 then
    (need (decide ((([46] : List UInt8) : List UInt8).length + s1.length ≤ 9223372036854775807)) <|
    some ⟨AV.str (([46] : List UInt8) ++ s1), false, []⟩)
    else
    bif (i1 : Int) == 2 then
    ((R id_doublePut [AV.str s1]).bind fun r9 =>
    asSBT r9.v fun s8 b5 =>
    need (decide ((([46] : List UInt8) : List UInt8).length + s8.length ≤ 9223372036854775807)) <|
    some ⟨AV.str (([46] : List UInt8) ++ s8), false, []⟩)
    else
    bif (i1 : Int) == 3 then
    ((R id_strconvItoa [AV.int .i64 i2]).bind fun r10 =>
    asS r10.v fun s9 =>
    need (decide ((([91] : List UInt8) : List UInt8).length + s9.length ≤ 9223372036854775807)) <|
    need (decide ((([91] : List UInt8) ++ s9 : List UInt8).length + (([93] : List UInt8) : List UInt8).length ≤ 9223372036854775807)) <|
    some ⟨AV.str ((([91] : List UInt8) ++ s9) ++ ([93] : List UInt8)), false, []⟩)
    else
    bif (i1 : Int) == 4 then
    (some ⟨AV.str ([46, 42] : List UInt8), false, []⟩)
    else
    some ⟨AV.str ([46, 46] : List UInt8), false, []⟩)
    else
    bif (i1 : Int) == 2 then
    ((R id_doublePut [AV.str s1]).bind fun r11 =>
    asSBT r11.v fun s10 b6 =>
    need (decide ((([46] : List UInt8) : List UInt8).length + s10.length ≤ 9223372036854775807)) <|
    some ⟨AV.str (([46] : List UInt8) ++ s10), false, []⟩)
    else
    bif (i1 : Int) == 3 then
    ((R id_strconvItoa [AV.int .i64 i2]).bind fun r12 =>
    asS r12.v fun s11 =>
    need (decide ((([91] : List UInt8) : List UInt8).length + s11.length ≤ 9223372036854775807)) <|
    need (decide ((([91] : List UInt8) ++ s11 : List UInt8).length + (([93] : List UInt8) : List UInt8).length ≤ 9223372036854775807)) <|
    some ⟨AV.str ((([91] : List UInt8) ++ s11) ++ ([93] : List UInt8)), false, []⟩)
    else
    bif (i1 : Int) == 4 then
    (some ⟨AV.str ([46, 42] : List UInt8), false, []⟩)
    else
    some ⟨AV.str ([46, 46] : List UInt8), false, []⟩
theorem pathText_eq (R : Nat → List AV → Option Res) (N : Nat) (i1 : Int) (s1 : List UInt8) (i2 : Int) : runF gl R N pathText [AV.agg [AV.int .i64 i1, AV.str s1, AV.int .i64 i2]] = pathTextr R N i1 s1 i2 := by
  kernel_rfl
theorem pathText_fit : fitF Tryd.prog pathText Tryd.f21 = true := by
  kernel_rfl

def slicesEqualScholiumPathStepScholiumPathStep_L1s (R : Nat → List AV → Option Res) (N : Nat) (go : List AV → List AV → Int → Int → Option Res) (k0 : Bool → Option Res) (k1 : Option Res) (l3 : List AV) (l4 : List AV) (i1 : Int) (i2 : Int) : Option Res :=
  bif decide ((i2 : Int) < i1) then
    (need (decide (0 ≤ (i2 : Int))) <|
    (l3[Int.toNat i2]?).bind fun e1 =>
    asISIA e1 fun i3 s1 i4 =>
    need (decide (0 ≤ (i2 : Int))) <|
    (l4[Int.toNat i2]?).bind fun e2 =>
    asISIA e2 fun i5 s2 i6 =>
    bif !(((i3 : Int) == i5) && ((s1 == s2) && (((i4 : Int) == i6) && (true)))) then
    (k0 false)
    else
    go l3 l4 i1 (IntKind.i64.wrap (i2 + 1)))
  else
    k1
def slicesEqualScholiumPathStepScholiumPathStep_L1 (R : Nat → List AV → Option Res) (N : Nat) (k0 : Bool → Option Res) (k1 : Option Res) : Nat → List AV → List AV → Int → Int → Option Res
  | 0, _, _, _, _ => none
  | n + 1, l3, l4, i1, i2 => slicesEqualScholiumPathStepScholiumPathStep_L1s R N (slicesEqualScholiumPathStepScholiumPathStep_L1 R N k0 k1 n) k0 k1 l3 l4 i1 i2
def slicesEqualScholiumPathStepScholiumPathStep_c0 : AC := .seq (.region [.op (some 14) none (.bin .lss (.t 13) (.t 12))]) (.seq (.cond (.t 14) (.skip) (.exit 0 [] [])) (.seq (.block 1 (.seq (.region [.op (some 15) none (.mv (.t 13)), .op (some 5) none (.mv (.t 15))]) (.seq (.regionD [0, 1, 12, 13, 24] [] [.op (some 16) none (.mv (.t 0)), .op (some 17) none (.mv (.t 5)), .op (some 18) none (.iaddr (.t 16) (.t 17) 3 (.agg [.int .i64, .str, .int .i64])), .op (some 19) none (.load (.t 18) (some 3) (.agg [.int .i64, .str, .int .i64])), .op (some 20) none (.mv (.t 1)), .op (some 21) none (.mv (.t 5)), .op (some 22) none (.iaddr (.t 20) (.t 21) 3 (.agg [.int .i64, .str, .int .i64])), .op (some 23) none (.load (.t 22) (some 3) (.agg [.int .i64, .str, .int .i64])), .op (some 24) none (.binA true (.t 19) (.t 23) [0, 2, 0])] []) (.cond (.t 24) (.seq (.region [.op (some 4) none (.mv (.k (AV.bool false)))]) (.ret [4] [])) (.skip))))) (.region [.op (some 25) none (.bin .add (.t 13) (.k (AV.int .i64 1))), .op (some 13) none (.mv (.t 25))])))
theorem slicesEqualScholiumPathStepScholiumPathStep_L1s_eq (R : Nat → List AV → Option Res) (N : Nat) (K : Ex → St → Option Res) (W : St → Option Res) (l3 : List AV) (l4 : List AV) (i1 : Int) (i2 : Int) :
    evC gl R N slicesEqualScholiumPathStepScholiumPathStep_c0 (Kseq (fun st' => W (prune [0, 1, 12, 13] [] st')) K) ⟨[(0, .imm (AV.row 3 l3)), (1, .imm (AV.row 3 l4)), (12, .imm (AV.int .i64 i1)), (13, .imm (AV.int .i64 i2))], []⟩ =
    slicesEqualScholiumPathStepScholiumPathStep_L1s R N (fun (l3 : List AV) (l4 : List AV) (i1 : Int) (i2 : Int) => W ⟨[(0, .imm (AV.row 3 l3)), (1, .imm (AV.row 3 l4)), (12, .imm (AV.int .i64 i1)), (13, .imm (AV.int .i64 i2))], []⟩) (fun (b1 : Bool) => K .ret ⟨[(4, .imm (AV.bool b1))], []⟩) (K (.exit 0) ⟨[], []⟩) l3 l4 i1 i2 := by
  kernel_rfl
theorem slicesEqualScholiumPathStepScholiumPathStep_L1_eq (R : Nat → List AV → Option Res) (N : Nat) (K : Ex → St → Option Res) : ∀ (n : Nat) (l3 : List AV) (l4 : List AV) (i1 : Int) (i2 : Int),
    rounds [0, 1, 12, 13] [] (evC gl R N slicesEqualScholiumPathStepScholiumPathStep_c0) K n ⟨[(0, .imm (AV.row 3 l3)), (1, .imm (AV.row 3 l4)), (12, .imm (AV.int .i64 i1)), (13, .imm (AV.int .i64 i2))], []⟩ = slicesEqualScholiumPathStepScholiumPathStep_L1 R N (fun (b1 : Bool) => K .ret ⟨[(4, .imm (AV.bool b1))], []⟩) (K (.exit 0) ⟨[], []⟩) n l3 l4 i1 i2
  | 0, _, _, _, _ => rfl
  | n + 1, l3, l4, i1, i2 => (slicesEqualScholiumPathStepScholiumPathStep_L1s_eq R N K (rounds [0, 1, 12, 13] [] (evC gl R N slicesEqualScholiumPathStepScholiumPathStep_c0) K n) l3 l4 i1 i2).trans
      (congrArg (fun go => slicesEqualScholiumPathStepScholiumPathStep_L1s R N go (fun (b1 : Bool) => K .ret ⟨[(4, .imm (AV.bool b1))], []⟩) (K (.exit 0) ⟨[], []⟩) l3 l4 i1 i2) (funext fun l3 => funext fun l4 => funext fun i1 => funext fun i2 => slicesEqualScholiumPathStepScholiumPathStep_L1_eq R N K n l3 l4 i1 i2))
def slicesEqualScholiumPathStepScholiumPathStep_c1 : AC := .seq (.region [.op (some 4) none (.mv (.k (AV.bool true)))]) (.ret [4] [])
def slicesEqualScholiumPathStepScholiumPathStep_c2 : AC := .seq (.region [.op (some 4) none (.mv (.k (AV.bool false)))]) (.seq (.seq (.region [.op (some 6) none (.mv (.t 0)), .op (some 7) none (.len (.t 6) false), .op (some 8) none (.mv (.t 1)), .op (some 9) none (.len (.t 8) false), .op (some 10) none (.bin .neq (.t 7) (.t 9))]) (.cond (.t 10) (.seq (.region [.op (some 4) none (.mv (.k (AV.bool false)))]) (.ret [4] [])) (.skip))) (.seq (.seq (.region [.op (some 11) none (.mv (.t 0)), .op (some 12) none (.len (.t 11) false), .op (some 13) none (.mv (.k (AV.int .i64 0)))]) (.block 0 (.loop [0, 1, 12, 13] [] (slicesEqualScholiumPathStepScholiumPathStep_c0)))) (slicesEqualScholiumPathStepScholiumPathStep_c1)))
def slicesEqualScholiumPathStepScholiumPathStep : AFunc := ⟨2, 26, [.tmp 4], slicesEqualScholiumPathStepScholiumPathStep_c2⟩
def slicesEqualScholiumPathStepScholiumPathStepr (R : Nat → List AV → Option Res) (N : Nat) (l1 : List AV) (l2 : List AV) : Option Res :=
  bif (((l1.length : Nat) : Int) : Int) != ((l2.length : Nat) : Int) then
    (some ⟨AV.bool false, false, []⟩)
  else
    slicesEqualScholiumPathStepScholiumPathStep_L1 R N
      (fun b3 =>
    some ⟨AV.bool b3, false, []⟩)
      (
    some ⟨AV.bool true, false, []⟩)
      N l1 l2 ((l1.length : Nat) : Int) 0
theorem slicesEqualScholiumPathStepScholiumPathStep_eq (R : Nat → List AV → Option Res) (N : Nat) (l1 : List AV) (l2 : List AV) : runF gl R N slicesEqualScholiumPathStepScholiumPathStep [AV.row 3 l1, AV.row 3 l2] = slicesEqualScholiumPathStepScholiumPathStepr R N l1 l2 := by
  refine Eq.trans (b :=
    bif (((l1.length : Nat) : Int) : Int) != ((l2.length : Nat) : Int) then
    (some ⟨AV.bool false, false, []⟩)
    else
    rounds [0, 1, 12, 13] [] (evC gl R N slicesEqualScholiumPathStepScholiumPathStep_c0) (Kblock 0 (Kthen gl R N slicesEqualScholiumPathStepScholiumPathStep_c1 (Kret slicesEqualScholiumPathStepScholiumPathStep.rets []))) N ⟨[(0, .imm (AV.row 3 l1)), (1, .imm (AV.row 3 l2)), (12, .imm (AV.int .i64 ((l1.length : Nat) : Int))), (13, .imm (AV.int .i64 0))], []⟩) (by kernel_rfl) ?_
  simp (config := { maxSteps := 100000000 }) only [slicesEqualScholiumPathStepScholiumPathStep_L1_eq]
  kernel_rfl
theorem slicesEqualScholiumPathStepScholiumPathStep_fit : fitF Tryd.prog slicesEqualScholiumPathStepScholiumPathStep Tryd.f22 = true := by
  kernel_rfl

def pathPrint_L1s (R : Nat → List AV → Option Res) (N : Nat) (go : List AV → List UInt8 → List AV → Int → Int → Option Res) (k0 : List AV → List UInt8 → Option Res) (l2 : List AV) (s1 : List UInt8) (l3 : List AV) (i1 : Int) (i2 : Int) : Option Res :=
  bif decide ((i2 : Int) < i1) then
    (need (decide (0 ≤ (i2 : Int))) <|
    (l3[Int.toNat i2]?).bind fun e1 =>
    asISIA e1 fun i3 s2 i4 =>
    (R id_pathText [AV.agg [AV.int .i64 i3, AV.str s2, AV.int .i64 i4]]).bind fun r1 =>
    asS r1.v fun s3 =>
    need (decide (s1.length + s3.length ≤ 9223372036854775807)) <|
    go l2 (s1 ++ s3) l3 i1 (IntKind.i64.wrap (i2 + 1)))
  else
    k0 l2 s1
def pathPrint_L1 (R : Nat → List AV → Option Res) (N : Nat) (k0 : List AV → List UInt8 → Option Res) : Nat → List AV → List UInt8 → List AV → Int → Int → Option Res
  | 0, _, _, _, _, _ => none
  | n + 1, l2, s1, l3, i1, i2 => pathPrint_L1s R N (pathPrint_L1 R N k0 n) k0 l2 s1 l3 i1 i2
def pathPrint_c0 : AC := .seq (.region [.op (some 12) none (.bin .lss (.t 11) (.t 10))]) (.seq (.cond (.t 12) (.skip) (.exit 0 [0, 4] [])) (.seq (.block 1 (.seq (.region [.op (some 13) none (.iaddr (.t 9) (.t 11) 3 (.agg [.int .i64, .str, .int .i64])), .op (some 14) none (.load (.t 13) (some 3) (.agg [.int .i64, .str, .int .i64])), .op (some 6) none (.alloc 1006 [AV.int .i64 0, AV.str [], AV.int .i64 0]), .op none none (.store (.t 6) (.t 14) 3)]) (.region [.op (some 15) none (.mv (.t 4)), .op (some 16) none (.load (.t 6) (some 3) (.agg [.int .i64, .str, .int .i64])), .op (some 17) none (.call id_pathText [.t 16] (.str)), .op (some 18) none (.bin .add (.t 15) (.t 17)), .op (some 4) none (.mv (.t 18))]))) (.region [.op (some 19) none (.bin .add (.t 11) (.k (AV.int .i64 1))), .op (some 11) none (.mv (.t 19))])))
theorem pathPrint_L1s_eq (R : Nat → List AV → Option Res) (N : Nat) (K : Ex → St → Option Res) (W : St → Option Res) (l2 : List AV) (s1 : List UInt8) (l3 : List AV) (i1 : Int) (i2 : Int) :
    evC gl R N pathPrint_c0 (Kseq (fun st' => W (prune [0, 4, 9, 10, 11] [] st')) K) ⟨[(0, .imm (AV.row 3 l2)), (4, .imm (AV.str s1)), (9, .imm (AV.row 3 l3)), (10, .imm (AV.int .i64 i1)), (11, .imm (AV.int .i64 i2))], []⟩ =
    pathPrint_L1s R N (fun (l2 : List AV) (s1 : List UInt8) (l3 : List AV) (i1 : Int) (i2 : Int) => W ⟨[(0, .imm (AV.row 3 l2)), (4, .imm (AV.str s1)), (9, .imm (AV.row 3 l3)), (10, .imm (AV.int .i64 i1)), (11, .imm (AV.int .i64 i2))], []⟩) (fun (l4 : List AV) (s4 : List UInt8) => K (.exit 0) ⟨[(0, .imm (AV.row 3 l4)), (4, .imm (AV.str s4))], []⟩) l2 s1 l3 i1 i2 := by
  kernel_rfl
theorem pathPrint_L1_eq (R : Nat → List AV → Option Res) (N : Nat) (K : Ex → St → Option Res) : ∀ (n : Nat) (l2 : List AV) (s1 : List UInt8) (l3 : List AV) (i1 : Int) (i2 : Int),
    rounds [0, 4, 9, 10, 11] [] (evC gl R N pathPrint_c0) K n ⟨[(0, .imm (AV.row 3 l2)), (4, .imm (AV.str s1)), (9, .imm (AV.row 3 l3)), (10, .imm (AV.int .i64 i1)), (11, .imm (AV.int .i64 i2))], []⟩ = pathPrint_L1 R N (fun (l4 : List AV) (s4 : List UInt8) => K (.exit 0) ⟨[(0, .imm (AV.row 3 l4)), (4, .imm (AV.str s4))], []⟩) n l2 s1 l3 i1 i2
  | 0, _, _, _, _, _ => rfl
  | n + 1, l2, s1, l3, i1, i2 => (pathPrint_L1s_eq R N K (rounds [0, 4, 9, 10, 11] [] (evC gl R N pathPrint_c0) K n) l2 s1 l3 i1 i2).trans
      (congrArg (fun go => pathPrint_L1s R N go (fun (l4 : List AV) (s4 : List UInt8) => K (.exit 0) ⟨[(0, .imm (AV.row 3 l4)), (4, .imm (AV.str s4))], []⟩) l2 s1 l3 i1 i2) (funext fun l2 => funext fun s1 => funext fun l3 => funext fun i1 => funext fun i2 => pathPrint_L1_eq R N K n l2 s1 l3 i1 i2))
def pathPrint_c1 : AC := .seq (.region [.op (some 21) none (.mv (.t 4)), .op (some 22) none (.call id_pathParse [.t 21] (.tup [.row 3, .int .i64])), .op (some 20) none (.mv (.t 22)), .op (some 23) none (.extract (.t 20) 0), .op (some 24) none (.extract (.t 20) 1), .op (some 7) none (.mv (.t 23)), .op (some 8) none (.mv (.t 24))]) (.seq (.seq (.region [.op (some 25) none (.mv (.t 8)), .op (some 26) none (.bin .neq (.t 25) (.k (AV.int .i64 0))), .op (some 27) none (.mv (.t 26)), .split 27, .op (some 28) (some (27, false)) (.mv (.t 7)), .op (some 29) (some (27, false)) (.mv (.t 0)), .op (some 30) (some (27, false)) (.call id_slicesEqualScholiumPathStepScholiumPathStep [.t 28, .t 29] (.bool)), .op (some 31) (some (27, false)) (.un .not (.t 30)), .op (some 32) none (.pick (.t 27) (.k (AV.bool true)) (.t 31))]) (.cond (.t 32) (.seq (.region [.op (some 2) none (.mv (.k (AV.str ([] : List UInt8)))), .op (some 3) none (.mv (.k (AV.int .i64 6)))]) (.ret [2, 3] [])) (.skip))) (.seq (.region [.op (some 33) none (.mv (.t 4)), .op (some 2) none (.mv (.t 33)), .op (some 3) none (.mv (.k (AV.int .i64 0)))]) (.ret [2, 3] [])))
def pathPrint_c2 : AC := .seq (.region [.op (some 2) none (.mv (.k (AV.str ([] : List UInt8)))), .op (some 3) none (.mv (.k (AV.int .i64 0)))]) (.seq (.region [.op (some 4) none (.mv (.k (AV.str ([] : List UInt8))))]) (.seq (.seq (.region [.op (some 9) none (.mv (.t 0)), .op (some 10) none (.len (.t 9) false), .op (some 11) none (.mv (.k (AV.int .i64 0)))]) (.block 0 (.loop [0, 4, 9, 10, 11] [] (pathPrint_c0)))) (pathPrint_c1)))
def pathPrint : AFunc := ⟨1, 34, [.tmp 2, .tmp 3], pathPrint_c2⟩
def pathPrintr (R : Nat → List AV → Option Res) (N : Nat) (l1 : List AV) : Option Res :=
  pathPrint_L1 R N
    (fun l6 s6 =>
    (R id_pathParse [AV.str s6]).bind fun r2 =>
    asRIT r2.v fun l7 i5 =>
    bif (i5 : Int) != 0 then
    (some ⟨AV.tup [AV.str ([] : List UInt8), AV.int .i64 6], false, []⟩)
    else
    (R id_slicesEqualScholiumPathStepScholiumPathStep [AV.row 3 l7, AV.row 3 l6]).bind fun r3 =>
    asB r3.v fun b1 =>
    bif !b1 then
    (some ⟨AV.tup [AV.str ([] : List UInt8), AV.int .i64 6], false, []⟩)
    else
    some ⟨AV.tup [AV.str s6, AV.int .i64 0], false, []⟩)
    N l1 ([] : List UInt8) l1 ((l1.length : Nat) : Int) 0
theorem pathPrint_eq (R : Nat → List AV → Option Res) (N : Nat) (l1 : List AV) : runF gl R N pathPrint [AV.row 3 l1] = pathPrintr R N l1 := by
  refine Eq.trans (b :=
    rounds [0, 4, 9, 10, 11] [] (evC gl R N pathPrint_c0) (Kblock 0 (Kthen gl R N pathPrint_c1 (Kret pathPrint.rets []))) N ⟨[(0, .imm (AV.row 3 l1)), (4, .imm (AV.str ([] : List UInt8))), (9, .imm (AV.row 3 l1)), (10, .imm (AV.int .i64 ((l1.length : Nat) : Int))), (11, .imm (AV.int .i64 0))], []⟩) (by kernel_rfl) ?_
  simp (config := { maxSteps := 100000000 }) only [pathPrint_L1_eq]
  kernel_rfl
theorem pathPrint_fit : fitF Tryd.prog pathPrint Tryd.f10 = true := by
  kernel_rfl

def ref01Rune_L1s (R : Nat → List AV → Option Res) (N : Nat) (go : List UInt8 → Int → Int → Int → Int → Option Res) (k0 : Int → Int → Bool → Option Res) (k1 : Int → Int → Int → Option Res) (s2 : List UInt8) (i1 : Int) (i2 : Int) (i3 : Int) (i4 : Int) : Option Res :=
  bif decide ((i4 : Int) < i1) then
    (need (decide (0 ≤ (i4 : Int))) <|
    (s2[Int.toNat i4]?).bind fun c2 =>
    bif ((IntKind.u8.wrap (BitVec.ofInt IntKind.u8.bits (c2.toNat : Int) &&& BitVec.ofInt IntKind.u8.bits 192).toNat) : Int) != 128 then
    (k0 0 1 false)
    else
    need (!decide (6 < 0)) <|
    need (decide (0 ≤ (i4 : Int))) <|
    (s2[Int.toNat i4]?).bind fun c3 =>
    go s2 i1 i2 (IntKind.i32.wrap (BitVec.ofInt IntKind.i32.bits (IntKind.i32.wrap (i3 * 2 ^ (min (Int.toNat 6) IntKind.i32.bits))) ||| BitVec.ofInt IntKind.i32.bits (IntKind.i32.wrap (IntKind.u8.wrap (BitVec.ofInt IntKind.u8.bits (c3.toNat : Int) &&& BitVec.ofInt IntKind.u8.bits 63).toNat))).toNat) (IntKind.i64.wrap (i4 + 1)))
  else
    k1 i1 i2 i3
def ref01Rune_L1 (R : Nat → List AV → Option Res) (N : Nat) (k0 : Int → Int → Bool → Option Res) (k1 : Int → Int → Int → Option Res) : Nat → List UInt8 → Int → Int → Int → Int → Option Res
  | 0, _, _, _, _, _ => none
  | n + 1, s2, i1, i2, i3, i4 => ref01Rune_L1s R N (ref01Rune_L1 R N k0 k1 n) k0 k1 s2 i1 i2 i3 i4
def ref01Rune_c0 : AC := .seq (.seq (.region [.op (some 55) none (.mv (.t 9)), .op (some 56) none (.mv (.t 6)), .op (some 57) none (.bin .lss (.t 55) (.t 56))]) (.cond (.t 57) (.skip) (.exit 1 [6, 7, 8] []))) (.seq (.block 2 (.seq (.seq (.region [.op (some 60) none (.mv (.t 0)), .op (some 61) none (.mv (.t 9)), .op (some 62) none (.iaddr (.t 60) (.t 61) 1 (.int .u8)), .op (some 63) none (.load (.t 62) none (.int .u8)), .op (some 64) none (.bin .and (.t 63) (.k (AV.int .u8 192))), .op (some 65) none (.bin .neq (.t 64) (.k (AV.int .u8 128)))]) (.cond (.t 65) (.seq (.region [.op (some 2) none (.mv (.k (AV.int .i32 0))), .op (some 3) none (.mv (.k (AV.int .i64 1))), .op (some 4) none (.mv (.k (AV.bool false)))]) (.ret [2, 3, 4] [])) (.skip))) (.region [.op (some 66) none (.mv (.t 8)), .op (some 67) none (.bin .shl (.t 66) (.k (AV.int .u64 6))), .op (some 68) none (.mv (.t 0)), .op (some 69) none (.mv (.t 9)), .op (some 70) none (.iaddr (.t 68) (.t 69) 1 (.int .u8)), .op (some 71) none (.load (.t 70) none (.int .u8)), .op (some 72) none (.bin .and (.t 71) (.k (AV.int .u8 63))), .op (some 73) none (.cvInt .i32 (.t 72)), .op (some 74) none (.bin .or (.t 67) (.t 73)), .op (some 8) none (.mv (.t 74))]))) (.region [.op (some 58) none (.mv (.t 9)), .op (some 59) none (.bin .add (.t 58) (.k (AV.int .i64 1))), .op (some 9) none (.mv (.t 59))]))
theorem ref01Rune_L1s_eq (R : Nat → List AV → Option Res) (N : Nat) (K : Ex → St → Option Res) (W : St → Option Res) (s2 : List UInt8) (i1 : Int) (i2 : Int) (i3 : Int) (i4 : Int) :
    evC gl R N ref01Rune_c0 (Kseq (fun st' => W (prune [0, 6, 7, 8, 9] [] st')) K) ⟨[(0, .imm (AV.bytes s2)), (6, .imm (AV.int .i64 i1)), (7, .imm (AV.int .i32 i2)), (8, .imm (AV.int .i32 i3)), (9, .imm (AV.int .i64 i4))], []⟩ =
    ref01Rune_L1s R N (fun (s2 : List UInt8) (i1 : Int) (i2 : Int) (i3 : Int) (i4 : Int) => W ⟨[(0, .imm (AV.bytes s2)), (6, .imm (AV.int .i64 i1)), (7, .imm (AV.int .i32 i2)), (8, .imm (AV.int .i32 i3)), (9, .imm (AV.int .i64 i4))], []⟩) (fun (i5 : Int) (i6 : Int) (b1 : Bool) => K .ret ⟨[(2, .imm (AV.int .i32 i5)), (3, .imm (AV.int .i64 i6)), (4, .imm (AV.bool b1))], []⟩) (fun (i7 : Int) (i8 : Int) (i9 : Int) => K (.exit 1) ⟨[(6, .imm (AV.int .i64 i7)), (7, .imm (AV.int .i32 i8)), (8, .imm (AV.int .i32 i9))], []⟩) s2 i1 i2 i3 i4 := by
  kernel_rfl
theorem ref01Rune_L1_eq (R : Nat → List AV → Option Res) (N : Nat) (K : Ex → St → Option Res) : ∀ (n : Nat) (s2 : List UInt8) (i1 : Int) (i2 : Int) (i3 : Int) (i4 : Int),
    rounds [0, 6, 7, 8, 9] [] (evC gl R N ref01Rune_c0) K n ⟨[(0, .imm (AV.bytes s2)), (6, .imm (AV.int .i64 i1)), (7, .imm (AV.int .i32 i2)), (8, .imm (AV.int .i32 i3)), (9, .imm (AV.int .i64 i4))], []⟩ = ref01Rune_L1 R N (fun (i5 : Int) (i6 : Int) (b1 : Bool) => K .ret ⟨[(2, .imm (AV.int .i32 i5)), (3, .imm (AV.int .i64 i6)), (4, .imm (AV.bool b1))], []⟩) (fun (i7 : Int) (i8 : Int) (i9 : Int) => K (.exit 1) ⟨[(6, .imm (AV.int .i64 i7)), (7, .imm (AV.int .i32 i8)), (8, .imm (AV.int .i32 i9))], []⟩) n s2 i1 i2 i3 i4
  | 0, _, _, _, _, _ => rfl
  | n + 1, s2, i1, i2, i3, i4 => (ref01Rune_L1s_eq R N K (rounds [0, 6, 7, 8, 9] [] (evC gl R N ref01Rune_c0) K n) s2 i1 i2 i3 i4).trans
      (congrArg (fun go => ref01Rune_L1s R N go (fun (i5 : Int) (i6 : Int) (b1 : Bool) => K .ret ⟨[(2, .imm (AV.int .i32 i5)), (3, .imm (AV.int .i64 i6)), (4, .imm (AV.bool b1))], []⟩) (fun (i7 : Int) (i8 : Int) (i9 : Int) => K (.exit 1) ⟨[(6, .imm (AV.int .i64 i7)), (7, .imm (AV.int .i32 i8)), (8, .imm (AV.int .i32 i9))], []⟩) s2 i1 i2 i3 i4) (funext fun s2 => funext fun i1 => funext fun i2 => funext fun i3 => funext fun i4 => ref01Rune_L1_eq R N K n s2 i1 i2 i3 i4))
def ref01Rune_c1 : AC := .seq (.seq (.region [.op (some 75) none (.mv (.t 8)), .op (some 76) none (.mv (.t 7)), .op (some 77) none (.bin .lss (.t 75) (.t 76)), .op (some 78) none (.mv (.t 77)), .split 78, .op (some 79) (some (78, false)) (.mv (.t 8)), .op (some 80) (some (78, false)) (.bin .gtr (.t 79) (.k (AV.int .i32 1114111))), .op (some 81) none (.pick (.t 78) (.k (AV.bool true)) (.t 80)), .op (some 82) none (.mv (.t 81)), .split 82, .op (some 83) (some (82, false)) (.mv (.t 8)), .op (some 84) (some (82, false)) (.bin .geq (.t 83) (.k (AV.int .i32 55296))), .op (some 85) (some (82, false)) (.mv (.t 84)), .split 85, .op (some 86) (some (85, true)) (.mv (.t 8)), .op (some 87) (some (85, true)) (.bin .leq (.t 86) (.k (AV.int .i32 57343))), .op (some 88) (some (82, false)) (.pick (.t 85) (.t 87) (.k (AV.bool false))), .op (some 89) none (.pick (.t 82) (.k (AV.bool true)) (.t 88))]) (.cond (.t 89) (.seq (.region [.op (some 2) none (.mv (.k (AV.int .i32 0))), .op (some 3) none (.mv (.k (AV.int .i64 1))), .op (some 4) none (.mv (.k (AV.bool false)))]) (.ret [2, 3, 4] [])) (.skip))) (.seq (.region [.op (some 90) none (.mv (.t 8)), .op (some 91) none (.mv (.t 6)), .op (some 2) none (.mv (.t 90)), .op (some 3) none (.mv (.t 91)), .op (some 4) none (.mv (.k (AV.bool true)))]) (.ret [2, 3, 4] []))
def ref01Rune_c2 : AC := .seq (.region [.op (some 2) none (.mv (.k (AV.int .i32 0))), .op (some 3) none (.mv (.k (AV.int .i64 0))), .op (some 4) none (.mv (.k (AV.bool false)))]) (.seq (.seq (.region [.op (some 10) none (.mv (.t 0)), .op (some 11) none (.len (.t 10) false), .op (some 12) none (.bin .eql (.t 11) (.k (AV.int .i64 0)))]) (.cond (.t 12) (.seq (.region [.op (some 2) none (.mv (.k (AV.int .i32 0))), .op (some 3) none (.mv (.k (AV.int .i64 0))), .op (some 4) none (.mv (.k (AV.bool false)))]) (.ret [2, 3, 4] [])) (.skip))) (.seq (.region [.op (some 13) none (.mv (.t 0)), .op (some 14) none (.iaddr (.t 13) (.k (AV.int .i64 0)) 1 (.int .u8)), .op (some 15) none (.load (.t 14) none (.int .u8)), .op (some 5) none (.mv (.t 15))]) (.seq (.region [.op (some 6) none (.mv (.k (AV.int .i64 0))), .op (some 7) none (.mv (.k (AV.int .i32 0)))]) (.seq (.region [.op (some 8) none (.mv (.k (AV.int .i32 0)))]) (.seq (.block 0 (.seq (.region [.op (some 17) none (.mv (.t 5)), .op (some 18) none (.bin .lss (.t 17) (.k (AV.int .u8 128))), .op (some 16) none (.mv (.t 18))]) (.cond (.t 16) (.seq (.region [.op (some 19) none (.mv (.t 5)), .op (some 20) none (.cvInt .i32 (.t 19)), .op (some 2) none (.mv (.t 20)), .op (some 3) none (.mv (.k (AV.int .i64 1))), .op (some 4) none (.mv (.k (AV.bool true)))]) (.ret [2, 3, 4] [])) (.seq (.region [.op (some 22) none (.mv (.t 5)), .op (some 23) none (.bin .geq (.t 22) (.k (AV.int .u8 194))), .op (some 24) none (.mv (.t 23)), .split 24, .op (some 25) (some (24, true)) (.mv (.t 5)), .op (some 26) (some (24, true)) (.bin .leq (.t 25) (.k (AV.int .u8 223))), .op (some 27) none (.pick (.t 24) (.t 26) (.k (AV.bool false))), .op (some 21) none (.mv (.t 27))]) (.cond (.t 21) (.region [.op (some 28) none (.mv (.t 5)), .op (some 29) none (.bin .and (.t 28) (.k (AV.int .u8 31))), .op (some 30) none (.cvInt .i32 (.t 29)), .op (some 6) none (.mv (.k (AV.int .i64 2))), .op (some 7) none (.mv (.k (AV.int .i32 128))), .op (some 8) none (.mv (.t 30))]) (.seq (.region [.op (some 32) none (.mv (.t 5)), .op (some 33) none (.bin .geq (.t 32) (.k (AV.int .u8 224))), .op (some 34) none (.mv (.t 33)), .split 34, .op (some 35) (some (34, true)) (.mv (.t 5)), .op (some 36) (some (34, true)) (.bin .leq (.t 35) (.k (AV.int .u8 239))), .op (some 37) none (.pick (.t 34) (.t 36) (.k (AV.bool false))), .op (some 31) none (.mv (.t 37))]) (.cond (.t 31) (.region [.op (some 38) none (.mv (.t 5)), .op (some 39) none (.bin .and (.t 38) (.k (AV.int .u8 15))), .op (some 40) none (.cvInt .i32 (.t 39)), .op (some 6) none (.mv (.k (AV.int .i64 3))), .op (some 7) none (.mv (.k (AV.int .i32 2048))), .op (some 8) none (.mv (.t 40))]) (.seq (.region [.op (some 42) none (.mv (.t 5)), .op (some 43) none (.bin .geq (.t 42) (.k (AV.int .u8 240))), .op (some 44) none (.mv (.t 43)), .split 44, .op (some 45) (some (44, true)) (.mv (.t 5)), .op (some 46) (some (44, true)) (.bin .leq (.t 45) (.k (AV.int .u8 244))), .op (some 47) none (.pick (.t 44) (.t 46) (.k (AV.bool false))), .op (some 41) none (.mv (.t 47))]) (.cond (.t 41) (.region [.op (some 48) none (.mv (.t 5)), .op (some 49) none (.bin .and (.t 48) (.k (AV.int .u8 7))), .op (some 50) none (.cvInt .i32 (.t 49)), .op (some 6) none (.mv (.k (AV.int .i64 4))), .op (some 7) none (.mv (.k (AV.int .i32 65536))), .op (some 8) none (.mv (.t 50))]) (.seq (.region [.op (some 2) none (.mv (.k (AV.int .i32 0))), .op (some 3) none (.mv (.k (AV.int .i64 1))), .op (some 4) none (.mv (.k (AV.bool false)))]) (.ret [2, 3, 4] []))))))))))) (.seq (.seq (.region [.op (some 51) none (.mv (.t 0)), .op (some 52) none (.len (.t 51) false), .op (some 53) none (.mv (.t 6)), .op (some 54) none (.bin .lss (.t 52) (.t 53))]) (.cond (.t 54) (.seq (.region [.op (some 2) none (.mv (.k (AV.int .i32 0))), .op (some 3) none (.mv (.k (AV.int .i64 1))), .op (some 4) none (.mv (.k (AV.bool false)))]) (.ret [2, 3, 4] [])) (.skip))) (.seq (.seq (.region [.op (some 9) none (.mv (.k (AV.int .i64 1)))]) (.block 1 (.loop [0, 6, 7, 8, 9] [] (ref01Rune_c0)))) (ref01Rune_c1))))))))
def ref01Rune : AFunc := ⟨1, 92, [.tmp 2, .tmp 3, .tmp 4], ref01Rune_c2⟩
def ref01Runer (R : Nat → List AV → Option Res) (N : Nat) (s1 : List UInt8) : Option Res :=
  bif (((s1.length : Nat) : Int) : Int) == 0 then
    (some ⟨AV.tup [AV.int .i32 0, AV.int .i64 0, AV.bool false], false, []⟩)
  else
    need (decide (0 ≤ (0 : Int))) <|
    (s1[Int.toNat 0]?).bind fun c1 =>
    bif decide (((c1.toNat : Int) : Int) < 128) then
    (some ⟨AV.tup [AV.int .i32 (IntKind.i32.wrap (c1.toNat : Int)), AV.int .i64 1, AV.bool true], false, []⟩)
    else
    bif decide (((c1.toNat : Int) : Int) ≥ 194) then
    (bif decide (((c1.toNat : Int) : Int) ≤ 223) then
    (bif decide ((((s1.length : Nat) : Int) : Int) < 2) then
    (some ⟨AV.tup [AV.int .i32 0, AV.int .i64 1, AV.bool false], false, []⟩)
    else
    ref01Rune_L1 R N
      (fun i15 i16 b3 =>
    some ⟨AV.tup [AV.int .i32 i15, AV.int .i64 i16, AV.bool b3], false, []⟩)
      (fun i17 i18 i19 =>
    bif decide ((i19 : Int) < i18) then
    (some ⟨AV.tup [AV.int .i32 0, AV.int .i64 1, AV.bool false], false, []⟩)
    else
    bif decide ((i19 : Int) > 1114111) then
    (some ⟨AV.tup [AV.int .i32 0, AV.int .i64 1, AV.bool false], false, []⟩)
    else
    bif decide ((i19 : Int) ≥ 55296) then
    (bif decide ((i19 : Int) ≤ 57343) then
    (some ⟨AV.tup [AV.int .i32 0, AV.int .i64 1, AV.bool false], false, []⟩)
    else
    some ⟨AV.tup [AV.int .i32 i19, AV.int .i64 i17, AV.bool true], false, []⟩)
    else
    some ⟨AV.tup [AV.int .i32 i19, AV.int .i64 i17, AV.bool true], false, []⟩)
      N s1 2 128 (IntKind.i32.wrap (IntKind.u8.wrap (BitVec.ofInt IntKind.u8.bits (c1.toNat : Int) &&& BitVec.ofInt IntKind.u8.bits 31).toNat)) 1)
    else
    bif decide (((c1.toNat : Int) : Int) ≥ 224) then
    (bif decide (((c1.toNat : Int) : Int) ≤ 239) then
    (bif decide ((((s1.length : Nat) : Int) : Int) < 3) then
    (some ⟨AV.tup [AV.int .i32 0, AV.int .i64 1, AV.bool false], false, []⟩)
    else
    ref01Rune_L1 R N
      (fun i20 i21 b4 =>
    some ⟨AV.tup [AV.int .i32 i20, AV.int .i64 i21, AV.bool b4], false, []⟩)
      (fun i22 i23 i24 =>
    bif decide ((i24 : Int) < i23) then
    (some ⟨AV.tup [AV.int .i32 0, AV.int .i64 1, AV.bool false], false, []⟩)
    else
    bif decide ((i24 : Int) > 1114111) then
    (some ⟨AV.tup [AV.int .i32 0, AV.int .i64 1, AV.bool false], false, []⟩)
    else
    bif decide ((i24 : Int) ≥ 55296) then
    (bif decide ((i24 : Int) ≤ 57343) then
    (some ⟨AV.tup [AV.int .i32 0, AV.int .i64 1, AV.bool false], false, []⟩)
    else
    some ⟨AV.tup [AV.int .i32 i24, AV.int .i64 i22, AV.bool true], false, []⟩)
    else
    some ⟨AV.tup [AV.int .i32 i24, AV.int .i64 i22, AV.bool true], false, []⟩)
      N s1 3 2048 (IntKind.i32.wrap (IntKind.u8.wrap (BitVec.ofInt IntKind.u8.bits (c1.toNat : Int) &&& BitVec.ofInt IntKind.u8.bits 15).toNat)) 1)
    else
    bif decide (((c1.toNat : Int) : Int) ≥ 240) then
    (bif decide (((c1.toNat : Int) : Int) ≤ 244) then
    (bif decide ((((s1.length : Nat) : Int) : Int) < 4) then
    (some ⟨AV.tup [AV.int .i32 0, AV.int .i64 1, AV.bool false], false, []⟩)
    else
    ref01Rune_L1 R N
      (fun i25 i26 b5 =>
    some ⟨AV.tup [AV.int .i32 i25, AV.int .i64 i26, AV.bool b5], false, []⟩)
      (fun i27 i28 i29 =>
    bif decide ((i29 : Int) < i28) then
    (some ⟨AV.tup [AV.int .i32 0, AV.int .i64 1, AV.bool false], false, []⟩)
    else
    bif decide ((i29 : Int) > 1114111) then
    (some ⟨AV.tup [AV.int .i32 0, AV.int .i64 1, AV.bool false], false, []⟩)
    else
    bif decide ((i29 : Int) ≥ 55296) then
    (bif decide ((i29 : Int) ≤ 57343) then
    (some ⟨AV.tup [AV.int .i32 0, AV.int .i64 1, AV.bool false], false, []⟩)
    else
    some ⟨AV.tup [AV.int .i32 i29, AV.int .i64 i27, AV.bool true], false, []⟩)
    else
    some ⟨AV.tup [AV.int .i32 i29, AV.int .i64 i27, AV.bool true], false, []⟩)
      N s1 4 65536 (IntKind.i32.wrap (IntKind.u8.wrap (BitVec.ofInt IntKind.u8.bits (c1.toNat : Int) &&& BitVec.ofInt IntKind.u8.bits 7).toNat)) 1)
    else
    some ⟨AV.tup [AV.int .i32 0, AV.int .i64 1, AV.bool false], false, []⟩)
    else
    some ⟨AV.tup [AV.int .i32 0, AV.int .i64 1, AV.bool false], false, []⟩)
    else
    bif decide (((c1.toNat : Int) : Int) ≥ 240) then
    (bif decide (((c1.toNat : Int) : Int) ≤ 244) then
    (bif decide ((((s1.length : Nat) : Int) : Int) < 4) then
    (some ⟨AV.tup [AV.int .i32 0, AV.int .i64 1, AV.bool false], false, []⟩)
    else
    ref01Rune_L1 R N
      (fun i30 i31 b6 =>
    some ⟨AV.tup [AV.int .i32 i30, AV.int .i64 i31, AV.bool b6], false, []⟩)
      (fun i32 i33 i34 =>
    bif decide ((i34 : Int) < i33) then
    (some ⟨AV.tup [AV.int .i32 0, AV.int .i64 1, AV.bool false], false, []⟩)
    else
    bif decide ((i34 : Int) > 1114111) then
    (some ⟨AV.tup [AV.int .i32 0, AV.int .i64 1, AV.bool false], false, []⟩)
    else
    bif decide ((i34 : Int) ≥ 55296) then
    (bif decide ((i34 : Int) ≤ 57343) then
    (some ⟨AV.tup [AV.int .i32 0, AV.int .i64 1, AV.bool false], false, []⟩)
    else
    some ⟨AV.tup [AV.int .i32 i34, AV.int .i64 i32, AV.bool true], false, []⟩)
    else
    some ⟨AV.tup [AV.int .i32 i34, AV.int .i64 i32, AV.bool true], false, []⟩)
      N s1 4 65536 (IntKind.i32.wrap (IntKind.u8.wrap (BitVec.ofInt IntKind.u8.bits (c1.toNat : Int) &&& BitVec.ofInt IntKind.u8.bits 7).toNat)) 1)
    else
    some ⟨AV.tup [AV.int .i32 0, AV.int .i64 1, AV.bool false], false, []⟩)
    else
    some ⟨AV.tup [AV.int .i32 0, AV.int .i64 1, AV.bool false], false, []⟩)
    else
    bif decide (((c1.toNat : Int) : Int) ≥ 224) then
    (bif decide (((c1.toNat : Int) : Int) ≤ 239) then
    (bif decide ((((s1.length : Nat) : Int) : Int) < 3) then
    (some ⟨AV.tup [AV.int .i32 0, AV.int .i64 1, AV.bool false], false, []⟩)
    else
    ref01Rune_L1 R N
      (fun i35 i36 b7 =>
    some ⟨AV.tup [AV.int .i32 i35, AV.int .i64 i36, AV.bool b7], false, []⟩)
      (fun i37 i38 i39 =>
    bif decide ((i39 : Int) < i38) then
    (some ⟨AV.tup [AV.int .i32 0, AV.int .i64 1, AV.bool false], false, []⟩)
    else
    bif decide ((i39 : Int) > 1114111) then
    (some ⟨AV.tup [AV.int .i32 0, AV.int .i64 1, AV.bool false], false, []⟩)
    else
    bif decide ((i39 : Int) ≥ 55296) then
    (bif decide ((i39 : Int) ≤ 57343) then
    (some ⟨AV.tup [AV.int .i32 0, AV.int .i64 1, AV.bool false], false, []⟩)
    else
    some ⟨AV.tup [AV.int .i32 i39, AV.int .i64 i37, AV.bool true], false, []⟩)
    else
    some ⟨AV.tup [AV.int .i32 i39, AV.int .i64 i37, AV.bool true], false, []⟩)
      N s1 3 2048 (IntKind.i32.wrap (IntKind.u8.wrap (BitVec.ofInt IntKind.u8.bits (c1.toNat : Int) &&& BitVec.ofInt IntKind.u8.bits 15).toNat)) 1)
    else
    bif decide (((c1.toNat : Int) : Int) ≥ 240) then
    (bif decide (((c1.toNat : Int) : Int) ≤ 244) then
    (bif decide ((((s1.length : Nat) : Int) : Int) < 4) then
    (some ⟨AV.tup [AV.int .i32 0, AV.int .i64 1, AV.bool false], false, []⟩)
    else
    ref01Rune_L1 R N
      (fun i40 i41 b8 =>
    some ⟨AV.tup [AV.int .i32 i40, AV.int .i64 i41, AV.bool b8], false, []⟩)
      (fun i42 i43 i44 =>
    bif decide ((i44 : Int) < i43) then
    (some ⟨AV.tup [AV.int .i32 0, AV.int .i64 1, AV.bool false], false, []⟩)
    else
    bif decide ((i44 : Int) > 1114111) then
    (some ⟨AV.tup [AV.int .i32 0, AV.int .i64 1, AV.bool false], false, []⟩)
    else
    bif decide ((i44 : Int) ≥ 55296) then
    (bif decide ((i44 : Int) ≤ 57343) then
    (some ⟨AV.tup [AV.int .i32 0, AV.int .i64 1, AV.bool false], false, []⟩)
    else
    some ⟨AV.tup [AV.int .i32 i44, AV.int .i64 i42, AV.bool true], false, []⟩)
    else
    some ⟨AV.tup [AV.int .i32 i44, AV.int .i64 i42, AV.bool true], false, []⟩)
      N s1 4 65536 (IntKind.i32.wrap (IntKind.u8.wrap (BitVec.ofInt IntKind.u8.bits (c1.toNat : Int) &&& BitVec.ofInt IntKind.u8.bits 7).toNat)) 1)
    else
    some ⟨AV.tup [AV.int .i32 0, AV.int .i64 1, AV.bool false], false, []⟩)
    else
    some ⟨AV.tup [AV.int .i32 0, AV.int .i64 1, AV.bool false], false, []⟩)
    else
    bif decide (((c1.toNat : Int) : Int) ≥ 240) then
    (bif decide (((c1.toNat : Int) : Int) ≤ 244) then
    (bif decide ((((s1.length : Nat) : Int) : Int) < 4) then
    (some ⟨AV.tup [AV.int .i32 0, AV.int .i64 1, AV.bool false], false, []⟩)
    else
    ref01Rune_L1 R N
      (fun i45 i46 b9 =>
    some ⟨AV.tup [AV.int .i32 i45, AV.int .i64 i46, AV.bool b9], false, []⟩)
      (fun i47 i48 i49 =>
    bif decide ((i49 : Int) < i48) then
    (some ⟨AV.tup [AV.int .i32 0, AV.int .i64 1, AV.bool false], false, []⟩)
    else
    bif decide ((i49 : Int) > 1114111) then
    (some ⟨AV.tup [AV.int .i32 0, AV.int .i64 1, AV.bool false], false, []⟩)
    else
    bif decide ((i49 : Int) ≥ 55296) then
    (bif decide ((i49 : Int) ≤ 57343) then
    (some ⟨AV.tup [AV.int .i32 0, AV.int .i64 1, AV.bool false], false, []⟩)
    else
    some ⟨AV.tup [AV.int .i32 i49, AV.int .i64 i47, AV.bool true], false, []⟩)
    else
    some ⟨AV.tup [AV.int .i32 i49, AV.int .i64 i47, AV.bool true], false, []⟩)
      N s1 4 65536 (IntKind.i32.wrap (IntKind.u8.wrap (BitVec.ofInt IntKind.u8.bits (c1.toNat : Int) &&& BitVec.ofInt IntKind.u8.bits 7).toNat)) 1)
    else
    some ⟨AV.tup [AV.int .i32 0, AV.int .i64 1, AV.bool false], false, []⟩)
    else
    some ⟨AV.tup [AV.int .i32 0, AV.int .i64 1, AV.bool false], false, []⟩
theorem ref01Rune_eq (R : Nat → List AV → Option Res) (N : Nat) (s1 : List UInt8) : runF gl R N ref01Rune [AV.bytes s1] = ref01Runer R N s1 := by
  refine Eq.trans (b :=
    bif (((s1.length : Nat) : Int) : Int) == 0 then
    (some ⟨AV.tup [AV.int .i32 0, AV.int .i64 0, AV.bool false], false, []⟩)
    else
    need (decide (0 ≤ (0 : Int))) <|
    (s1[Int.toNat 0]?).bind fun c1 =>
    bif decide (((c1.toNat : Int) : Int) < 128) then
    (some ⟨AV.tup [AV.int .i32 (IntKind.i32.wrap (c1.toNat : Int)), AV.int .i64 1, AV.bool true], false, []⟩)
    else
    bif decide (((c1.toNat : Int) : Int) ≥ 194) then
    (bif decide (((c1.toNat : Int) : Int) ≤ 223) then
    (bif decide ((((s1.length : Nat) : Int) : Int) < 2) then
    (some ⟨AV.tup [AV.int .i32 0, AV.int .i64 1, AV.bool false], false, []⟩)
    else
    rounds [0, 6, 7, 8, 9] [] (evC gl R N ref01Rune_c0) (Kblock 1 (Kthen gl R N ref01Rune_c1 (Kret ref01Rune.rets []))) N ⟨[(0, .imm (AV.bytes s1)), (6, .imm (AV.int .i64 2)), (7, .imm (AV.int .i32 128)), (8, .imm (AV.int .i32 (IntKind.i32.wrap (IntKind.u8.wrap (BitVec.ofInt IntKind.u8.bits (c1.toNat : Int) &&& BitVec.ofInt IntKind.u8.bits 31).toNat)))), (9, .imm (AV.int .i64 1))], []⟩)
    else
    bif decide (((c1.toNat : Int) : Int) ≥ 224) then
    (bif decide (((c1.toNat : Int) : Int) ≤ 239) then
    (bif decide ((((s1.length : Nat) : Int) : Int) < 3) then
    (some ⟨AV.tup [AV.int .i32 0, AV.int .i64 1, AV.bool false], false, []⟩)
    else
    rounds [0, 6, 7, 8, 9] [] (evC gl R N ref01Rune_c0) (Kblock 1 (Kthen gl R N ref01Rune_c1 (Kret ref01Rune.rets []))) N ⟨[(0, .imm (AV.bytes s1)), (6, .imm (AV.int .i64 3)), (7, .imm (AV.int .i32 2048)), (8, .imm (AV.int .i32 (IntKind.i32.wrap (IntKind.u8.wrap (BitVec.ofInt IntKind.u8.bits (c1.toNat : Int) &&& BitVec.ofInt IntKind.u8.bits 15).toNat)))), (9, .imm (AV.int .i64 1))], []⟩)
    else
    bif decide (((c1.toNat : Int) : Int) ≥ 240) then
    (bif decide (((c1.toNat : Int) : Int) ≤ 244) then
    (bif decide ((((s1.length : Nat) : Int) : Int) < 4) then
    (some ⟨AV.tup [AV.int .i32 0, AV.int .i64 1, AV.bool false], false, []⟩)
    else
    rounds [0, 6, 7, 8, 9] [] (evC gl R N ref01Rune_c0) (Kblock 1 (Kthen gl R N ref01Rune_c1 (Kret ref01Rune.rets []))) N ⟨[(0, .imm (AV.bytes s1)), (6, .imm (AV.int .i64 4)), (7, .imm (AV.int .i32 65536)), (8, .imm (AV.int .i32 (IntKind.i32.wrap (IntKind.u8.wrap (BitVec.ofInt IntKind.u8.bits (c1.toNat : Int) &&& BitVec.ofInt IntKind.u8.bits 7).toNat)))), (9, .imm (AV.int .i64 1))], []⟩)
    else
    some ⟨AV.tup [AV.int .i32 0, AV.int .i64 1, AV.bool false], false, []⟩)
    else
    some ⟨AV.tup [AV.int .i32 0, AV.int .i64 1, AV.bool false], false, []⟩)
    else
    bif decide (((c1.toNat : Int) : Int) ≥ 240) then
    (bif decide (((c1.toNat : Int) : Int) ≤ 244) then
    (bif decide ((((s1.length : Nat) : Int) : Int) < 4) then
    (some ⟨AV.tup [AV.int .i32 0, AV.int .i64 1, AV.bool false], false, []⟩)
    else
    rounds [0, 6, 7, 8, 9] [] (evC gl R N ref01Rune_c0) (Kblock 1 (Kthen gl R N ref01Rune_c1 (Kret ref01Rune.rets []))) N ⟨[(0, .imm (AV.bytes s1)), (6, .imm (AV.int .i64 4)), (7, .imm (AV.int .i32 65536)), (8, .imm (AV.int .i32 (IntKind.i32.wrap (IntKind.u8.wrap (BitVec.ofInt IntKind.u8.bits (c1.toNat : Int) &&& BitVec.ofInt IntKind.u8.bits 7).toNat)))), (9, .imm (AV.int .i64 1))], []⟩)
    else
    some ⟨AV.tup [AV.int .i32 0, AV.int .i64 1, AV.bool false], false, []⟩)
    else
    some ⟨AV.tup [AV.int .i32 0, AV.int .i64 1, AV.bool false], false, []⟩)
    else
    bif decide (((c1.toNat : Int) : Int) ≥ 224) then
    (bif decide (((c1.toNat : Int) : Int) ≤ 239) then
    (bif decide ((((s1.length : Nat) : Int) : Int) < 3) then
    (some ⟨AV.tup [AV.int .i32 0, AV.int .i64 1, AV.bool false], false, []⟩)
    else
    rounds [0, 6, 7, 8, 9] [] (evC gl R N ref01Rune_c0) (Kblock 1 (Kthen gl R N ref01Rune_c1 (Kret ref01Rune.rets []))) N ⟨[(0, .imm (AV.bytes s1)), (6, .imm (AV.int .i64 3)), (7, .imm (AV.int .i32 2048)), (8, .imm (AV.int .i32 (IntKind.i32.wrap (IntKind.u8.wrap (BitVec.ofInt IntKind.u8.bits (c1.toNat : Int) &&& BitVec.ofInt IntKind.u8.bits 15).toNat)))), (9, .imm (AV.int .i64 1))], []⟩)
    else
    bif decide (((c1.toNat : Int) : Int) ≥ 240) then
    (bif decide (((c1.toNat : Int) : Int) ≤ 244) then
    (bif decide ((((s1.length : Nat) : Int) : Int) < 4) then
    (some ⟨AV.tup [AV.int .i32 0, AV.int .i64 1, AV.bool false], false, []⟩)
    else
    rounds [0, 6, 7, 8, 9] [] (evC gl R N ref01Rune_c0) (Kblock 1 (Kthen gl R N ref01Rune_c1 (Kret ref01Rune.rets []))) N ⟨[(0, .imm (AV.bytes s1)), (6, .imm (AV.int .i64 4)), (7, .imm (AV.int .i32 65536)), (8, .imm (AV.int .i32 (IntKind.i32.wrap (IntKind.u8.wrap (BitVec.ofInt IntKind.u8.bits (c1.toNat : Int) &&& BitVec.ofInt IntKind.u8.bits 7).toNat)))), (9, .imm (AV.int .i64 1))], []⟩)
    else
    some ⟨AV.tup [AV.int .i32 0, AV.int .i64 1, AV.bool false], false, []⟩)
    else
    some ⟨AV.tup [AV.int .i32 0, AV.int .i64 1, AV.bool false], false, []⟩)
    else
    bif decide (((c1.toNat : Int) : Int) ≥ 240) then
    (bif decide (((c1.toNat : Int) : Int) ≤ 244) then
    (bif decide ((((s1.length : Nat) : Int) : Int) < 4) then
    (some ⟨AV.tup [AV.int .i32 0, AV.int .i64 1, AV.bool false], false, []⟩)
    else
    rounds [0, 6, 7, 8, 9] [] (evC gl R N ref01Rune_c0) (Kblock 1 (Kthen gl R N ref01Rune_c1 (Kret ref01Rune.rets []))) N ⟨[(0, .imm (AV.bytes s1)), (6, .imm (AV.int .i64 4)), (7, .imm (AV.int .i32 65536)), (8, .imm (AV.int .i32 (IntKind.i32.wrap (IntKind.u8.wrap (BitVec.ofInt IntKind.u8.bits (c1.toNat : Int) &&& BitVec.ofInt IntKind.u8.bits 7).toNat)))), (9, .imm (AV.int .i64 1))], []⟩)
    else
    some ⟨AV.tup [AV.int .i32 0, AV.int .i64 1, AV.bool false], false, []⟩)
    else
    some ⟨AV.tup [AV.int .i32 0, AV.int .i64 1, AV.bool false], false, []⟩) (by kernel_rfl) ?_
  simp (config := { maxSteps := 100000000 }) only [ref01Rune_L1_eq]
  kernel_rfl
theorem ref01Rune_fit : fitF Tryd.prog ref01Rune Tryd.f29 = true := by
  kernel_rfl

def ref01Escape_L1s (R : Nat → List AV → Option Res) (N : Nat) (go : Int → List UInt8 → List AV → Int → Option Res) (k0 : Int → Option Res) (k1 : Option Res) (i2 : Int) (s1 : List UInt8) (l1 : List AV) (i3 : Int) : Option Res :=
  bif decide ((i3 : Int) < ((s1.length : Nat) : Int)) then
    (need (decide (0 ≤ (i3 : Int))) <|
    (s1[Int.toNat i3]?).bind fun c1 =>
    bif ((c1.toNat : Int) : Int) == i2 then
    (need (decide (0 ≤ (i3 : Int))) <|
    (l1[Int.toNat i3]?).bind fun e1 =>
    asI .i32 e1 fun i4 =>
    k0 i4)
    else
    go i2 s1 l1 (IntKind.i64.wrap (i3 + 1)))
  else
    k1
def ref01Escape_L1 (R : Nat → List AV → Option Res) (N : Nat) (k0 : Int → Option Res) (k1 : Option Res) : Nat → Int → List UInt8 → List AV → Int → Option Res
  | 0, _, _, _, _ => none
  | n + 1, i2, s1, l1, i3 => ref01Escape_L1s R N (ref01Escape_L1 R N k0 k1 n) k0 k1 i2 s1 l1 i3
def ref01Escape_c0 : AC := .seq (.seq (.region [.op (some 7) none (.mv (.t 5)), .op (some 8) none (.mv (.t 3)), .op (some 9) none (.len (.t 8) true), .op (some 10) none (.bin .lss (.t 7) (.t 9))]) (.cond (.t 10) (.skip) (.exit 0 [] []))) (.seq (.block 1 (.seq (.region [.op (some 13) none (.mv (.t 3)), .op (some 14) none (.mv (.t 5)), .op (some 15) none (.index (.t 13) (.t 14)), .op (some 16) none (.mv (.t 0)), .op (some 17) none (.bin .eql (.t 15) (.t 16))]) (.cond (.t 17) (.seq (.region [.op (some 18) none (.mv (.t 4)), .op (some 19) none (.mv (.t 5)), .op (some 20) none (.iaddr (.t 18) (.t 19) 1 (.int .i32)), .op (some 21) none (.load (.t 20) none (.int .i32)), .op (some 2) none (.mv (.t 21))]) (.ret [2] [])) (.skip)))) (.region [.op (some 11) none (.mv (.t 5)), .op (some 12) none (.bin .add (.t 11) (.k (AV.int .i64 1))), .op (some 5) none (.mv (.t 12))]))
theorem ref01Escape_L1s_eq (R : Nat → List AV → Option Res) (N : Nat) (K : Ex → St → Option Res) (W : St → Option Res) (i2 : Int) (s1 : List UInt8) (l1 : List AV) (i3 : Int) :
    evC gl R N ref01Escape_c0 (Kseq (fun st' => W (prune [0, 3, 4, 5] [] st')) K) ⟨[(0, .imm (AV.int .u8 i2)), (3, .imm (AV.str s1)), (4, .imm (AV.row 1 l1)), (5, .imm (AV.int .i64 i3))], []⟩ =
    ref01Escape_L1s R N (fun (i2 : Int) (s1 : List UInt8) (l1 : List AV) (i3 : Int) => W ⟨[(0, .imm (AV.int .u8 i2)), (3, .imm (AV.str s1)), (4, .imm (AV.row 1 l1)), (5, .imm (AV.int .i64 i3))], []⟩) (fun (i5 : Int) => K .ret ⟨[(2, .imm (AV.int .i32 i5))], []⟩) (K (.exit 0) ⟨[], []⟩) i2 s1 l1 i3 := by
  kernel_rfl
theorem ref01Escape_L1_eq (R : Nat → List AV → Option Res) (N : Nat) (K : Ex → St → Option Res) : ∀ (n : Nat) (i2 : Int) (s1 : List UInt8) (l1 : List AV) (i3 : Int),
    rounds [0, 3, 4, 5] [] (evC gl R N ref01Escape_c0) K n ⟨[(0, .imm (AV.int .u8 i2)), (3, .imm (AV.str s1)), (4, .imm (AV.row 1 l1)), (5, .imm (AV.int .i64 i3))], []⟩ = ref01Escape_L1 R N (fun (i5 : Int) => K .ret ⟨[(2, .imm (AV.int .i32 i5))], []⟩) (K (.exit 0) ⟨[], []⟩) n i2 s1 l1 i3
  | 0, _, _, _, _ => rfl
  | n + 1, i2, s1, l1, i3 => (ref01Escape_L1s_eq R N K (rounds [0, 3, 4, 5] [] (evC gl R N ref01Escape_c0) K n) i2 s1 l1 i3).trans
      (congrArg (fun go => ref01Escape_L1s R N go (fun (i5 : Int) => K .ret ⟨[(2, .imm (AV.int .i32 i5))], []⟩) (K (.exit 0) ⟨[], []⟩) i2 s1 l1 i3) (funext fun i2 => funext fun s1 => funext fun l1 => funext fun i3 => ref01Escape_L1_eq R N K n i2 s1 l1 i3))
def ref01Escape_c1 : AC := .seq (.region [.op (some 2) none (.mv (.k (AV.int .i32 (-1))))]) (.ret [2] [])
def ref01Escape_c2 : AC := .seq (.region [.op (some 2) none (.mv (.k (AV.int .i32 0)))]) (.seq (.region [.op (some 3) none (.mv (.k (AV.str ([48, 97, 98, 116, 110, 118, 102, 114, 101, 34, 47, 92, 32, 78, 95, 76, 80] : List UInt8))))]) (.seq (.region [.op (some 6) none (.bslice [.k (AV.int .i32 0), .k (AV.int .i32 7), .k (AV.int .i32 8), .k (AV.int .i32 9), .k (AV.int .i32 10), .k (AV.int .i32 11), .k (AV.int .i32 12), .k (AV.int .i32 13), .k (AV.int .i32 27), .k (AV.int .i32 34), .k (AV.int .i32 47), .k (AV.int .i32 92), .k (AV.int .i32 32), .k (AV.int .i32 133), .k (AV.int .i32 160), .k (AV.int .i32 8232), .k (AV.int .i32 8233)] 1 false), .op (some 4) none (.mv (.t 6))]) (.seq (.seq (.region [.op (some 5) none (.mv (.k (AV.int .i64 0)))]) (.block 0 (.loop [0, 3, 4, 5] [] (ref01Escape_c0)))) (ref01Escape_c1))))
def ref01Escape : AFunc := ⟨1, 22, [.tmp 2], ref01Escape_c2⟩
def ref01Escaper (R : Nat → List AV → Option Res) (N : Nat) (i1 : Int) : Option Res :=
  ref01Escape_L1 R N
    (fun i7 =>
    some ⟨AV.int .i32 i7, false, []⟩)
    (
    some ⟨AV.int .i32 (-1), false, []⟩)
    N i1 ([48, 97, 98, 116, 110, 118, 102, 114, 101, 34, 47, 92, 32, 78, 95, 76, 80] : List UInt8) [AV.int .i32 0, AV.int .i32 7, AV.int .i32 8, AV.int .i32 9, AV.int .i32 10, AV.int .i32 11, AV.int .i32 12, AV.int .i32 13, AV.int .i32 27, AV.int .i32 34, AV.int .i32 47, AV.int .i32 92, AV.int .i32 32, AV.int .i32 133, AV.int .i32 160, AV.int .i32 8232, AV.int .i32 8233] 0
theorem ref01Escape_eq (R : Nat → List AV → Option Res) (N : Nat) (i1 : Int) : runF gl R N ref01Escape [AV.int .u8 i1] = ref01Escaper R N i1 := by
  refine Eq.trans (b :=
    rounds [0, 3, 4, 5] [] (evC gl R N ref01Escape_c0) (Kblock 0 (Kthen gl R N ref01Escape_c1 (Kret ref01Escape.rets []))) N ⟨[(0, .imm (AV.int .u8 i1)), (3, .imm (AV.str ([48, 97, 98, 116, 110, 118, 102, 114, 101, 34, 47, 92, 32, 78, 95, 76, 80] : List UInt8))), (4, .imm (AV.row 1 [AV.int .i32 0, AV.int .i32 7, AV.int .i32 8, AV.int .i32 9, AV.int .i32 10, AV.int .i32 11, AV.int .i32 12, AV.int .i32 13, AV.int .i32 27, AV.int .i32 34, AV.int .i32 47, AV.int .i32 92, AV.int .i32 32, AV.int .i32 133, AV.int .i32 160, AV.int .i32 8232, AV.int .i32 8233])), (5, .imm (AV.int .i64 0))], []⟩) (by kernel_rfl) ?_
  simp (config := { maxSteps := 100000000 }) only [ref01Escape_L1_eq]
  kernel_rfl
theorem ref01Escape_fit : fitF Tryd.prog ref01Escape Tryd.f30 = true := by
  kernel_rfl

def ref01Printable_c0 : AC := .seq (.region [.op (some 2) none (.mv (.k (AV.bool false)))]) (.seq (.block 0 (.seq (.region [.op (some 4) none (.mv (.t 0)), .op (some 5) none (.bin .eql (.t 4) (.k (AV.int .i32 9))), .op (some 6) none (.mv (.t 5)), .split 6, .op (some 7) (some (6, false)) (.mv (.t 0)), .op (some 8) (some (6, false)) (.bin .eql (.t 7) (.k (AV.int .i32 10))), .op (some 9) none (.pick (.t 6) (.k (AV.bool true)) (.t 8)), .op (some 10) none (.mv (.t 9)), .split 10, .op (some 11) (some (10, false)) (.mv (.t 0)), .op (some 12) (some (10, false)) (.bin .eql (.t 11) (.k (AV.int .i32 13))), .op (some 13) none (.pick (.t 10) (.k (AV.bool true)) (.t 12)), .op (some 14) none (.mv (.t 13)), .split 14, .op (some 15) (some (14, false)) (.mv (.t 0)), .op (some 16) (some (14, false)) (.bin .eql (.t 15) (.k (AV.int .i32 133))), .op (some 17) none (.pick (.t 14) (.k (AV.bool true)) (.t 16)), .op (some 3) none (.mv (.t 17))]) (.cond (.t 3) (.seq (.region [.op (some 2) none (.mv (.k (AV.bool true)))]) (.ret [2] [])) (.seq (.region [.op (some 19) none (.mv (.t 0)), .op (some 20) none (.bin .lss (.t 19) (.k (AV.int .i32 32))), .op (some 21) none (.mv (.t 20)), .split 21, .op (some 22) (some (21, false)) (.mv (.t 0)), .op (some 23) (some (21, false)) (.bin .geq (.t 22) (.k (AV.int .i32 127))), .op (some 24) (some (21, false)) (.mv (.t 23)), .split 24, .op (some 25) (some (24, true)) (.mv (.t 0)), .op (some 26) (some (24, true)) (.bin .leq (.t 25) (.k (AV.int .i32 159))), .op (some 27) (some (21, false)) (.pick (.t 24) (.t 26) (.k (AV.bool false))), .op (some 28) none (.pick (.t 21) (.k (AV.bool true)) (.t 27)), .op (some 29) none (.mv (.t 28)), .split 29, .op (some 30) (some (29, false)) (.mv (.t 0)), .op (some 31) (some (29, false)) (.bin .geq (.t 30) (.k (AV.int .i32 55296))), .op (some 32) (some (29, false)) (.mv (.t 31)), .split 32, .op (some 33) (some (32, true)) (.mv (.t 0)), .op (some 34) (some (32, true)) (.bin .leq (.t 33) (.k (AV.int .i32 57343))), .op (some 35) (some (29, false)) (.pick (.t 32) (.t 34) (.k (AV.bool false))), .op (some 36) none (.pick (.t 29) (.k (AV.bool true)) (.t 35)), .op (some 37) none (.mv (.t 36)), .split 37, .op (some 38) (some (37, false)) (.mv (.t 0)), .op (some 39) (some (37, false)) (.bin .eql (.t 38) (.k (AV.int .i32 65279))), .op (some 40) none (.pick (.t 37) (.k (AV.bool true)) (.t 39)), .op (some 41) none (.mv (.t 40)), .split 41, .op (some 42) (some (41, false)) (.mv (.t 0)), .op (some 43) (some (41, false)) (.bin .eql (.t 42) (.k (AV.int .i32 65534))), .op (some 44) none (.pick (.t 41) (.k (AV.bool true)) (.t 43)), .op (some 45) none (.mv (.t 44)), .split 45, .op (some 46) (some (45, false)) (.mv (.t 0)), .op (some 47) (some (45, false)) (.bin .eql (.t 46) (.k (AV.int .i32 65535))), .op (some 48) none (.pick (.t 45) (.k (AV.bool true)) (.t 47)), .op (some 49) none (.mv (.t 48)), .split 49, .op (some 50) (some (49, false)) (.mv (.t 0)), .op (some 51) (some (49, false)) (.bin .gtr (.t 50) (.k (AV.int .i32 1114111))), .op (some 52) none (.pick (.t 49) (.k (AV.bool true)) (.t 51)), .op (some 18) none (.mv (.t 52))]) (.cond (.t 18) (.seq (.region [.op (some 2) none (.mv (.k (AV.bool false)))]) (.ret [2] [])) (.skip)))))) (.seq (.region [.op (some 2) none (.mv (.k (AV.bool true)))]) (.ret [2] [])))
def ref01Printable : AFunc := ⟨1, 53, [.tmp 2], ref01Printable_c0⟩
def ref01Printabler (R : Nat → List AV → Option Res) (N : Nat) (i1 : Int) : Option Res :=
  bif (i1 : Int) == 9 then
    (some ⟨AV.bool true, false, []⟩)
  else
    bif (i1 : Int) == 10 then
    (some ⟨AV.bool true, false, []⟩)
    else
    bif (i1 : Int) == 13 then
    (some ⟨AV.bool true, false, []⟩)
    else
    bif (i1 : Int) == 133 then
    (some ⟨AV.bool true, false, []⟩)
    else
    bif decide ((i1 : Int) < 32) then
    (some ⟨AV.bool false, false, []⟩)
    else
    bif decide ((i1 : Int) ≥ 127) then
    (bif decide ((i1 : Int) ≤ 159) then
    (some ⟨AV.bool false, false, []⟩)
    else
    bif decide ((i1 : Int) ≥ 55296) then
    (bif decide ((i1 : Int) ≤ 57343) then
    (some ⟨AV.bool false, false, []⟩)
    else
    bif (i1 : Int) == 65279 then
    (some ⟨AV.bool false, false, []⟩)
    else
    bif (i1 : Int) == 65534 then
    (some ⟨AV.bool false, false, []⟩)
    else
    bif (i1 : Int) == 65535 then
    (some ⟨AV.bool false, false, []⟩)
    else
    bif decide ((i1 : Int) > 1114111) then
    (some ⟨AV.bool false, false, []⟩)
    else
    some ⟨AV.bool true, false, []⟩)
    else
    bif (i1 : Int) == 65279 then
    (some ⟨AV.bool false, false, []⟩)
    else
    bif (i1 : Int) == 65534 then
    (some ⟨AV.bool false, false, []⟩)
    else
    bif (i1 : Int) == 65535 then
    (some ⟨AV.bool false, false, []⟩)
    else
    bif decide ((i1 : Int) > 1114111) then
    (some ⟨AV.bool false, false, []⟩)
    else
    some ⟨AV.bool true, false, []⟩)
    else
    bif decide ((i1 : Int) ≥ 55296) then
    (bif decide ((i1 : Int) ≤ 57343) then
    (some ⟨AV.bool false, false, []⟩)
    else
    bif (i1 : Int) == 65279 then
    (some ⟨AV.bool false, false, []⟩)
    else
    bif (i1 : Int) == 65534 then
    (some ⟨AV.bool false, false, []⟩)
    else
    bif (i1 : Int) == 65535 then
    (some ⟨AV.bool false, false, []⟩)
    else
    bif decide ((i1 : Int) > 1114111) then
    (some ⟨AV.bool false, false, []⟩)
    else
    some ⟨AV.bool true, false, []⟩)
    else
    bif (i1 : Int) == 65279 then
    (some ⟨AV.bool false, false, []⟩)
    else
    bif (i1 : Int) == 65534 then
    (some ⟨AV.bool false, false, []⟩)
    else
    bif (i1 : Int) == 65535 then
    (some ⟨AV.bool false, false, []⟩)
    else
    bif decide ((i1 : Int) > 1114111) then
    (some ⟨AV.bool false, false, []⟩)
    else
    some ⟨AV.bool true, false, []⟩
theorem ref01Printable_eq (R : Nat → List AV → Option Res) (N : Nat) (i1 : Int) : runF gl R N ref01Printable [AV.int .i32 i1] = ref01Printabler R N i1 := by
  kernel_rfl
theorem ref01Printable_fit : fitF Tryd.prog ref01Printable Tryd.f31 = true := by
  kernel_rfl

def ref01Hex_L1s (R : Nat → List AV → Option Res) (N : Nat) (go : Int → Int → List UInt8 → Option Res) (k0 : List UInt8 → Option Res) (i3 : Int) (i4 : Int) (s1 : List UInt8) : Option Res :=
  bif decide ((i4 : Int) ≥ 0) then
    (need (!decide ((IntKind.u64.wrap (IntKind.i64.wrap (4 * i4))) < 0)) <|
    need (decide (0 ≤ (IntKind.u32.wrap (BitVec.ofInt IntKind.u32.bits (Int.fdiv i3 (2 ^ (min (Int.toNat (IntKind.u64.wrap (IntKind.i64.wrap (4 * i4)))) IntKind.u32.bits))) &&& BitVec.ofInt IntKind.u32.bits 15).toNat : Int))) <|
    ((([48, 49, 50, 51, 52, 53, 54, 55, 56, 57, 65, 66, 67, 68, 69, 70] : List UInt8) : List UInt8)[Int.toNat (IntKind.u32.wrap (BitVec.ofInt IntKind.u32.bits (Int.fdiv i3 (2 ^ (min (Int.toNat (IntKind.u64.wrap (IntKind.i64.wrap (4 * i4)))) IntKind.u32.bits))) &&& BitVec.ofInt IntKind.u32.bits 15).toNat)]?).bind fun c1 =>
    need (decide (0 ≤ ((c1.toNat : Int) : Int)) && decide (((c1.toNat : Int) : Int) < 256)) <|
    need (decide (((s1.drop 0).take s1.length).length + ([UInt8.ofNat (Int.toNat (c1.toNat : Int))] : List UInt8).length ≤ 1099511627776)) <|
    go i3 (IntKind.i64.wrap (i4 - 1)) (((s1.drop 0).take s1.length) ++ [UInt8.ofNat (Int.toNat (c1.toNat : Int))]))
  else
    k0 s1
def ref01Hex_L1 (R : Nat → List AV → Option Res) (N : Nat) (k0 : List UInt8 → Option Res) : Nat → Int → Int → List UInt8 → Option Res
  | 0, _, _, _ => none
  | n + 1, i3, i4, s1 => ref01Hex_L1s R N (ref01Hex_L1 R N k0 n) k0 i3 i4 s1
def ref01Hex_c0 : AC := .seq (.seq (.region [.op (some 15) none (.mv (.t 6)), .op (some 16) none (.bin .geq (.t 15) (.k (AV.int .i64 0)))]) (.cond (.t 16) (.skip) (.exit 0 [5] [5]))) (.seq (.block 1 (.region [.op (some 19) none (.mv (.t 5)), .op (some 20) none (.mv (.t 0)), .op (some 21) none (.mv (.t 6)), .op (some 22) none (.bin .mul (.k (AV.int .i64 4)) (.t 21)), .op (some 23) none (.cvInt .u64 (.t 22)), .op (some 24) none (.bin .shr (.t 20) (.t 23)), .op (some 25) none (.bin .and (.t 24) (.k (AV.int .u32 15))), .op (some 26) none (.index (.k (AV.str ([48, 49, 50, 51, 52, 53, 54, 55, 56, 57, 65, 66, 67, 68, 69, 70] : List UInt8))) (.t 25)), .op (some 27) none (.bslice [.t 26] 1 true), .op (some 28) none (.app 5 (.t 19) (.t 27) 1 .any true), .op (some 5) none (.mv (.t 28))])) (.region [.op (some 17) none (.mv (.t 6)), .op (some 18) none (.bin .sub (.t 17) (.k (AV.int .i64 1))), .op (some 6) none (.mv (.t 18))]))
theorem ref01Hex_L1s_eq (R : Nat → List AV → Option Res) (N : Nat) (K : Ex → St → Option Res) (W : St → Option Res) (i3 : Int) (i4 : Int) (s1 : List UInt8) :
    evC gl R N ref01Hex_c0 (Kseq (fun st' => W (prune [0, 5, 6] [5] st')) K) ⟨[(0, .imm (AV.int .u32 i3)), (5, .own 5 0 s1.length none), (6, .imm (AV.int .i64 i4))], [(5, .bytes s1 false)]⟩ =
    ref01Hex_L1s R N (fun (i3 : Int) (i4 : Int) (s1 : List UInt8) => W ⟨[(0, .imm (AV.int .u32 i3)), (5, .own 5 0 s1.length none), (6, .imm (AV.int .i64 i4))], [(5, .bytes s1 false)]⟩) (fun (s2 : List UInt8) => K (.exit 0) ⟨[(5, .own 5 0 s2.length none)], [(5, .bytes s2 false)]⟩) i3 i4 s1 := by
  kernel_rfl
theorem ref01Hex_L1_eq (R : Nat → List AV → Option Res) (N : Nat) (K : Ex → St → Option Res) : ∀ (n : Nat) (i3 : Int) (i4 : Int) (s1 : List UInt8),
    rounds [0, 5, 6] [5] (evC gl R N ref01Hex_c0) K n ⟨[(0, .imm (AV.int .u32 i3)), (5, .own 5 0 s1.length none), (6, .imm (AV.int .i64 i4))], [(5, .bytes s1 false)]⟩ = ref01Hex_L1 R N (fun (s2 : List UInt8) => K (.exit 0) ⟨[(5, .own 5 0 s2.length none)], [(5, .bytes s2 false)]⟩) n i3 i4 s1
  | 0, _, _, _ => rfl
  | n + 1, i3, i4, s1 => (ref01Hex_L1s_eq R N K (rounds [0, 5, 6] [5] (evC gl R N ref01Hex_c0) K n) i3 i4 s1).trans
      (congrArg (fun go => ref01Hex_L1s R N go (fun (s2 : List UInt8) => K (.exit 0) ⟨[(5, .own 5 0 s2.length none)], [(5, .bytes s2 false)]⟩) i3 i4 s1) (funext fun i3 => funext fun i4 => funext fun s1 => ref01Hex_L1_eq R N K n i3 i4 s1))
def ref01Hex_c1 : AC := .seq (.region [.op (some 29) none (.mv (.t 5)), .op (some 30) none (.cvStr (.t 29)), .op (some 4) none (.mv (.t 30))]) (.ret [4] [])
def ref01Hex_c2 : AC := .seq (.region [.op (some 4) none (.mv (.k (AV.str ([] : List UInt8))))]) (.seq (.seq (.region [.op (some 7) none (.mv (.t 1)), .op (some 8) none (.bin .lss (.t 7) (.k (AV.int .i64 0))), .op (some 9) none (.mv (.t 8)), .split 9, .op (some 10) (some (9, false)) (.mv (.t 1)), .op (some 11) (some (9, false)) (.bin .gtr (.t 10) (.k (AV.int .i64 8))), .op (some 12) none (.pick (.t 9) (.k (AV.bool true)) (.t 11))]) (.cond (.t 12) (.seq (.region [.op (some 4) none (.mv (.k (AV.str ([] : List UInt8))))]) (.ret [4] [])) (.skip))) (.seq (.region [.op (some 5) none (.nilOwn 5 none)]) (.seq (.seq (.region [.op (some 13) none (.mv (.t 1)), .op (some 14) none (.bin .sub (.t 13) (.k (AV.int .i64 1))), .op (some 6) none (.mv (.t 14))]) (.block 0 (.loop [0, 5, 6] [5] (ref01Hex_c0)))) (ref01Hex_c1))))
def ref01Hex : AFunc := ⟨2, 31, [.tmp 4], ref01Hex_c2⟩
def ref01Hexr (R : Nat → List AV → Option Res) (N : Nat) (i1 : Int) (i2 : Int) : Option Res :=
  bif decide ((i2 : Int) < 0) then
    (some ⟨AV.str ([] : List UInt8), false, []⟩)
  else
    bif decide ((i2 : Int) > 8) then
    (some ⟨AV.str ([] : List UInt8), false, []⟩)
    else
    ref01Hex_L1 R N
      (fun s4 =>
    some ⟨AV.str ((s4.drop 0).take s4.length), false, []⟩)
      N i1 (IntKind.i64.wrap (i2 - 1)) []
theorem ref01Hex_eq (R : Nat → List AV → Option Res) (N : Nat) (i1 : Int) (i2 : Int) : runF gl R N ref01Hex [AV.int .u32 i1, AV.int .i64 i2] = ref01Hexr R N i1 i2 := by
  refine Eq.trans (b :=
    bif decide ((i2 : Int) < 0) then
    (some ⟨AV.str ([] : List UInt8), false, []⟩)
    else
    bif decide ((i2 : Int) > 8) then
    (some ⟨AV.str ([] : List UInt8), false, []⟩)
    else
    rounds [0, 5, 6] [5] (evC gl R N ref01Hex_c0) (Kblock 0 (Kthen gl R N ref01Hex_c1 (Kret ref01Hex.rets []))) N ⟨[(0, .imm (AV.int .u32 i1)), (5, .own 5 0 (([] : List UInt8).length) none), (6, .imm (AV.int .i64 (IntKind.i64.wrap (i2 - 1))))], [(5, .bytes [] false)]⟩) (by kernel_rfl) ?_
  simp (config := { maxSteps := 100000000 }) only [ref01Hex_L1_eq]
  kernel_rfl
theorem ref01Hex_fit : fitF Tryd.prog ref01Hex Tryd.f32 = true := by
  kernel_rfl

def ref01PutDouble_L2s (R : Nat → List AV → Option Res) (N : Nat) (go : List UInt8 → List UInt8 → Int → Int → Int → Int → Int → List UInt8 → Option Res) (k0 : List UInt8 → List UInt8 → Int → Int → Int → Option Res) (s4 : List UInt8) (s5 : List UInt8) (i3 : Int) (i4 : Int) (i5 : Int) (i6 : Int) (i7 : Int) (s6 : List UInt8) : Option Res :=
  bif decide ((i7 : Int) < i6) then
    (need (decide (0 ≤ (i7 : Int)) && decide ((i7 : Int) < ((s6.length : Nat) : Int))) <|
    (s6[0 + Int.toNat i7]?).bind fun c1 =>
    (R id_ref01Escape [AV.int .u8 (c1.toNat : Int)]).bind fun r2 =>
    asI .i32 r2.v fun i8 =>
    bif (i8 : Int) == i3 then
    (go s4 s5 i3 i4 (c1.toNat : Int) i6 (IntKind.i64.wrap (i7 + 1)) s6)
    else
    go s4 s5 i3 i4 i5 i6 (IntKind.i64.wrap (i7 + 1)) s6)
  else
    k0 s4 s5 i3 i4 i5
def ref01PutDouble_L2 (R : Nat → List AV → Option Res) (N : Nat) (k0 : List UInt8 → List UInt8 → Int → Int → Int → Option Res) : Nat → List UInt8 → List UInt8 → Int → Int → Int → Int → Int → List UInt8 → Option Res
  | 0, _, _, _, _, _, _, _, _ => none
  | n + 1, s4, s5, i3, i4, i5, i6, i7, s6 => ref01PutDouble_L2s R N (ref01PutDouble_L2 R N k0 n) k0 s4 s5 i3 i4 i5 i6 i7 s6
def ref01PutDouble_c0 : AC := .seq (.region [.op (some 29) none (.bin .lss (.t 28) (.t 27))]) (.seq (.cond (.t 29) (.skip) (.exit 2 [4, 5, 6, 7, 9] [])) (.seq (.block 3 (.seq (.region [.op (some 30) none (.iaddr (.t 26) (.t 28) 1 (.int .u8)), .op (some 31) none (.load (.t 30) none (.int .u8)), .op (some 11) none (.mv (.t 31))]) (.seq (.region [.op (some 32) none (.mv (.t 11)), .op (some 33) none (.call id_ref01Escape [.t 32] (.int .i32)), .op (some 34) none (.mv (.t 6)), .op (some 35) none (.bin .eql (.t 33) (.t 34))]) (.cond (.t 35) (.region [.op (some 36) none (.mv (.t 11)), .op (some 9) none (.mv (.t 36))]) (.skip))))) (.region [.op (some 37) none (.bin .add (.t 28) (.k (AV.int .i64 1))), .op (some 28) none (.mv (.t 37))])))
theorem ref01PutDouble_L2s_eq (R : Nat → List AV → Option Res) (N : Nat) (K : Ex → St → Option Res) (W : St → Option Res) (s4 : List UInt8) (s5 : List UInt8) (i3 : Int) (i4 : Int) (i5 : Int) (i6 : Int) (i7 : Int) (s6 : List UInt8) :
    evC gl R N ref01PutDouble_c0 (Kseq (fun st' => W (prune [4, 5, 6, 7, 9, 26, 27, 28] [25] st')) K) ⟨[(4, .imm (AV.bytes s4)), (5, .imm (AV.str s5)), (6, .imm (AV.int .i32 i3)), (7, .imm (AV.int .i64 i4)), (9, .imm (AV.int .u8 i5)), (26, .own 25 0 s6.length none), (27, .imm (AV.int .i64 i6)), (28, .imm (AV.int .i64 i7))], [(25, .bytes s6 false)]⟩ =
    ref01PutDouble_L2s R N (fun (s4 : List UInt8) (s5 : List UInt8) (i3 : Int) (i4 : Int) (i5 : Int) (i6 : Int) (i7 : Int) (s6 : List UInt8) => W ⟨[(4, .imm (AV.bytes s4)), (5, .imm (AV.str s5)), (6, .imm (AV.int .i32 i3)), (7, .imm (AV.int .i64 i4)), (9, .imm (AV.int .u8 i5)), (26, .own 25 0 s6.length none), (27, .imm (AV.int .i64 i6)), (28, .imm (AV.int .i64 i7))], [(25, .bytes s6 false)]⟩) (fun (s7 : List UInt8) (s8 : List UInt8) (i9 : Int) (i10 : Int) (i11 : Int) => K (.exit 2) ⟨[(4, .imm (AV.bytes s7)), (5, .imm (AV.str s8)), (6, .imm (AV.int .i32 i9)), (7, .imm (AV.int .i64 i10)), (9, .imm (AV.int .u8 i11))], []⟩) s4 s5 i3 i4 i5 i6 i7 s6 := by
  kernel_rfl
theorem ref01PutDouble_L2_eq (R : Nat → List AV → Option Res) (N : Nat) (K : Ex → St → Option Res) : ∀ (n : Nat) (s4 : List UInt8) (s5 : List UInt8) (i3 : Int) (i4 : Int) (i5 : Int) (i6 : Int) (i7 : Int) (s6 : List UInt8),
    rounds [4, 5, 6, 7, 9, 26, 27, 28] [25] (evC gl R N ref01PutDouble_c0) K n ⟨[(4, .imm (AV.bytes s4)), (5, .imm (AV.str s5)), (6, .imm (AV.int .i32 i3)), (7, .imm (AV.int .i64 i4)), (9, .imm (AV.int .u8 i5)), (26, .own 25 0 s6.length none), (27, .imm (AV.int .i64 i6)), (28, .imm (AV.int .i64 i7))], [(25, .bytes s6 false)]⟩ = ref01PutDouble_L2 R N (fun (s7 : List UInt8) (s8 : List UInt8) (i9 : Int) (i10 : Int) (i11 : Int) => K (.exit 2) ⟨[(4, .imm (AV.bytes s7)), (5, .imm (AV.str s8)), (6, .imm (AV.int .i32 i9)), (7, .imm (AV.int .i64 i10)), (9, .imm (AV.int .u8 i11))], []⟩) n s4 s5 i3 i4 i5 i6 i7 s6
  | 0, _, _, _, _, _, _, _, _ => rfl
  | n + 1, s4, s5, i3, i4, i5, i6, i7, s6 => (ref01PutDouble_L2s_eq R N K (rounds [4, 5, 6, 7, 9, 26, 27, 28] [25] (evC gl R N ref01PutDouble_c0) K n) s4 s5 i3 i4 i5 i6 i7 s6).trans
      (congrArg (fun go => ref01PutDouble_L2s R N go (fun (s7 : List UInt8) (s8 : List UInt8) (i9 : Int) (i10 : Int) (i11 : Int) => K (.exit 2) ⟨[(4, .imm (AV.bytes s7)), (5, .imm (AV.str s8)), (6, .imm (AV.int .i32 i9)), (7, .imm (AV.int .i64 i10)), (9, .imm (AV.int .u8 i11))], []⟩) s4 s5 i3 i4 i5 i6 i7 s6) (funext fun s4 => funext fun s5 => funext fun i3 => funext fun i4 => funext fun i5 => funext fun i6 => funext fun i7 => funext fun s6 => ref01PutDouble_L2_eq R N K n s4 s5 i3 i4 i5 i6 i7 s6))
def ref01PutDouble_L1s (R : Nat → List AV → Option Res) (N : Nat) (go : List UInt8 → List UInt8 → Option Res) (k0 : List UInt8 → Bool → Option Res) (k1 : List UInt8 → Option Res) (s2 : List UInt8) (s3 : List UInt8) : Option Res :=
  bif decide ((((s2.length : Nat) : Int) : Int) > 0) then
    ((R id_ref01Rune [AV.bytes s2]).bind fun r1 =>
    asJIBT r1.v fun i1 i2 b1 =>
    bif !b1 then
    (k0 ([] : List UInt8) false)
    else
    ref01PutDouble_L2 R N
      (fun s11 s12 i15 i16 i17 =>
    bif (i17 : Int) != 0 then
    (need (decide (0 ≤ (i17 : Int)) && decide ((i17 : Int) < 256)) <|
    need (decide ((([92] : List UInt8) : List UInt8).length + ([UInt8.ofNat (Int.toNat i17)] : List UInt8).length ≤ 9223372036854775807)) <|
    need (decide (s12.length + (([92] : List UInt8) ++ [UInt8.ofNat (Int.toNat i17)] : List UInt8).length ≤ 9223372036854775807)) <|
    need (decide (0 ≤ (i16 : Int)) && decide ((i16 : Int) ≤ ((s11.length : Nat) : Int))) <|
    go ((s11.take s11.length).drop (Int.toNat i16)) (s12 ++ (([92] : List UInt8) ++ [UInt8.ofNat (Int.toNat i17)])))
    else
    (R id_ref01Printable [AV.int .i32 i15]).bind fun r3 =>
    asB r3.v fun b2 =>
    bif b2 then
    (need (decide (0 ≤ (i16 : Int)) && decide ((i16 : Int) ≤ ((s11.length : Nat) : Int))) <|
    need (decide (s12.length + ((s11.take (Int.toNat i16)).drop 0).length ≤ 9223372036854775807)) <|
    need (decide (0 ≤ (i16 : Int)) && decide ((i16 : Int) ≤ ((s11.length : Nat) : Int))) <|
    go ((s11.take s11.length).drop (Int.toNat i16)) (s12 ++ ((s11.take (Int.toNat i16)).drop 0)))
    else
    bif decide ((i15 : Int) ≤ 255) then
    ((R id_ref01Hex [AV.int .u32 (IntKind.u32.wrap i15), AV.int .i64 2]).bind fun r4 =>
    asS r4.v fun s13 =>
    need (decide ((([92, 120] : List UInt8) : List UInt8).length + s13.length ≤ 9223372036854775807)) <|
    need (decide (s12.length + (([92, 120] : List UInt8) ++ s13 : List UInt8).length ≤ 9223372036854775807)) <|
    need (decide (0 ≤ (i16 : Int)) && decide ((i16 : Int) ≤ ((s11.length : Nat) : Int))) <|
    go ((s11.take s11.length).drop (Int.toNat i16)) (s12 ++ (([92, 120] : List UInt8) ++ s13)))
    else
    bif decide ((i15 : Int) ≤ 65535) then
    ((R id_ref01Hex [AV.int .u32 (IntKind.u32.wrap i15), AV.int .i64 4]).bind fun r5 =>
    asS r5.v fun s14 =>
    need (decide ((([92, 117] : List UInt8) : List UInt8).length + s14.length ≤ 9223372036854775807)) <|
    need (decide (s12.length + (([92, 117] : List UInt8) ++ s14 : List UInt8).length ≤ 9223372036854775807)) <|
    need (decide (0 ≤ (i16 : Int)) && decide ((i16 : Int) ≤ ((s11.length : Nat) : Int))) <|
    go ((s11.take s11.length).drop (Int.toNat i16)) (s12 ++ (([92, 117] : List UInt8) ++ s14)))
    else
    (R id_ref01Hex [AV.int .u32 (IntKind.u32.wrap i15), AV.int .i64 8]).bind fun r6 =>
    asS r6.v fun s15 =>
    need (decide ((([92, 85] : List UInt8) : List UInt8).length + s15.length ≤ 9223372036854775807)) <|
    need (decide (s12.length + (([92, 85] : List UInt8) ++ s15 : List UInt8).length ≤ 9223372036854775807)) <|
    need (decide (0 ≤ (i16 : Int)) && decide ((i16 : Int) ≤ ((s11.length : Nat) : Int))) <|
    go ((s11.take s11.length).drop (Int.toNat i16)) (s12 ++ (([92, 85] : List UInt8) ++ s15)))
      N s2 s3 i1 i2 0 (15 : Int) 0 [48, 97, 98, 116, 110, 118, 102, 114, 101, 34, 92, 78, 95, 76, 80])
  else
    k1 s3
def ref01PutDouble_L1 (R : Nat → List AV → Option Res) (N : Nat) (k0 : List UInt8 → Bool → Option Res) (k1 : List UInt8 → Option Res) : Nat → List UInt8 → List UInt8 → Option Res
  | 0, _, _ => none
  | n + 1, s2, s3 => ref01PutDouble_L1s R N (ref01PutDouble_L1 R N k0 k1 n) k0 k1 s2 s3
def ref01PutDouble_c1 : AC := .seq (.block 4 (.seq (.region [.op (some 45) none (.mv (.t 9)), .op (some 46) none (.bin .neq (.t 45) (.k (AV.int .u8 0))), .op (some 44) none (.mv (.t 46))]) (.cond (.t 44) (.region [.op (some 47) none (.mv (.t 5)), .op (some 48) none (.mv (.t 9)), .op (some 49) none (.bslice [.t 48] 1 true), .op (some 50) none (.cvStr (.t 49)), .op (some 51) none (.bin .add (.k (AV.str ([92] : List UInt8))) (.t 50)), .op (some 52) none (.bin .add (.t 47) (.t 51)), .op (some 5) none (.mv (.t 52))]) (.seq (.region [.op (some 54) none (.mv (.t 6)), .op (some 55) none (.call id_ref01Printable [.t 54] (.bool)), .op (some 53) none (.mv (.t 55))]) (.cond (.t 53) (.region [.op (some 56) none (.mv (.t 5)), .op (some 57) none (.mv (.t 4)), .op (some 58) none (.mv (.t 7)), .op (some 59) none (.slice (.t 57) none (some (.t 58)) 1), .op (some 60) none (.cvStr (.t 59)), .op (some 61) none (.bin .add (.t 56) (.t 60)), .op (some 5) none (.mv (.t 61))]) (.seq (.region [.op (some 63) none (.mv (.t 6)), .op (some 64) none (.bin .leq (.t 63) (.k (AV.int .i32 255))), .op (some 62) none (.mv (.t 64))]) (.cond (.t 62) (.region [.op (some 65) none (.mv (.t 5)), .op (some 66) none (.mv (.t 6)), .op (some 67) none (.cvInt .u32 (.t 66)), .op (some 68) none (.call id_ref01Hex [.t 67, .k (AV.int .i64 2)] (.str)), .op (some 69) none (.bin .add (.k (AV.str ([92, 120] : List UInt8))) (.t 68)), .op (some 70) none (.bin .add (.t 65) (.t 69)), .op (some 5) none (.mv (.t 70))]) (.seq (.region [.op (some 72) none (.mv (.t 6)), .op (some 73) none (.bin .leq (.t 72) (.k (AV.int .i32 65535))), .op (some 71) none (.mv (.t 73))]) (.cond (.t 71) (.region [.op (some 74) none (.mv (.t 5)), .op (some 75) none (.mv (.t 6)), .op (some 76) none (.cvInt .u32 (.t 75)), .op (some 77) none (.call id_ref01Hex [.t 76, .k (AV.int .i64 4)] (.str)), .op (some 78) none (.bin .add (.k (AV.str ([92, 117] : List UInt8))) (.t 77)), .op (some 79) none (.bin .add (.t 74) (.t 78)), .op (some 5) none (.mv (.t 79))]) (.region [.op (some 38) none (.mv (.t 5)), .op (some 39) none (.mv (.t 6)), .op (some 40) none (.cvInt .u32 (.t 39)), .op (some 41) none (.call id_ref01Hex [.t 40, .k (AV.int .i64 8)] (.str)), .op (some 42) none (.bin .add (.k (AV.str ([92, 85] : List UInt8))) (.t 41)), .op (some 43) none (.bin .add (.t 38) (.t 42)), .op (some 5) none (.mv (.t 43))])))))))))) (.region [.op (some 80) none (.mv (.t 4)), .op (some 81) none (.mv (.t 7)), .op (some 82) none (.slice (.t 80) (some (.t 81)) none 1), .op (some 4) none (.mv (.t 82))])
def ref01PutDouble_c2 : AC := .seq (.seq (.region [.op (some 14) none (.mv (.t 4)), .op (some 15) none (.len (.t 14) false), .op (some 16) none (.bin .gtr (.t 15) (.k (AV.int .i64 0)))]) (.cond (.t 16) (.skip) (.exit 0 [5] []))) (.block 1 (.seq (.region [.op (some 18) none (.mv (.t 4)), .op (some 19) none (.call id_ref01Rune [.t 18] (.tup [.int .i32, .int .i64, .bool])), .op (some 17) none (.mv (.t 19)), .op (some 20) none (.extract (.t 17) 0), .op (some 21) none (.extract (.t 17) 1), .op (some 22) none (.extract (.t 17) 2), .op (some 6) none (.mv (.t 20)), .op (some 7) none (.mv (.t 21)), .op (some 8) none (.mv (.t 22))]) (.seq (.seq (.region [.op (some 23) none (.mv (.t 8)), .op (some 24) none (.un .not (.t 23))]) (.cond (.t 24) (.seq (.region [.op (some 2) none (.mv (.k (AV.str ([] : List UInt8)))), .op (some 3) none (.mv (.k (AV.bool false)))]) (.ret [2, 3] [])) (.skip))) (.seq (.region [.op (some 9) none (.mv (.k (AV.int .u8 0)))]) (.seq (.seq (.region [.op (some 25) none (.bsliceOwn 25 [.k (AV.int .u8 48), .k (AV.int .u8 97), .k (AV.int .u8 98), .k (AV.int .u8 116), .k (AV.int .u8 110), .k (AV.int .u8 118), .k (AV.int .u8 102), .k (AV.int .u8 114), .k (AV.int .u8 101), .k (AV.int .u8 34), .k (AV.int .u8 92), .k (AV.int .u8 78), .k (AV.int .u8 95), .k (AV.int .u8 76), .k (AV.int .u8 80)] 1 .any true), .op (some 26) none (.cvSame (.t 25)), .op (some 27) none (.len (.t 26) false), .op (some 28) none (.mv (.k (AV.int .i64 0)))]) (.block 2 (.loop [4, 5, 6, 7, 9, 26, 27, 28] [25] (ref01PutDouble_c0)))) (ref01PutDouble_c1))))))
theorem ref01PutDouble_L1s_eq (R : Nat → List AV → Option Res) (N : Nat) (K : Ex → St → Option Res) (W : St → Option Res) (s2 : List UInt8) (s3 : List UInt8) :
    evC gl R N ref01PutDouble_c2 (Kseq (fun st' => W (prune [4, 5] [] st')) K) ⟨[(4, .imm (AV.bytes s2)), (5, .imm (AV.str s3))], []⟩ =
    ref01PutDouble_L1s R N (fun (s2 : List UInt8) (s3 : List UInt8) => W ⟨[(4, .imm (AV.bytes s2)), (5, .imm (AV.str s3))], []⟩) (fun (s16 : List UInt8) (b3 : Bool) => K .ret ⟨[(2, .imm (AV.str s16)), (3, .imm (AV.bool b3))], []⟩) (fun (s17 : List UInt8) => K (.exit 0) ⟨[(5, .imm (AV.str s17))], []⟩) s2 s3 := by
  refine Eq.trans (b :=
    bif decide ((((s2.length : Nat) : Int) : Int) > 0) then
    ((R id_ref01Rune [AV.bytes s2]).bind fun r1 =>
    asJIBT r1.v fun i1 i2 b1 =>
    bif !b1 then
    ((fun (s18 : List UInt8) (b4 : Bool) => K .ret ⟨[(2, .imm (AV.str s18)), (3, .imm (AV.bool b4))], []⟩) ([] : List UInt8) false)
    else
    rounds [4, 5, 6, 7, 9, 26, 27, 28] [25] (evC gl R N ref01PutDouble_c0) (Kblock 2 (Kthen gl R N ref01PutDouble_c1 (Kblock 1 (Kseq (fun st' => W (prune [4, 5] [] st')) K)))) N ⟨[(4, .imm (AV.bytes s2)), (5, .imm (AV.str s3)), (6, .imm (AV.int .i32 i1)), (7, .imm (AV.int .i64 i2)), (9, .imm (AV.int .u8 0)), (26, .own 25 0 (([48, 97, 98, 116, 110, 118, 102, 114, 101, 34, 92, 78, 95, 76, 80] : List UInt8).length) none), (27, .imm (AV.int .i64 (15 : Int))), (28, .imm (AV.int .i64 0))], [(25, .bytes [48, 97, 98, 116, 110, 118, 102, 114, 101, 34, 92, 78, 95, 76, 80] false)]⟩)
    else
    (fun (s19 : List UInt8) => K (.exit 0) ⟨[(5, .imm (AV.str s19))], []⟩) s3) (by kernel_rfl) ?_
  simp (config := { maxSteps := 100000000 }) only [ref01PutDouble_L2_eq]
  kernel_rfl
theorem ref01PutDouble_L1_eq (R : Nat → List AV → Option Res) (N : Nat) (K : Ex → St → Option Res) : ∀ (n : Nat) (s2 : List UInt8) (s3 : List UInt8),
    rounds [4, 5] [] (evC gl R N ref01PutDouble_c2) K n ⟨[(4, .imm (AV.bytes s2)), (5, .imm (AV.str s3))], []⟩ = ref01PutDouble_L1 R N (fun (s16 : List UInt8) (b3 : Bool) => K .ret ⟨[(2, .imm (AV.str s16)), (3, .imm (AV.bool b3))], []⟩) (fun (s17 : List UInt8) => K (.exit 0) ⟨[(5, .imm (AV.str s17))], []⟩) n s2 s3
  | 0, _, _ => rfl
  | n + 1, s2, s3 => (ref01PutDouble_L1s_eq R N K (rounds [4, 5] [] (evC gl R N ref01PutDouble_c2) K n) s2 s3).trans
      (congrArg (fun go => ref01PutDouble_L1s R N go (fun (s16 : List UInt8) (b3 : Bool) => K .ret ⟨[(2, .imm (AV.str s16)), (3, .imm (AV.bool b3))], []⟩) (fun (s17 : List UInt8) => K (.exit 0) ⟨[(5, .imm (AV.str s17))], []⟩) s2 s3) (funext fun s2 => funext fun s3 => ref01PutDouble_L1_eq R N K n s2 s3))
def ref01PutDouble_c3 : AC := .seq (.region [.op (some 83) none (.mv (.t 5)), .op (some 84) none (.bin .add (.t 83) (.k (AV.str ([34] : List UInt8)))), .op (some 2) none (.mv (.t 84)), .op (some 3) none (.mv (.k (AV.bool true)))]) (.ret [2, 3] [])
def ref01PutDouble_c4 : AC := .seq (.region [.op (some 2) none (.mv (.k (AV.str ([] : List UInt8)))), .op (some 3) none (.mv (.k (AV.bool false)))]) (.seq (.region [.op (some 12) none (.mv (.t 0)), .op (some 13) none (.cvBytes (.t 12)), .op (some 4) none (.mv (.t 13))]) (.seq (.region [.op (some 5) none (.mv (.k (AV.str ([34] : List UInt8))))]) (.seq (.block 0 (.loop [4, 5] [] (ref01PutDouble_c2))) (ref01PutDouble_c3))))
def ref01PutDouble : AFunc := ⟨1, 85, [.tmp 2, .tmp 3], ref01PutDouble_c4⟩
def ref01PutDoubler (R : Nat → List AV → Option Res) (N : Nat) (s1 : List UInt8) : Option Res :=
  ref01PutDouble_L1 R N
    (fun s20 b5 =>
    some ⟨AV.tup [AV.str s20, AV.bool b5], false, []⟩)
    (fun s21 =>
    need (decide (s21.length + (([34] : List UInt8) : List UInt8).length ≤ 9223372036854775807)) <|
    some ⟨AV.tup [AV.str (s21 ++ ([34] : List UInt8)), AV.bool true], false, []⟩)
    N s1 ([34] : List UInt8)
theorem ref01PutDouble_eq (R : Nat → List AV → Option Res) (N : Nat) (s1 : List UInt8) : runF gl R N ref01PutDouble [AV.str s1] = ref01PutDoubler R N s1 := by
  refine Eq.trans (b :=
    rounds [4, 5] [] (evC gl R N ref01PutDouble_c2) (Kblock 0 (Kthen gl R N ref01PutDouble_c3 (Kret ref01PutDouble.rets []))) N ⟨[(4, .imm (AV.bytes s1)), (5, .imm (AV.str ([34] : List UInt8)))], []⟩) (by kernel_rfl) ?_
  simp (config := { maxSteps := 100000000 }) only [ref01PutDouble_L1_eq]
  kernel_rfl
theorem ref01PutDouble_fit : fitF Tryd.prog ref01PutDouble Tryd.f16 = true := by
  kernel_rfl

def ref01Letter_c0 : AC := .seq (.region [.op (some 2) none (.mv (.k (AV.bool false)))]) (.seq (.region [.op (some 3) none (.mv (.t 0)), .op (some 4) none (.bin .geq (.t 3) (.k (AV.int .u8 65))), .op (some 5) none (.mv (.t 4)), .split 5, .op (some 6) (some (5, true)) (.mv (.t 0)), .op (some 7) (some (5, true)) (.bin .leq (.t 6) (.k (AV.int .u8 90))), .op (some 8) none (.pick (.t 5) (.t 7) (.k (AV.bool false))), .op (some 9) none (.mv (.t 8)), .split 9, .op (some 10) (some (9, false)) (.mv (.t 0)), .op (some 11) (some (9, false)) (.bin .geq (.t 10) (.k (AV.int .u8 97))), .op (some 12) (some (9, false)) (.mv (.t 11)), .split 12, .op (some 13) (some (12, true)) (.mv (.t 0)), .op (some 14) (some (12, true)) (.bin .leq (.t 13) (.k (AV.int .u8 122))), .op (some 15) (some (9, false)) (.pick (.t 12) (.t 14) (.k (AV.bool false))), .op (some 16) none (.pick (.t 9) (.k (AV.bool true)) (.t 15)), .op (some 17) none (.mv (.t 16)), .split 17, .op (some 18) (some (17, false)) (.mv (.t 0)), .op (some 19) (some (17, false)) (.bin .geq (.t 18) (.k (AV.int .u8 48))), .op (some 20) (some (17, false)) (.mv (.t 19)), .split 20, .op (some 21) (some (20, true)) (.mv (.t 0)), .op (some 22) (some (20, true)) (.bin .leq (.t 21) (.k (AV.int .u8 57))), .op (some 23) (some (17, false)) (.pick (.t 20) (.t 22) (.k (AV.bool false))), .op (some 24) none (.pick (.t 17) (.k (AV.bool true)) (.t 23)), .op (some 25) none (.mv (.t 24)), .split 25, .op (some 26) (some (25, false)) (.mv (.t 0)), .op (some 27) (some (25, false)) (.bin .eql (.t 26) (.k (AV.int .u8 45))), .op (some 28) none (.pick (.t 25) (.k (AV.bool true)) (.t 27)), .op (some 29) none (.mv (.t 28)), .split 29, .op (some 30) (some (29, false)) (.mv (.t 0)), .op (some 31) (some (29, false)) (.bin .eql (.t 30) (.k (AV.int .u8 95))), .op (some 32) none (.pick (.t 29) (.k (AV.bool true)) (.t 31)), .op (some 2) none (.mv (.t 32))]) (.ret [2] []))
def ref01Letter : AFunc := ⟨1, 33, [.tmp 2], ref01Letter_c0⟩
def ref01Letterr (R : Nat → List AV → Option Res) (N : Nat) (i1 : Int) : Option Res :=
  bif decide ((i1 : Int) ≥ 65) then
    (bif decide ((i1 : Int) ≤ 90) then
    (some ⟨AV.bool true, false, []⟩)
    else
    bif decide ((i1 : Int) ≥ 97) then
    (bif decide ((i1 : Int) ≤ 122) then
    (some ⟨AV.bool true, false, []⟩)
    else
    bif decide ((i1 : Int) ≥ 48) then
    (bif decide ((i1 : Int) ≤ 57) then
    (some ⟨AV.bool true, false, []⟩)
    else
    bif (i1 : Int) == 45 then
    (some ⟨AV.bool true, false, []⟩)
    else
    some ⟨AV.bool ((i1 : Int) == 95), false, []⟩)
    else
    bif (i1 : Int) == 45 then
    (some ⟨AV.bool true, false, []⟩)
    else
    some ⟨AV.bool ((i1 : Int) == 95), false, []⟩)
    else
    bif decide ((i1 : Int) ≥ 48) then
    (bif decide ((i1 : Int) ≤ 57) then
    (some ⟨AV.bool true, false, []⟩)
    else
    bif (i1 : Int) == 45 then
    (some ⟨AV.bool true, false, []⟩)
    else
    some ⟨AV.bool ((i1 : Int) == 95), false, []⟩)
    else
    bif (i1 : Int) == 45 then
    (some ⟨AV.bool true, false, []⟩)
    else
    some ⟨AV.bool ((i1 : Int) == 95), false, []⟩)
  else
    bif decide ((i1 : Int) ≥ 97) then
    (bif decide ((i1 : Int) ≤ 122) then
    (some ⟨AV.bool true, false, []⟩)
    else
    bif decide ((i1 : Int) ≥ 48) then
    (bif decide ((i1 : Int) ≤ 57) then
    (some ⟨AV.bool true, false, []⟩)
    else
    bif (i1 : Int) == 45 then
    (some ⟨AV.bool true, false, []⟩)
    else
    some ⟨AV.bool ((i1 : Int) == 95), false, []⟩)
    else
    bif (i1 : Int) == 45 then
    (some ⟨AV.bool true, false, []⟩)
    else
    some ⟨AV.bool ((i1 : Int) == 95), false, []⟩)
    else
    bif decide ((i1 : Int) ≥ 48) then
    (bif decide ((i1 : Int) ≤ 57) then
    (some ⟨AV.bool true, false, []⟩)
    else
    bif (i1 : Int) == 45 then
    (some ⟨AV.bool true, false, []⟩)
    else
    some ⟨AV.bool ((i1 : Int) == 95), false, []⟩)
    else
    bif (i1 : Int) == 45 then
    (some ⟨AV.bool true, false, []⟩)
    else
    some ⟨AV.bool ((i1 : Int) == 95), false, []⟩
theorem ref01Letter_eq (R : Nat → List AV → Option Res) (N : Nat) (i1 : Int) : runF gl R N ref01Letter [AV.int .u8 i1] = ref01Letterr R N i1 := by
  kernel_rfl
theorem ref01Letter_fit : fitF Tryd.prog ref01Letter Tryd.f35 = true := by
  kernel_rfl

def ref01Name_L1s (R : Nat → List AV → Option Res) (N : Nat) (go : List UInt8 → Int → Option Res) (k0 : Bool → Option Res) (k1 : List UInt8 → Option Res) (s2 : List UInt8) (i1 : Int) : Option Res :=
  bif decide ((i1 : Int) < ((s2.length : Nat) : Int)) then
    (need (decide (0 ≤ (i1 : Int))) <|
    (s2[Int.toNat i1]?).bind fun c1 =>
    (R id_ref01Letter [AV.int .u8 (c1.toNat : Int)]).bind fun r1 =>
    asB r1.v fun b1 =>
    bif !b1 then
    (k0 false)
    else
    go s2 (IntKind.i64.wrap (i1 + 1)))
  else
    k1 s2
def ref01Name_L1 (R : Nat → List AV → Option Res) (N : Nat) (k0 : Bool → Option Res) (k1 : List UInt8 → Option Res) : Nat → List UInt8 → Int → Option Res
  | 0, _, _ => none
  | n + 1, s2, i1 => ref01Name_L1s R N (ref01Name_L1 R N k0 k1 n) k0 k1 s2 i1
def ref01Name_c0 : AC := .seq (.seq (.region [.op (some 4) none (.mv (.t 3)), .op (some 5) none (.mv (.t 0)), .op (some 6) none (.len (.t 5) true), .op (some 7) none (.bin .lss (.t 4) (.t 6))]) (.cond (.t 7) (.skip) (.exit 0 [0] []))) (.seq (.block 1 (.seq (.region [.op (some 10) none (.mv (.t 0)), .op (some 11) none (.mv (.t 3)), .op (some 12) none (.index (.t 10) (.t 11)), .op (some 13) none (.call id_ref01Letter [.t 12] (.bool)), .op (some 14) none (.un .not (.t 13))]) (.cond (.t 14) (.seq (.region [.op (some 2) none (.mv (.k (AV.bool false)))]) (.ret [2] [])) (.skip)))) (.region [.op (some 8) none (.mv (.t 3)), .op (some 9) none (.bin .add (.t 8) (.k (AV.int .i64 1))), .op (some 3) none (.mv (.t 9))]))
theorem ref01Name_L1s_eq (R : Nat → List AV → Option Res) (N : Nat) (K : Ex → St → Option Res) (W : St → Option Res) (s2 : List UInt8) (i1 : Int) :
    evC gl R N ref01Name_c0 (Kseq (fun st' => W (prune [0, 3] [] st')) K) ⟨[(0, .imm (AV.str s2)), (3, .imm (AV.int .i64 i1))], []⟩ =
    ref01Name_L1s R N (fun (s2 : List UInt8) (i1 : Int) => W ⟨[(0, .imm (AV.str s2)), (3, .imm (AV.int .i64 i1))], []⟩) (fun (b2 : Bool) => K .ret ⟨[(2, .imm (AV.bool b2))], []⟩) (fun (s3 : List UInt8) => K (.exit 0) ⟨[(0, .imm (AV.str s3))], []⟩) s2 i1 := by
  kernel_rfl
theorem ref01Name_L1_eq (R : Nat → List AV → Option Res) (N : Nat) (K : Ex → St → Option Res) : ∀ (n : Nat) (s2 : List UInt8) (i1 : Int),
    rounds [0, 3] [] (evC gl R N ref01Name_c0) K n ⟨[(0, .imm (AV.str s2)), (3, .imm (AV.int .i64 i1))], []⟩ = ref01Name_L1 R N (fun (b2 : Bool) => K .ret ⟨[(2, .imm (AV.bool b2))], []⟩) (fun (s3 : List UInt8) => K (.exit 0) ⟨[(0, .imm (AV.str s3))], []⟩) n s2 i1
  | 0, _, _ => rfl
  | n + 1, s2, i1 => (ref01Name_L1s_eq R N K (rounds [0, 3] [] (evC gl R N ref01Name_c0) K n) s2 i1).trans
      (congrArg (fun go => ref01Name_L1s R N go (fun (b2 : Bool) => K .ret ⟨[(2, .imm (AV.bool b2))], []⟩) (fun (s3 : List UInt8) => K (.exit 0) ⟨[(0, .imm (AV.str s3))], []⟩) s2 i1) (funext fun s2 => funext fun i1 => ref01Name_L1_eq R N K n s2 i1))
def ref01Name_c1 : AC := .seq (.region [.op (some 15) none (.mv (.t 0)), .op (some 16) none (.len (.t 15) true), .op (some 17) none (.bin .geq (.t 16) (.k (AV.int .i64 1))), .op (some 18) none (.mv (.t 17)), .split 18, .op (some 19) (some (18, true)) (.mv (.t 0)), .op (some 20) (some (18, true)) (.len (.t 19) true), .op (some 21) (some (18, true)) (.bin .leq (.t 20) (.k (AV.int .i64 32))), .op (some 22) none (.pick (.t 18) (.t 21) (.k (AV.bool false))), .op (some 2) none (.mv (.t 22))]) (.ret [2] [])
def ref01Name_c2 : AC := .seq (.region [.op (some 2) none (.mv (.k (AV.bool false)))]) (.seq (.seq (.region [.op (some 3) none (.mv (.k (AV.int .i64 0)))]) (.block 0 (.loop [0, 3] [] (ref01Name_c0)))) (ref01Name_c1))
def ref01Name : AFunc := ⟨1, 23, [.tmp 2], ref01Name_c2⟩
def ref01Namer (R : Nat → List AV → Option Res) (N : Nat) (s1 : List UInt8) : Option Res :=
  ref01Name_L1 R N
    (fun b4 =>
    some ⟨AV.bool b4, false, []⟩)
    (fun s5 =>
    bif decide ((((s5.length : Nat) : Int) : Int) ≥ 1) then
    (some ⟨AV.bool (decide ((((s5.length : Nat) : Int) : Int) ≤ 32)), false, []⟩)
    else
    some ⟨AV.bool false, false, []⟩)
    N s1 0
theorem ref01Name_eq (R : Nat → List AV → Option Res) (N : Nat) (s1 : List UInt8) : runF gl R N ref01Name [AV.str s1] = ref01Namer R N s1 := by
  refine Eq.trans (b :=
    rounds [0, 3] [] (evC gl R N ref01Name_c0) (Kblock 0 (Kthen gl R N ref01Name_c1 (Kret ref01Name.rets []))) N ⟨[(0, .imm (AV.str s1)), (3, .imm (AV.int .i64 0))], []⟩) (by kernel_rfl) ?_
  simp (config := { maxSteps := 100000000 }) only [ref01Name_L1_eq]
  kernel_rfl
theorem ref01Name_fit : fitF Tryd.prog ref01Name Tryd.f24 = true := by
  kernel_rfl

def ref18Number_L1s (R : Nat → List AV → Option Res) (N : Nat) (go : List UInt8 → Int → Int → Option Res) (k0 : List UInt8 → Int → Int → Option Res) (s2 : List UInt8) (i1 : Int) (i2 : Int) : Option Res :=
  bif decide ((i1 : Int) < ((s2.length : Nat) : Int)) then
    (need (decide (0 ≤ (i1 : Int))) <|
    (s2[Int.toNat i1]?).bind fun c1 =>
    bif decide (((c1.toNat : Int) : Int) ≥ 48) then
    (need (decide (0 ≤ (i1 : Int))) <|
    (s2[Int.toNat i1]?).bind fun c2 =>
    bif decide (((c2.toNat : Int) : Int) ≤ 57) then
    (bif decide ((i1 : Int) < 7) then
    (need (decide (0 ≤ (i1 : Int))) <|
    (s2[Int.toNat i1]?).bind fun c3 =>
    go s2 (IntKind.i64.wrap (i1 + 1)) (IntKind.i64.wrap ((IntKind.i64.wrap (10 * i2)) + (IntKind.i64.wrap (IntKind.u8.wrap ((c3.toNat : Int) - 48))))))
    else
    go s2 (IntKind.i64.wrap (i1 + 1)) i2)
    else
    k0 s2 i1 i2)
    else
    k0 s2 i1 i2)
  else
    k0 s2 i1 i2
def ref18Number_L1 (R : Nat → List AV → Option Res) (N : Nat) (k0 : List UInt8 → Int → Int → Option Res) : Nat → List UInt8 → Int → Int → Option Res
  | 0, _, _, _ => none
  | n + 1, s2, i1, i2 => ref18Number_L1s R N (ref18Number_L1 R N k0 n) k0 s2 i1 i2
def ref18Number_c0 : AC := .seq (.seq (.region [.op (some 6) none (.mv (.t 4)), .op (some 7) none (.mv (.t 0)), .op (some 8) none (.len (.t 7) true), .op (some 9) none (.bin .lss (.t 6) (.t 8)), .op (some 10) none (.mv (.t 9)), .split 10, .op (some 11) (some (10, true)) (.mv (.t 0)), .op (some 12) (some (10, true)) (.mv (.t 4)), .op (some 13) (some (10, true)) (.index (.t 11) (.t 12)), .op (some 14) (some (10, true)) (.bin .geq (.t 13) (.k (AV.int .u8 48))), .op (some 15) none (.pick (.t 10) (.t 14) (.k (AV.bool false))), .op (some 16) none (.mv (.t 15)), .split 16, .op (some 17) (some (16, true)) (.mv (.t 0)), .op (some 18) (some (16, true)) (.mv (.t 4)), .op (some 19) (some (16, true)) (.index (.t 17) (.t 18)), .op (some 20) (some (16, true)) (.bin .leq (.t 19) (.k (AV.int .u8 57))), .op (some 21) none (.pick (.t 16) (.t 20) (.k (AV.bool false)))]) (.cond (.t 21) (.skip) (.exit 0 [0, 4, 5] []))) (.block 1 (.seq (.seq (.region [.op (some 22) none (.mv (.t 4)), .op (some 23) none (.bin .lss (.t 22) (.k (AV.int .i64 7)))]) (.cond (.t 23) (.region [.op (some 24) none (.mv (.t 5)), .op (some 25) none (.bin .mul (.k (AV.int .i64 10)) (.t 24)), .op (some 26) none (.mv (.t 0)), .op (some 27) none (.mv (.t 4)), .op (some 28) none (.index (.t 26) (.t 27)), .op (some 29) none (.bin .sub (.t 28) (.k (AV.int .u8 48))), .op (some 30) none (.cvInt .i64 (.t 29)), .op (some 31) none (.bin .add (.t 25) (.t 30)), .op (some 5) none (.mv (.t 31))]) (.skip))) (.region [.op (some 32) none (.mv (.t 4)), .op (some 33) none (.bin .add (.t 32) (.k (AV.int .i64 1))), .op (some 4) none (.mv (.t 33))])))
theorem ref18Number_L1s_eq (R : Nat → List AV → Option Res) (N : Nat) (K : Ex → St → Option Res) (W : St → Option Res) (s2 : List UInt8) (i1 : Int) (i2 : Int) :
    evC gl R N ref18Number_c0 (Kseq (fun st' => W (prune [0, 4, 5] [] st')) K) ⟨[(0, .imm (AV.str s2)), (4, .imm (AV.int .i64 i1)), (5, .imm (AV.int .i64 i2))], []⟩ =
    ref18Number_L1s R N (fun (s2 : List UInt8) (i1 : Int) (i2 : Int) => W ⟨[(0, .imm (AV.str s2)), (4, .imm (AV.int .i64 i1)), (5, .imm (AV.int .i64 i2))], []⟩) (fun (s3 : List UInt8) (i3 : Int) (i4 : Int) => K (.exit 0) ⟨[(0, .imm (AV.str s3)), (4, .imm (AV.int .i64 i3)), (5, .imm (AV.int .i64 i4))], []⟩) s2 i1 i2 := by
  kernel_rfl
theorem ref18Number_L1_eq (R : Nat → List AV → Option Res) (N : Nat) (K : Ex → St → Option Res) : ∀ (n : Nat) (s2 : List UInt8) (i1 : Int) (i2 : Int),
    rounds [0, 4, 5] [] (evC gl R N ref18Number_c0) K n ⟨[(0, .imm (AV.str s2)), (4, .imm (AV.int .i64 i1)), (5, .imm (AV.int .i64 i2))], []⟩ = ref18Number_L1 R N (fun (s3 : List UInt8) (i3 : Int) (i4 : Int) => K (.exit 0) ⟨[(0, .imm (AV.str s3)), (4, .imm (AV.int .i64 i3)), (5, .imm (AV.int .i64 i4))], []⟩) n s2 i1 i2
  | 0, _, _, _ => rfl
  | n + 1, s2, i1, i2 => (ref18Number_L1s_eq R N K (rounds [0, 4, 5] [] (evC gl R N ref18Number_c0) K n) s2 i1 i2).trans
      (congrArg (fun go => ref18Number_L1s R N go (fun (s3 : List UInt8) (i3 : Int) (i4 : Int) => K (.exit 0) ⟨[(0, .imm (AV.str s3)), (4, .imm (AV.int .i64 i3)), (5, .imm (AV.int .i64 i4))], []⟩) s2 i1 i2) (funext fun s2 => funext fun i1 => funext fun i2 => ref18Number_L1_eq R N K n s2 i1 i2))
def ref18Number_c1 : AC := .seq (.seq (.region [.op (some 34) none (.mv (.t 4)), .op (some 35) none (.bin .gtr (.t 34) (.k (AV.int .i64 6))), .op (some 36) none (.mv (.t 35)), .split 36, .op (some 37) (some (36, false)) (.mv (.t 4)), .op (some 38) (some (36, false)) (.bin .gtr (.t 37) (.k (AV.int .i64 1))), .op (some 39) (some (36, false)) (.mv (.t 38)), .split 39, .op (some 40) (some (39, true)) (.mv (.t 0)), .op (some 41) (some (39, true)) (.index (.t 40) (.k (AV.int .i64 0))), .op (some 42) (some (39, true)) (.bin .eql (.t 41) (.k (AV.int .u8 48))), .op (some 43) (some (36, false)) (.pick (.t 39) (.t 42) (.k (AV.bool false))), .op (some 44) none (.pick (.t 36) (.k (AV.bool true)) (.t 43))]) (.cond (.t 44) (.seq (.region [.op (some 2) none (.mv (.k (AV.int .i64 0))), .op (some 3) none (.mv (.k (AV.int .i64 0)))]) (.ret [2, 3] [])) (.skip))) (.seq (.region [.op (some 45) none (.mv (.t 5)), .op (some 46) none (.mv (.t 4)), .op (some 2) none (.mv (.t 45)), .op (some 3) none (.mv (.t 46))]) (.ret [2, 3] []))
def ref18Number_c2 : AC := .seq (.region [.op (some 2) none (.mv (.k (AV.int .i64 0))), .op (some 3) none (.mv (.k (AV.int .i64 0)))]) (.seq (.region [.op (some 4) none (.mv (.k (AV.int .i64 0))), .op (some 5) none (.mv (.k (AV.int .i64 0)))]) (.seq (.block 0 (.loop [0, 4, 5] [] (ref18Number_c0))) (ref18Number_c1)))
def ref18Number : AFunc := ⟨1, 47, [.tmp 2, .tmp 3], ref18Number_c2⟩
def ref18Numberr (R : Nat → List AV → Option Res) (N : Nat) (s1 : List UInt8) : Option Res :=
  ref18Number_L1 R N
    (fun s5 i7 i8 =>
    bif decide ((i7 : Int) > 6) then
    (some ⟨AV.tup [AV.int .i64 0, AV.int .i64 0], false, []⟩)
    else
    bif decide ((i7 : Int) > 1) then
    (need (decide (0 ≤ (0 : Int))) <|
    (s5[Int.toNat 0]?).bind fun c4 =>
    bif ((c4.toNat : Int) : Int) == 48 then
    (some ⟨AV.tup [AV.int .i64 0, AV.int .i64 0], false, []⟩)
    else
    some ⟨AV.tup [AV.int .i64 i8, AV.int .i64 i7], false, []⟩)
    else
    some ⟨AV.tup [AV.int .i64 i8, AV.int .i64 i7], false, []⟩)
    N s1 0 0
theorem ref18Number_eq (R : Nat → List AV → Option Res) (N : Nat) (s1 : List UInt8) : runF gl R N ref18Number [AV.str s1] = ref18Numberr R N s1 := by
  refine Eq.trans (b :=
    rounds [0, 4, 5] [] (evC gl R N ref18Number_c0) (Kblock 0 (Kthen gl R N ref18Number_c1 (Kret ref18Number.rets []))) N ⟨[(0, .imm (AV.str s1)), (4, .imm (AV.int .i64 0)), (5, .imm (AV.int .i64 0))], []⟩) (by kernel_rfl) ?_
  simp (config := { maxSteps := 100000000 }) only [ref18Number_L1_eq]
  kernel_rfl
theorem ref18Number_fit : fitF Tryd.prog ref18Number Tryd.f33 = true := by
  kernel_rfl

def ref01Utf8_c0 : AC := .seq (.region [.op (some 2) none (.mv (.k (AV.bytes [])))]) (.seq (.block 0 (.seq (.region [.op (some 4) none (.mv (.t 0)), .op (some 5) none (.bin .lss (.t 4) (.k (AV.int .i32 128))), .op (some 3) none (.mv (.t 5))]) (.cond (.t 3) (.seq (.region [.op (some 6) none (.mv (.t 0)), .op (some 7) none (.cvInt .u8 (.t 6)), .op (some 8) none (.bslice [.t 7] 1 true), .op (some 2) none (.mv (.t 8))]) (.ret [2] [])) (.seq (.region [.op (some 10) none (.mv (.t 0)), .op (some 11) none (.bin .lss (.t 10) (.k (AV.int .i32 2048))), .op (some 9) none (.mv (.t 11))]) (.cond (.t 9) (.seq (.region [.op (some 12) none (.mv (.t 0)), .op (some 13) none (.bin .shr (.t 12) (.k (AV.int .u64 6))), .op (some 14) none (.cvInt .u8 (.t 13)), .op (some 15) none (.bin .or (.k (AV.int .u8 192)) (.t 14)), .op (some 16) none (.mv (.t 0)), .op (some 17) none (.bin .and (.t 16) (.k (AV.int .i32 63))), .op (some 18) none (.cvInt .u8 (.t 17)), .op (some 19) none (.bin .or (.k (AV.int .u8 128)) (.t 18)), .op (some 20) none (.bslice [.t 15, .t 19] 1 true), .op (some 2) none (.mv (.t 20))]) (.ret [2] [])) (.seq (.region [.op (some 22) none (.mv (.t 0)), .op (some 23) none (.bin .lss (.t 22) (.k (AV.int .i32 65536))), .op (some 21) none (.mv (.t 23))]) (.cond (.t 21) (.seq (.region [.op (some 24) none (.mv (.t 0)), .op (some 25) none (.bin .shr (.t 24) (.k (AV.int .u64 12))), .op (some 26) none (.cvInt .u8 (.t 25)), .op (some 27) none (.bin .or (.k (AV.int .u8 224)) (.t 26)), .op (some 28) none (.mv (.t 0)), .op (some 29) none (.bin .shr (.t 28) (.k (AV.int .u64 6))), .op (some 30) none (.bin .and (.t 29) (.k (AV.int .i32 63))), .op (some 31) none (.cvInt .u8 (.t 30)), .op (some 32) none (.bin .or (.k (AV.int .u8 128)) (.t 31)), .op (some 33) none (.mv (.t 0)), .op (some 34) none (.bin .and (.t 33) (.k (AV.int .i32 63))), .op (some 35) none (.cvInt .u8 (.t 34)), .op (some 36) none (.bin .or (.k (AV.int .u8 128)) (.t 35)), .op (some 37) none (.bslice [.t 27, .t 32, .t 36] 1 true), .op (some 2) none (.mv (.t 37))]) (.ret [2] [])) (.skip)))))))) (.seq (.region [.op (some 38) none (.mv (.t 0)), .op (some 39) none (.bin .shr (.t 38) (.k (AV.int .u64 18))), .op (some 40) none (.cvInt .u8 (.t 39)), .op (some 41) none (.bin .or (.k (AV.int .u8 240)) (.t 40)), .op (some 42) none (.mv (.t 0)), .op (some 43) none (.bin .shr (.t 42) (.k (AV.int .u64 12))), .op (some 44) none (.bin .and (.t 43) (.k (AV.int .i32 63))), .op (some 45) none (.cvInt .u8 (.t 44)), .op (some 46) none (.bin .or (.k (AV.int .u8 128)) (.t 45)), .op (some 47) none (.mv (.t 0)), .op (some 48) none (.bin .shr (.t 47) (.k (AV.int .u64 6))), .op (some 49) none (.bin .and (.t 48) (.k (AV.int .i32 63))), .op (some 50) none (.cvInt .u8 (.t 49)), .op (some 51) none (.bin .or (.k (AV.int .u8 128)) (.t 50)), .op (some 52) none (.mv (.t 0)), .op (some 53) none (.bin .and (.t 52) (.k (AV.int .i32 63))), .op (some 54) none (.cvInt .u8 (.t 53)), .op (some 55) none (.bin .or (.k (AV.int .u8 128)) (.t 54)), .op (some 56) none (.bslice [.t 41, .t 46, .t 51, .t 55] 1 true), .op (some 2) none (.mv (.t 56))]) (.ret [2] [])))
def ref01Utf8 : AFunc := ⟨1, 57, [.tmp 2], ref01Utf8_c0⟩
def ref01Utf8r (R : Nat → List AV → Option Res) (N : Nat) (i1 : Int) : Option Res :=
  bif decide ((i1 : Int) < 128) then
    (need (decide (0 ≤ (IntKind.u8.wrap i1 : Int)) && decide ((IntKind.u8.wrap i1 : Int) < 256)) <|
    some ⟨AV.bytes [UInt8.ofNat (Int.toNat (IntKind.u8.wrap i1))], false, []⟩)
  else
    bif decide ((i1 : Int) < 2048) then
    (need (!decide (6 < 0)) <|
    need (decide (0 ≤ (IntKind.u8.wrap (BitVec.ofInt IntKind.u8.bits 192 ||| BitVec.ofInt IntKind.u8.bits (IntKind.u8.wrap (Int.fdiv i1 (2 ^ (min (Int.toNat 6) IntKind.i32.bits))))).toNat : Int)) && decide ((IntKind.u8.wrap (BitVec.ofInt IntKind.u8.bits 192 ||| BitVec.ofInt IntKind.u8.bits (IntKind.u8.wrap (Int.fdiv i1 (2 ^ (min (Int.toNat 6) IntKind.i32.bits))))).toNat : Int) < 256)) <|
    need (decide (0 ≤ (IntKind.u8.wrap (BitVec.ofInt IntKind.u8.bits 128 ||| BitVec.ofInt IntKind.u8.bits (IntKind.u8.wrap (IntKind.i32.wrap (BitVec.ofInt IntKind.i32.bits i1 &&& BitVec.ofInt IntKind.i32.bits 63).toNat))).toNat : Int)) && decide ((IntKind.u8.wrap (BitVec.ofInt IntKind.u8.bits 128 ||| BitVec.ofInt IntKind.u8.bits (IntKind.u8.wrap (IntKind.i32.wrap (BitVec.ofInt IntKind.i32.bits i1 &&& BitVec.ofInt IntKind.i32.bits 63).toNat))).toNat : Int) < 256)) <|
    some ⟨AV.bytes [UInt8.ofNat (Int.toNat (IntKind.u8.wrap (BitVec.ofInt IntKind.u8.bits 192 ||| BitVec.ofInt IntKind.u8.bits (IntKind.u8.wrap (Int.fdiv i1 (2 ^ (min (Int.toNat 6) IntKind.i32.bits))))).toNat)), UInt8.ofNat (Int.toNat (IntKind.u8.wrap (BitVec.ofInt IntKind.u8.bits 128 ||| BitVec.ofInt IntKind.u8.bits (IntKind.u8.wrap (IntKind.i32.wrap (BitVec.ofInt IntKind.i32.bits i1 &&& BitVec.ofInt IntKind.i32.bits 63).toNat))).toNat))], false, []⟩)
    else
    bif decide ((i1 : Int) < 65536) then
    (need (!decide (12 < 0)) <|
    need (!decide (6 < 0)) <|
    need (decide (0 ≤ (IntKind.u8.wrap (BitVec.ofInt IntKind.u8.bits 224 ||| BitVec.ofInt IntKind.u8.bits (IntKind.u8.wrap (Int.fdiv i1 (2 ^ (min (Int.toNat 12) IntKind.i32.bits))))).toNat : Int)) && decide ((IntKind.u8.wrap (BitVec.ofInt IntKind.u8.bits 224 ||| BitVec.ofInt IntKind.u8.bits (IntKind.u8.wrap (Int.fdiv i1 (2 ^ (min (Int.toNat 12) IntKind.i32.bits))))).toNat : Int) < 256)) <|
    need (decide (0 ≤ (IntKind.u8.wrap (BitVec.ofInt IntKind.u8.bits 128 ||| BitVec.ofInt IntKind.u8.bits (IntKind.u8.wrap (IntKind.i32.wrap (BitVec.ofInt IntKind.i32.bits (Int.fdiv i1 (2 ^ (min (Int.toNat 6) IntKind.i32.bits))) &&& BitVec.ofInt IntKind.i32.bits 63).toNat))).toNat : Int)) && decide ((IntKind.u8.wrap (BitVec.ofInt IntKind.u8.bits 128 ||| BitVec.ofInt IntKind.u8.bits (IntKind.u8.wrap (IntKind.i32.wrap (BitVec.ofInt IntKind.i32.bits (Int.fdiv i1 (2 ^ (min (Int.toNat 6) IntKind.i32.bits))) &&& BitVec.ofInt IntKind.i32.bits 63).toNat))).toNat : Int) < 256)) <|
    need (decide (0 ≤ (IntKind.u8.wrap (BitVec.ofInt IntKind.u8.bits 128 ||| BitVec.ofInt IntKind.u8.bits (IntKind.u8.wrap (IntKind.i32.wrap (BitVec.ofInt IntKind.i32.bits i1 &&& BitVec.ofInt IntKind.i32.bits 63).toNat))).toNat : Int)) && decide ((IntKind.u8.wrap (BitVec.ofInt IntKind.u8.bits 128 ||| BitVec.ofInt IntKind.u8.bits (IntKind.u8.wrap (IntKind.i32.wrap (BitVec.ofInt IntKind.i32.bits i1 &&& BitVec.ofInt IntKind.i32.bits 63).toNat))).toNat : Int) < 256)) <|
    some ⟨AV.bytes [UInt8.ofNat (Int.toNat (IntKind.u8.wrap (BitVec.ofInt IntKind.u8.bits 224 ||| BitVec.ofInt IntKind.u8.bits (IntKind.u8.wrap (Int.fdiv i1 (2 ^ (min (Int.toNat 12) IntKind.i32.bits))))).toNat)), UInt8.ofNat (Int.toNat (IntKind.u8.wrap (BitVec.ofInt IntKind.u8.bits 128 ||| BitVec.ofInt IntKind.u8.bits (IntKind.u8.wrap (IntKind.i32.wrap (BitVec.ofInt IntKind.i32.bits (Int.fdiv i1 (2 ^ (min (Int.toNat 6) IntKind.i32.bits))) &&& BitVec.ofInt IntKind.i32.bits 63).toNat))).toNat)), UInt8.ofNat (Int.toNat (IntKind.u8.wrap (BitVec.ofInt IntKind.u8.bits 128 ||| BitVec.ofInt IntKind.u8.bits (IntKind.u8.wrap (IntKind.i32.wrap (BitVec.ofInt IntKind.i32.bits i1 &&& BitVec.ofInt IntKind.i32.bits 63).toNat))).toNat))], false, []⟩)
    else
    need (!decide (18 < 0)) <|
    need (!decide (12 < 0)) <|
    need (!decide (6 < 0)) <|
    need (decide (0 ≤ (IntKind.u8.wrap (BitVec.ofInt IntKind.u8.bits 240 ||| BitVec.ofInt IntKind.u8.bits (IntKind.u8.wrap (Int.fdiv i1 (2 ^ (min (Int.toNat 18) IntKind.i32.bits))))).toNat : Int)) && decide ((IntKind.u8.wrap (BitVec.ofInt IntKind.u8.bits 240 ||| BitVec.ofInt IntKind.u8.bits (IntKind.u8.wrap (Int.fdiv i1 (2 ^ (min (Int.toNat 18) IntKind.i32.bits))))).toNat : Int) < 256)) <|
    need (decide (0 ≤ (IntKind.u8.wrap (BitVec.ofInt IntKind.u8.bits 128 ||| BitVec.ofInt IntKind.u8.bits (IntKind.u8.wrap (IntKind.i32.wrap (BitVec.ofInt IntKind.i32.bits (Int.fdiv i1 (2 ^ (min (Int.toNat 12) IntKind.i32.bits))) &&& BitVec.ofInt IntKind.i32.bits 63).toNat))).toNat : Int)) && decide ((IntKind.u8.wrap (BitVec.ofInt IntKind.u8.bits 128 ||| BitVec.ofInt IntKind.u8.bits (IntKind.u8.wrap (IntKind.i32.wrap (BitVec.ofInt IntKind.i32.bits (Int.fdiv i1 (2 ^ (min (Int.toNat 12) IntKind.i32.bits))) &&& BitVec.ofInt IntKind.i32.bits 63).toNat))).toNat : Int) < 256)) <|
    need (decide (0 ≤ (IntKind.u8.wrap (BitVec.ofInt IntKind.u8.bits 128 ||| BitVec.ofInt IntKind.u8.bits (IntKind.u8.wrap (IntKind.i32.wrap (BitVec.ofInt IntKind.i32.bits (Int.fdiv i1 (2 ^ (min (Int.toNat 6) IntKind.i32.bits))) &&& BitVec.ofInt IntKind.i32.bits 63).toNat))).toNat : Int)) && decide ((IntKind.u8.wrap (BitVec.ofInt IntKind.u8.bits 128 ||| BitVec.ofInt IntKind.u8.bits (IntKind.u8.wrap (IntKind.i32.wrap (BitVec.ofInt IntKind.i32.bits (Int.fdiv i1 (2 ^ (min (Int.toNat 6) IntKind.i32.bits))) &&& BitVec.ofInt IntKind.i32.bits 63).toNat))).toNat : Int) < 256)) <|
    need (decide (0 ≤ (IntKind.u8.wrap (BitVec.ofInt IntKind.u8.bits 128 ||| BitVec.ofInt IntKind.u8.bits (IntKind.u8.wrap (IntKind.i32.wrap (BitVec.ofInt IntKind.i32.bits i1 &&& BitVec.ofInt IntKind.i32.bits 63).toNat))).toNat : Int)) && decide ((IntKind.u8.wrap (BitVec.ofInt IntKind.u8.bits 128 ||| BitVec.ofInt IntKind.u8.bits (IntKind.u8.wrap (IntKind.i32.wrap (BitVec.ofInt IntKind.i32.bits i1 &&& BitVec.ofInt IntKind.i32.bits 63).toNat))).toNat : Int) < 256)) <|
    some ⟨AV.bytes [UInt8.ofNat (Int.toNat (IntKind.u8.wrap (BitVec.ofInt IntKind.u8.bits 240 ||| BitVec.ofInt IntKind.u8.bits (IntKind.u8.wrap (Int.fdiv i1 (2 ^ (min (Int.toNat 18) IntKind.i32.bits))))).toNat)), UInt8.ofNat (Int.toNat (IntKind.u8.wrap (BitVec.ofInt IntKind.u8.bits 128 ||| BitVec.ofInt IntKind.u8.bits (IntKind.u8.wrap (IntKind.i32.wrap (BitVec.ofInt IntKind.i32.bits (Int.fdiv i1 (2 ^ (min (Int.toNat 12) IntKind.i32.bits))) &&& BitVec.ofInt IntKind.i32.bits 63).toNat))).toNat)), UInt8.ofNat (Int.toNat (IntKind.u8.wrap (BitVec.ofInt IntKind.u8.bits 128 ||| BitVec.ofInt IntKind.u8.bits (IntKind.u8.wrap (IntKind.i32.wrap (BitVec.ofInt IntKind.i32.bits (Int.fdiv i1 (2 ^ (min (Int.toNat 6) IntKind.i32.bits))) &&& BitVec.ofInt IntKind.i32.bits 63).toNat))).toNat)), UInt8.ofNat (Int.toNat (IntKind.u8.wrap (BitVec.ofInt IntKind.u8.bits 128 ||| BitVec.ofInt IntKind.u8.bits (IntKind.u8.wrap (IntKind.i32.wrap (BitVec.ofInt IntKind.i32.bits i1 &&& BitVec.ofInt IntKind.i32.bits 63).toNat))).toNat))], false, []⟩
theorem ref01Utf8_eq (R : Nat → List AV → Option Res) (N : Nat) (i1 : Int) : runF gl R N ref01Utf8 [AV.int .i32 i1] = ref01Utf8r R N i1 := by
  kernel_rfl
theorem ref01Utf8_fit : fitF Tryd.prog ref01Utf8 Tryd.f44 = true := by
  kernel_rfl

def ref01Digit_c0 : AC := .seq (.region [.op (some 2) none (.mv (.k (AV.int .i64 0)))]) (.seq (.block 0 (.seq (.region [.op (some 4) none (.mv (.t 0)), .op (some 5) none (.bin .geq (.t 4) (.k (AV.int .u8 48))), .op (some 6) none (.mv (.t 5)), .split 6, .op (some 7) (some (6, true)) (.mv (.t 0)), .op (some 8) (some (6, true)) (.bin .leq (.t 7) (.k (AV.int .u8 57))), .op (some 9) none (.pick (.t 6) (.t 8) (.k (AV.bool false))), .op (some 3) none (.mv (.t 9))]) (.cond (.t 3) (.seq (.region [.op (some 10) none (.mv (.t 0)), .op (some 11) none (.bin .sub (.t 10) (.k (AV.int .u8 48))), .op (some 12) none (.cvInt .i64 (.t 11)), .op (some 2) none (.mv (.t 12))]) (.ret [2] [])) (.seq (.region [.op (some 14) none (.mv (.t 0)), .op (some 15) none (.bin .geq (.t 14) (.k (AV.int .u8 65))), .op (some 16) none (.mv (.t 15)), .split 16, .op (some 17) (some (16, true)) (.mv (.t 0)), .op (some 18) (some (16, true)) (.bin .leq (.t 17) (.k (AV.int .u8 70))), .op (some 19) none (.pick (.t 16) (.t 18) (.k (AV.bool false))), .op (some 13) none (.mv (.t 19))]) (.cond (.t 13) (.seq (.region [.op (some 20) none (.mv (.t 0)), .op (some 21) none (.bin .sub (.t 20) (.k (AV.int .u8 65))), .op (some 22) none (.cvInt .i64 (.t 21)), .op (some 23) none (.bin .add (.t 22) (.k (AV.int .i64 10))), .op (some 2) none (.mv (.t 23))]) (.ret [2] [])) (.seq (.region [.op (some 25) none (.mv (.t 0)), .op (some 26) none (.bin .geq (.t 25) (.k (AV.int .u8 97))), .op (some 27) none (.mv (.t 26)), .split 27, .op (some 28) (some (27, true)) (.mv (.t 0)), .op (some 29) (some (27, true)) (.bin .leq (.t 28) (.k (AV.int .u8 102))), .op (some 30) none (.pick (.t 27) (.t 29) (.k (AV.bool false))), .op (some 24) none (.mv (.t 30))]) (.cond (.t 24) (.seq (.region [.op (some 31) none (.mv (.t 0)), .op (some 32) none (.bin .sub (.t 31) (.k (AV.int .u8 97))), .op (some 33) none (.cvInt .i64 (.t 32)), .op (some 34) none (.bin .add (.t 33) (.k (AV.int .i64 10))), .op (some 2) none (.mv (.t 34))]) (.ret [2] [])) (.skip)))))))) (.seq (.region [.op (some 2) none (.mv (.k (AV.int .i64 (-1))))]) (.ret [2] [])))
def ref01Digit : AFunc := ⟨1, 35, [.tmp 2], ref01Digit_c0⟩
def ref01Digitr (R : Nat → List AV → Option Res) (N : Nat) (i1 : Int) : Option Res :=
  bif decide ((i1 : Int) ≥ 48) then
    (bif decide ((i1 : Int) ≤ 57) then
    (some ⟨AV.int .i64 (IntKind.i64.wrap (IntKind.u8.wrap (i1 - 48))), false, []⟩)
    else
    bif decide ((i1 : Int) ≥ 65) then
    (bif decide ((i1 : Int) ≤ 70) then
    (some ⟨AV.int .i64 (IntKind.i64.wrap ((IntKind.i64.wrap (IntKind.u8.wrap (i1 - 65))) + 10)), false, []⟩)
    else
    bif decide ((i1 : Int) ≥ 97) then
    (bif decide ((i1 : Int) ≤ 102) then
    (some ⟨AV.int .i64 (IntKind.i64.wrap ((IntKind.i64.wrap (IntKind.u8.wrap (i1 - 97))) + 10)), false, []⟩)
    else
    some ⟨AV.int .i64 (-1), false, []⟩)
    else
    some ⟨AV.int .i64 (-1), false, []⟩)
    else
    bif decide ((i1 : Int) ≥ 97) then
    (bif decide ((i1 : Int) ≤ 102) then
    (some ⟨AV.int .i64 (IntKind.i64.wrap ((IntKind.i64.wrap (IntKind.u8.wrap (i1 - 97))) + 10)), false, []⟩)
    else
    some ⟨AV.int .i64 (-1), false, []⟩)
    else
    some ⟨AV.int .i64 (-1), false, []⟩)
  else
    bif decide ((i1 : Int) ≥ 65) then
    (bif decide ((i1 : Int) ≤ 70) then
    (some ⟨AV.int .i64 (IntKind.i64.wrap ((IntKind.i64.wrap (IntKind.u8.wrap (i1 - 65))) + 10)), false, []⟩)
    else
    bif decide ((i1 : Int) ≥ 97) then
    (bif decide ((i1 : Int) ≤ 102) then
    (some ⟨AV.int .i64 (IntKind.i64.wrap ((IntKind.i64.wrap (IntKind.u8.wrap (i1 - 97))) + 10)), false, []⟩)
    else
    some ⟨AV.int .i64 (-1), false, []⟩)
    else
    some ⟨AV.int .i64 (-1), false, []⟩)
    else
    bif decide ((i1 : Int) ≥ 97) then
    (bif decide ((i1 : Int) ≤ 102) then
    (some ⟨AV.int .i64 (IntKind.i64.wrap ((IntKind.i64.wrap (IntKind.u8.wrap (i1 - 97))) + 10)), false, []⟩)
    else
    some ⟨AV.int .i64 (-1), false, []⟩)
    else
    some ⟨AV.int .i64 (-1), false, []⟩
theorem ref01Digit_eq (R : Nat → List AV → Option Res) (N : Nat) (i1 : Int) : runF gl R N ref01Digit [AV.int .u8 i1] = ref01Digitr R N i1 := by
  kernel_rfl
theorem ref01Digit_fit : fitF Tryd.prog ref01Digit Tryd.f45 = true := by
  kernel_rfl

def ref01TakeDouble_L2s (R : Nat → List AV → Option Res) (N : Nat) (go : List UInt8 → Int → Int → Int → Int → List UInt8 → Option Res) (k0 : List UInt8 → Int → Bool → Option Res) (k1 : List UInt8 → Int → Int → Int → List UInt8 → Option Res) (s5 : List UInt8) (i3 : Int) (i4 : Int) (i5 : Int) (i6 : Int) (s6 : List UInt8) : Option Res :=
  bif decide ((i6 : Int) < i4) then
    (bif decide (((IntKind.i64.wrap ((IntKind.i64.wrap (i3 + 2)) + i6)) : Int) ≥ ((s5.length : Nat) : Int)) then
    (k0 ([] : List UInt8) 0 false)
    else
    need (decide (0 ≤ (IntKind.i64.wrap ((IntKind.i64.wrap (i3 + 2)) + i6) : Int))) <|
    (s5[Int.toNat (IntKind.i64.wrap ((IntKind.i64.wrap (i3 + 2)) + i6))]?).bind fun c5 =>
    (R id_ref01Digit [AV.int .u8 (c5.toNat : Int)]).bind fun r3 =>
    asI .i64 r3.v fun i7 =>
    bif decide ((i7 : Int) < 0) then
    (k0 ([] : List UInt8) 0 false)
    else
    need (decide (0 ≤ (IntKind.i64.wrap ((IntKind.i64.wrap (i3 + 2)) + i6) : Int))) <|
    (s5[Int.toNat (IntKind.i64.wrap ((IntKind.i64.wrap (i3 + 2)) + i6))]?).bind fun c6 =>
    (R id_ref01Digit [AV.int .u8 (c6.toNat : Int)]).bind fun r4 =>
    asI .i64 r4.v fun i8 =>
    go s5 i3 i4 (IntKind.i64.wrap ((IntKind.i64.wrap (16 * i5)) + i8)) (IntKind.i64.wrap (i6 + 1)) s6)
  else
    k1 s5 i3 i4 i5 s6
def ref01TakeDouble_L2 (R : Nat → List AV → Option Res) (N : Nat) (k0 : List UInt8 → Int → Bool → Option Res) (k1 : List UInt8 → Int → Int → Int → List UInt8 → Option Res) : Nat → List UInt8 → Int → Int → Int → Int → List UInt8 → Option Res
  | 0, _, _, _, _, _, _ => none
  | n + 1, s5, i3, i4, i5, i6, s6 => ref01TakeDouble_L2s R N (ref01TakeDouble_L2 R N k0 k1 n) k0 k1 s5 i3 i4 i5 i6 s6
def ref01TakeDouble_c0 : AC := .seq (.seq (.region [.op (some 81) none (.mv (.t 11)), .op (some 82) none (.mv (.t 8)), .op (some 83) none (.bin .lss (.t 81) (.t 82))]) (.cond (.t 83) (.skip) (.exit 3 [0, 5, 6, 8, 10] [5]))) (.seq (.block 4 (.seq (.seq (.region [.op (some 86) none (.mv (.t 6)), .op (some 87) none (.bin .add (.t 86) (.k (AV.int .i64 2))), .op (some 88) none (.mv (.t 11)), .op (some 89) none (.bin .add (.t 87) (.t 88)), .op (some 90) none (.mv (.t 0)), .op (some 91) none (.len (.t 90) false), .op (some 92) none (.bin .geq (.t 89) (.t 91)), .op (some 93) none (.mv (.t 92)), .split 93, .op (some 94) (some (93, false)) (.mv (.t 0)), .op (some 95) (some (93, false)) (.mv (.t 6)), .op (some 96) (some (93, false)) (.bin .add (.t 95) (.k (AV.int .i64 2))), .op (some 97) (some (93, false)) (.mv (.t 11)), .op (some 98) (some (93, false)) (.bin .add (.t 96) (.t 97)), .op (some 99) (some (93, false)) (.iaddr (.t 94) (.t 98) 1 (.int .u8)), .op (some 100) (some (93, false)) (.load (.t 99) none (.int .u8)), .op (some 101) (some (93, false)) (.call id_ref01Digit [.t 100] (.int .i64)), .op (some 102) (some (93, false)) (.bin .lss (.t 101) (.k (AV.int .i64 0))), .op (some 103) none (.pick (.t 93) (.k (AV.bool true)) (.t 102))]) (.cond (.t 103) (.seq (.region [.op (some 2) none (.mv (.k (AV.str ([] : List UInt8)))), .op (some 3) none (.mv (.k (AV.int .i64 0))), .op (some 4) none (.mv (.k (AV.bool false)))]) (.ret [2, 3, 4] [])) (.skip))) (.region [.op (some 104) none (.mv (.t 10)), .op (some 105) none (.bin .mul (.k (AV.int .i64 16)) (.t 104)), .op (some 106) none (.mv (.t 0)), .op (some 107) none (.mv (.t 6)), .op (some 108) none (.bin .add (.t 107) (.k (AV.int .i64 2))), .op (some 109) none (.mv (.t 11)), .op (some 110) none (.bin .add (.t 108) (.t 109)), .op (some 111) none (.iaddr (.t 106) (.t 110) 1 (.int .u8)), .op (some 112) none (.load (.t 111) none (.int .u8)), .op (some 113) none (.call id_ref01Digit [.t 112] (.int .i64)), .op (some 114) none (.bin .add (.t 105) (.t 113)), .op (some 10) none (.mv (.t 114))]))) (.region [.op (some 84) none (.mv (.t 11)), .op (some 85) none (.bin .add (.t 84) (.k (AV.int .i64 1))), .op (some 11) none (.mv (.t 85))]))
theorem ref01TakeDouble_L2s_eq (R : Nat → List AV → Option Res) (N : Nat) (K : Ex → St → Option Res) (W : St → Option Res) (s5 : List UInt8) (i3 : Int) (i4 : Int) (i5 : Int) (i6 : Int) (s6 : List UInt8) :
    evC gl R N ref01TakeDouble_c0 (Kseq (fun st' => W (prune [0, 5, 6, 8, 10, 11] [5] st')) K) ⟨[(0, .imm (AV.bytes s5)), (5, .own 5 0 s6.length none), (6, .imm (AV.int .i64 i3)), (8, .imm (AV.int .i64 i4)), (10, .imm (AV.int .i64 i5)), (11, .imm (AV.int .i64 i6))], [(5, .bytes s6 false)]⟩ =
    ref01TakeDouble_L2s R N (fun (s5 : List UInt8) (i3 : Int) (i4 : Int) (i5 : Int) (i6 : Int) (s6 : List UInt8) => W ⟨[(0, .imm (AV.bytes s5)), (5, .own 5 0 s6.length none), (6, .imm (AV.int .i64 i3)), (8, .imm (AV.int .i64 i4)), (10, .imm (AV.int .i64 i5)), (11, .imm (AV.int .i64 i6))], [(5, .bytes s6 false)]⟩) (fun (s7 : List UInt8) (i9 : Int) (b1 : Bool) => K .ret ⟨[(2, .imm (AV.str s7)), (3, .imm (AV.int .i64 i9)), (4, .imm (AV.bool b1))], []⟩) (fun (s8 : List UInt8) (i10 : Int) (i11 : Int) (i12 : Int) (s9 : List UInt8) => K (.exit 3) ⟨[(0, .imm (AV.bytes s8)), (5, .own 5 0 s9.length none), (6, .imm (AV.int .i64 i10)), (8, .imm (AV.int .i64 i11)), (10, .imm (AV.int .i64 i12))], [(5, .bytes s9 false)]⟩) s5 i3 i4 i5 i6 s6 := by
  kernel_rfl
theorem ref01TakeDouble_L2_eq (R : Nat → List AV → Option Res) (N : Nat) (K : Ex → St → Option Res) : ∀ (n : Nat) (s5 : List UInt8) (i3 : Int) (i4 : Int) (i5 : Int) (i6 : Int) (s6 : List UInt8),
    rounds [0, 5, 6, 8, 10, 11] [5] (evC gl R N ref01TakeDouble_c0) K n ⟨[(0, .imm (AV.bytes s5)), (5, .own 5 0 s6.length none), (6, .imm (AV.int .i64 i3)), (8, .imm (AV.int .i64 i4)), (10, .imm (AV.int .i64 i5)), (11, .imm (AV.int .i64 i6))], [(5, .bytes s6 false)]⟩ = ref01TakeDouble_L2 R N (fun (s7 : List UInt8) (i9 : Int) (b1 : Bool) => K .ret ⟨[(2, .imm (AV.str s7)), (3, .imm (AV.int .i64 i9)), (4, .imm (AV.bool b1))], []⟩) (fun (s8 : List UInt8) (i10 : Int) (i11 : Int) (i12 : Int) (s9 : List UInt8) => K (.exit 3) ⟨[(0, .imm (AV.bytes s8)), (5, .own 5 0 s9.length none), (6, .imm (AV.int .i64 i10)), (8, .imm (AV.int .i64 i11)), (10, .imm (AV.int .i64 i12))], [(5, .bytes s9 false)]⟩) n s5 i3 i4 i5 i6 s6
  | 0, _, _, _, _, _, _ => rfl
  | n + 1, s5, i3, i4, i5, i6, s6 => (ref01TakeDouble_L2s_eq R N K (rounds [0, 5, 6, 8, 10, 11] [5] (evC gl R N ref01TakeDouble_c0) K n) s5 i3 i4 i5 i6 s6).trans
      (congrArg (fun go => ref01TakeDouble_L2s R N go (fun (s7 : List UInt8) (i9 : Int) (b1 : Bool) => K .ret ⟨[(2, .imm (AV.str s7)), (3, .imm (AV.int .i64 i9)), (4, .imm (AV.bool b1))], []⟩) (fun (s8 : List UInt8) (i10 : Int) (i11 : Int) (i12 : Int) (s9 : List UInt8) => K (.exit 3) ⟨[(0, .imm (AV.bytes s8)), (5, .own 5 0 s9.length none), (6, .imm (AV.int .i64 i10)), (8, .imm (AV.int .i64 i11)), (10, .imm (AV.int .i64 i12))], [(5, .bytes s9 false)]⟩) s5 i3 i4 i5 i6 s6) (funext fun s5 => funext fun i3 => funext fun i4 => funext fun i5 => funext fun i6 => funext fun s6 => ref01TakeDouble_L2_eq R N K n s5 i3 i4 i5 i6 s6))
def ref01TakeDouble_L1s (R : Nat → List AV → Option Res) (N : Nat) (go : List UInt8 → Int → List UInt8 → Option Res) (k0 : List UInt8 → Int → Bool → Option Res) (k1 : Option Res) (s2 : List UInt8) (i1 : Int) (s3 : List UInt8) : Option Res :=
  bif decide ((i1 : Int) < ((s2.length : Nat) : Int)) then
    (need (decide (0 ≤ (i1 : Int))) <|
    (s2[Int.toNat i1]?).bind fun c2 =>
    bif ((c2.toNat : Int) : Int) == 10 then
    (k0 ([] : List UInt8) 0 false)
    else
    bif ((c2.toNat : Int) : Int) == 13 then
    (k0 ([] : List UInt8) 0 false)
    else
    bif ((c2.toNat : Int) : Int) == 34 then
    (k0 ((s3.drop 0).take s3.length) (IntKind.i64.wrap (i1 + 1)) true)
    else
    bif ((c2.toNat : Int) : Int) != 92 then
    (need (decide (0 ≤ ((c2.toNat : Int) : Int)) && decide (((c2.toNat : Int) : Int) < 256)) <|
    need (decide (((s3.drop 0).take s3.length).length + ([UInt8.ofNat (Int.toNat (c2.toNat : Int))] : List UInt8).length ≤ 1099511627776)) <|
    go s2 (IntKind.i64.wrap (i1 + 1)) (((s3.drop 0).take s3.length) ++ [UInt8.ofNat (Int.toNat (c2.toNat : Int))]))
    else
    bif decide (((IntKind.i64.wrap (i1 + 1)) : Int) ≥ ((s2.length : Nat) : Int)) then
    (k0 ([] : List UInt8) 0 false)
    else
    need (decide (0 ≤ (IntKind.i64.wrap (i1 + 1) : Int))) <|
    (s2[Int.toNat (IntKind.i64.wrap (i1 + 1))]?).bind fun c3 =>
    bif ((c3.toNat : Int) : Int) == 120 then
    (bif (2 : Int) == 0 then
    (need (decide (0 ≤ (IntKind.i64.wrap (i1 + 1) : Int))) <|
    (s2[Int.toNat (IntKind.i64.wrap (i1 + 1))]?).bind fun c4 =>
    (R id_ref01Escape [AV.int .u8 (c4.toNat : Int)]).bind fun r1 =>
    asI .i32 r1.v fun i2 =>
    bif decide ((i2 : Int) < 0) then
    (k0 ([] : List UInt8) 0 false)
    else
    (R id_ref01Utf8 [AV.int .i32 i2]).bind fun r2 =>
    asY r2.v fun s4 =>
    need (decide (((s3.drop 0).take s3.length).length + s4.length ≤ 1099511627776)) <|
    go s2 (IntKind.i64.wrap (i1 + 2)) (((s3.drop 0).take s3.length) ++ s4))
    else
    ref01TakeDouble_L2 R N
      (fun s13 i17 b3 =>
    k0 s13 i17 b3)
      (fun s14 i18 i19 i20 s15 =>
    bif decide ((i20 : Int) > 1114111) then
    (k0 ([] : List UInt8) 0 false)
    else
    bif decide ((i20 : Int) ≥ 55296) then
    (bif decide ((i20 : Int) ≤ 57343) then
    (k0 ([] : List UInt8) 0 false)
    else
    (R id_ref01Utf8 [AV.int .i32 (IntKind.i32.wrap i20)]).bind fun r5 =>
    asY r5.v fun s16 =>
    need (decide (((s15.drop 0).take s15.length).length + s16.length ≤ 1099511627776)) <|
    go s14 (IntKind.i64.wrap (i18 + (IntKind.i64.wrap (2 + i19)))) (((s15.drop 0).take s15.length) ++ s16))
    else
    (R id_ref01Utf8 [AV.int .i32 (IntKind.i32.wrap i20)]).bind fun r6 =>
    asY r6.v fun s17 =>
    need (decide (((s15.drop 0).take s15.length).length + s17.length ≤ 1099511627776)) <|
    go s14 (IntKind.i64.wrap (i18 + (IntKind.i64.wrap (2 + i19)))) (((s15.drop 0).take s15.length) ++ s17))
      N s2 i1 2 0 0 s3)
    else
    bif ((c3.toNat : Int) : Int) == 117 then
    (bif (4 : Int) == 0 then
    (need (decide (0 ≤ (IntKind.i64.wrap (i1 + 1) : Int))) <|
    (s2[Int.toNat (IntKind.i64.wrap (i1 + 1))]?).bind fun c7 =>
    (R id_ref01Escape [AV.int .u8 (c7.toNat : Int)]).bind fun r7 =>
    asI .i32 r7.v fun i21 =>
    bif decide ((i21 : Int) < 0) then
    (k0 ([] : List UInt8) 0 false)
    else
    (R id_ref01Utf8 [AV.int .i32 i21]).bind fun r8 =>
    asY r8.v fun s18 =>
    need (decide (((s3.drop 0).take s3.length).length + s18.length ≤ 1099511627776)) <|
    go s2 (IntKind.i64.wrap (i1 + 2)) (((s3.drop 0).take s3.length) ++ s18))
    else
    ref01TakeDouble_L2 R N
      (fun s19 i22 b4 =>
    k0 s19 i22 b4)
      (fun s20 i23 i24 i25 s21 =>
    bif decide ((i25 : Int) > 1114111) then
    (k0 ([] : List UInt8) 0 false)
    else
    bif decide ((i25 : Int) ≥ 55296) then
    (bif decide ((i25 : Int) ≤ 57343) then
    (k0 ([] : List UInt8) 0 false)
    else
    (R id_ref01Utf8 [AV.int .i32 (IntKind.i32.wrap i25)]).bind fun r9 =>
    asY r9.v fun s22 =>
    need (decide (((s21.drop 0).take s21.length).length + s22.length ≤ 1099511627776)) <|
    go s20 (IntKind.i64.wrap (i23 + (IntKind.i64.wrap (2 + i24)))) (((s21.drop 0).take s21.length) ++ s22))
    else
    (R id_ref01Utf8 [AV.int .i32 (IntKind.i32.wrap i25)]).bind fun r10 =>
    asY r10.v fun s23 =>
    need (decide (((s21.drop 0).take s21.length).length + s23.length ≤ 1099511627776)) <|
    go s20 (IntKind.i64.wrap (i23 + (IntKind.i64.wrap (2 + i24)))) (((s21.drop 0).take s21.length) ++ s23))
      N s2 i1 4 0 0 s3)
    else
    bif ((c3.toNat : Int) : Int) == 85 then
    (bif (8 : Int) == 0 then
    (need (decide (0 ≤ (IntKind.i64.wrap (i1 + 1) : Int))) <|
    (s2[Int.toNat (IntKind.i64.wrap (i1 + 1))]?).bind fun c8 =>
    (R id_ref01Escape [AV.int .u8 (c8.toNat : Int)]).bind fun r11 =>
    asI .i32 r11.v fun i26 =>
    bif decide ((i26 : Int) < 0) then
    (k0 ([] : List UInt8) 0 false)
    else
    (R id_ref01Utf8 [AV.int .i32 i26]).bind fun r12 =>
    asY r12.v fun s24 =>
    need (decide (((s3.drop 0).take s3.length).length + s24.length ≤ 1099511627776)) <|
    go s2 (IntKind.i64.wrap (i1 + 2)) (((s3.drop 0).take s3.length) ++ s24))
    else
    ref01TakeDouble_L2 R N
      (fun s25 i27 b5 =>
    k0 s25 i27 b5)
      (fun s26 i28 i29 i30 s27 =>
    bif decide ((i30 : Int) > 1114111) then
    (k0 ([] : List UInt8) 0 false)
    else
    bif decide ((i30 : Int) ≥ 55296) then
    (bif decide ((i30 : Int) ≤ 57343) then
    (k0 ([] : List UInt8) 0 false)
    else
    (R id_ref01Utf8 [AV.int .i32 (IntKind.i32.wrap i30)]).bind fun r13 =>
    asY r13.v fun s28 =>
    need (decide (((s27.drop 0).take s27.length).length + s28.length ≤ 1099511627776)) <|
    go s26 (IntKind.i64.wrap (i28 + (IntKind.i64.wrap (2 + i29)))) (((s27.drop 0).take s27.length) ++ s28))
    else
    (R id_ref01Utf8 [AV.int .i32 (IntKind.i32.wrap i30)]).bind fun r14 =>
    asY r14.v fun s29 =>
    need (decide (((s27.drop 0).take s27.length).length + s29.length ≤ 1099511627776)) <|
    go s26 (IntKind.i64.wrap (i28 + (IntKind.i64.wrap (2 + i29)))) (((s27.drop 0).take s27.length) ++ s29))
      N s2 i1 8 0 0 s3)
    else
    bif (0 : Int) == 0 then
    (need (decide (0 ≤ (IntKind.i64.wrap (i1 + 1) : Int))) <|
    (s2[Int.toNat (IntKind.i64.wrap (i1 + 1))]?).bind fun c9 =>
    (R id_ref01Escape [AV.int .u8 (c9.toNat : Int)]).bind fun r15 =>
    asI .i32 r15.v fun i31 =>
    bif decide ((i31 : Int) < 0) then
    (k0 ([] : List UInt8) 0 false)
    else
    (R id_ref01Utf8 [AV.int .i32 i31]).bind fun r16 =>
    asY r16.v fun s30 =>
    need (decide (((s3.drop 0).take s3.length).length + s30.length ≤ 1099511627776)) <|
    go s2 (IntKind.i64.wrap (i1 + 2)) (((s3.drop 0).take s3.length) ++ s30))
    else
    ref01TakeDouble_L2 R N
      (fun s31 i32 b6 =>
    k0 s31 i32 b6)
      (fun s32 i33 i34 i35 s33 =>
    bif decide ((i35 : Int) > 1114111) then
    (k0 ([] : List UInt8) 0 false)
    else
    bif decide ((i35 : Int) ≥ 55296) then
    (bif decide ((i35 : Int) ≤ 57343) then
    (k0 ([] : List UInt8) 0 false)
    else
    (R id_ref01Utf8 [AV.int .i32 (IntKind.i32.wrap i35)]).bind fun r17 =>
    asY r17.v fun s34 =>
    need (decide (((s33.drop 0).take s33.length).length + s34.length ≤ 1099511627776)) <|
    go s32 (IntKind.i64.wrap (i33 + (IntKind.i64.wrap (2 + i34)))) (((s33.drop 0).take s33.length) ++ s34))
    else
    (R id_ref01Utf8 [AV.int .i32 (IntKind.i32.wrap i35)]).bind fun r18 =>
    asY r18.v fun s35 =>
    need (decide (((s33.drop 0).take s33.length).length + s35.length ≤ 1099511627776)) <|
    go s32 (IntKind.i64.wrap (i33 + (IntKind.i64.wrap (2 + i34)))) (((s33.drop 0).take s33.length) ++ s35))
      N s2 i1 0 0 0 s3)
  else
    k1
def ref01TakeDouble_L1 (R : Nat → List AV → Option Res) (N : Nat) (k0 : List UInt8 → Int → Bool → Option Res) (k1 : Option Res) : Nat → List UInt8 → Int → List UInt8 → Option Res
  | 0, _, _, _ => none
  | n + 1, s2, i1, s3 => ref01TakeDouble_L1s R N (ref01TakeDouble_L1 R N k0 k1 n) k0 k1 s2 i1 s3
def ref01TakeDouble_c1 : AC := .seq (.seq (.region [.op (some 115) none (.mv (.t 10)), .op (some 116) none (.bin .gtr (.t 115) (.k (AV.int .i64 1114111))), .op (some 117) none (.mv (.t 116)), .split 117, .op (some 118) (some (117, false)) (.mv (.t 10)), .op (some 119) (some (117, false)) (.bin .geq (.t 118) (.k (AV.int .i64 55296))), .op (some 120) (some (117, false)) (.mv (.t 119)), .split 120, .op (some 121) (some (120, true)) (.mv (.t 10)), .op (some 122) (some (120, true)) (.bin .leq (.t 121) (.k (AV.int .i64 57343))), .op (some 123) (some (117, false)) (.pick (.t 120) (.t 122) (.k (AV.bool false))), .op (some 124) none (.pick (.t 117) (.k (AV.bool true)) (.t 123))]) (.cond (.t 124) (.seq (.region [.op (some 2) none (.mv (.k (AV.str ([] : List UInt8)))), .op (some 3) none (.mv (.k (AV.int .i64 0))), .op (some 4) none (.mv (.k (AV.bool false)))]) (.ret [2, 3, 4] [])) (.skip))) (.seq (.region [.op (some 125) none (.mv (.t 5)), .op (some 126) none (.mv (.t 10)), .op (some 127) none (.cvInt .i32 (.t 126)), .op (some 128) none (.call id_ref01Utf8 [.t 127] (.bytes)), .op (some 129) none (.app 5 (.t 125) (.t 128) 1 .any true), .op (some 5) none (.mv (.t 129))]) (.region [.op (some 130) none (.mv (.t 6)), .op (some 131) none (.mv (.t 8)), .op (some 132) none (.bin .add (.k (AV.int .i64 2)) (.t 131)), .op (some 133) none (.bin .add (.t 130) (.t 132)), .op (some 6) none (.mv (.t 133))]))
def ref01TakeDouble_c2 : AC := .seq (.seq (.region [.op (some 21) none (.mv (.t 6)), .op (some 22) none (.mv (.t 0)), .op (some 23) none (.len (.t 22) false), .op (some 24) none (.bin .lss (.t 21) (.t 23))]) (.cond (.t 24) (.skip) (.exit 0 [] []))) (.block 1 (.seq (.region [.op (some 25) none (.mv (.t 0)), .op (some 26) none (.mv (.t 6)), .op (some 27) none (.iaddr (.t 25) (.t 26) 1 (.int .u8)), .op (some 28) none (.load (.t 27) none (.int .u8)), .op (some 7) none (.mv (.t 28))]) (.seq (.seq (.region [.op (some 29) none (.mv (.t 7)), .op (some 30) none (.bin .eql (.t 29) (.k (AV.int .u8 10))), .op (some 31) none (.mv (.t 30)), .split 31, .op (some 32) (some (31, false)) (.mv (.t 7)), .op (some 33) (some (31, false)) (.bin .eql (.t 32) (.k (AV.int .u8 13))), .op (some 34) none (.pick (.t 31) (.k (AV.bool true)) (.t 33))]) (.cond (.t 34) (.seq (.region [.op (some 2) none (.mv (.k (AV.str ([] : List UInt8)))), .op (some 3) none (.mv (.k (AV.int .i64 0))), .op (some 4) none (.mv (.k (AV.bool false)))]) (.ret [2, 3, 4] [])) (.skip))) (.seq (.seq (.region [.op (some 35) none (.mv (.t 7)), .op (some 36) none (.bin .eql (.t 35) (.k (AV.int .u8 34)))]) (.cond (.t 36) (.seq (.region [.op (some 37) none (.mv (.t 5)), .op (some 38) none (.cvStr (.t 37)), .op (some 39) none (.mv (.t 6)), .op (some 40) none (.bin .add (.t 39) (.k (AV.int .i64 1))), .op (some 2) none (.mv (.t 38)), .op (some 3) none (.mv (.t 40)), .op (some 4) none (.mv (.k (AV.bool true)))]) (.ret [2, 3, 4] [])) (.skip))) (.seq (.seq (.region [.op (some 41) none (.mv (.t 7)), .op (some 42) none (.bin .neq (.t 41) (.k (AV.int .u8 92)))]) (.cond (.t 42) (.seq (.region [.op (some 43) none (.mv (.t 5)), .op (some 44) none (.mv (.t 7)), .op (some 45) none (.bslice [.t 44] 1 true), .op (some 46) none (.app 5 (.t 43) (.t 45) 1 .any true), .op (some 5) none (.mv (.t 46))]) (.seq (.region [.op (some 47) none (.mv (.t 6)), .op (some 48) none (.bin .add (.t 47) (.k (AV.int .i64 1))), .op (some 6) none (.mv (.t 48))]) (.exit 1 [0, 5, 6] [5]))) (.skip))) (.seq (.seq (.region [.op (some 49) none (.mv (.t 6)), .op (some 50) none (.bin .add (.t 49) (.k (AV.int .i64 1))), .op (some 51) none (.mv (.t 0)), .op (some 52) none (.len (.t 51) false), .op (some 53) none (.bin .geq (.t 50) (.t 52))]) (.cond (.t 53) (.seq (.region [.op (some 2) none (.mv (.k (AV.str ([] : List UInt8)))), .op (some 3) none (.mv (.k (AV.int .i64 0))), .op (some 4) none (.mv (.k (AV.bool false)))]) (.ret [2, 3, 4] [])) (.skip))) (.seq (.region [.op (some 8) none (.mv (.k (AV.int .i64 0)))]) (.seq (.seq (.region [.op (some 54) none (.mv (.t 0)), .op (some 55) none (.mv (.t 6)), .op (some 56) none (.bin .add (.t 55) (.k (AV.int .i64 1))), .op (some 57) none (.iaddr (.t 54) (.t 56) 1 (.int .u8)), .op (some 58) none (.load (.t 57) none (.int .u8))]) (.block 2 (.seq (.region [.op (some 60) none (.bin .eql (.t 58) (.k (AV.int .u8 120))), .op (some 59) none (.mv (.t 60))]) (.cond (.t 59) (.region [.op (some 8) none (.mv (.k (AV.int .i64 2)))]) (.seq (.region [.op (some 62) none (.bin .eql (.t 58) (.k (AV.int .u8 117))), .op (some 61) none (.mv (.t 62))]) (.cond (.t 61) (.region [.op (some 8) none (.mv (.k (AV.int .i64 4)))]) (.seq (.region [.op (some 64) none (.bin .eql (.t 58) (.k (AV.int .u8 85))), .op (some 63) none (.mv (.t 64))]) (.cond (.t 63) (.region [.op (some 8) none (.mv (.k (AV.int .i64 8)))]) (.skip))))))))) (.seq (.seq (.region [.op (some 65) none (.mv (.t 8)), .op (some 66) none (.bin .eql (.t 65) (.k (AV.int .i64 0)))]) (.cond (.t 66) (.seq (.region [.op (some 67) none (.mv (.t 0)), .op (some 68) none (.mv (.t 6)), .op (some 69) none (.bin .add (.t 68) (.k (AV.int .i64 1))), .op (some 70) none (.iaddr (.t 67) (.t 69) 1 (.int .u8)), .op (some 71) none (.load (.t 70) none (.int .u8)), .op (some 72) none (.call id_ref01Escape [.t 71] (.int .i32)), .op (some 9) none (.mv (.t 72))]) (.seq (.seq (.region [.op (some 73) none (.mv (.t 9)), .op (some 74) none (.bin .lss (.t 73) (.k (AV.int .i32 0)))]) (.cond (.t 74) (.seq (.region [.op (some 2) none (.mv (.k (AV.str ([] : List UInt8)))), .op (some 3) none (.mv (.k (AV.int .i64 0))), .op (some 4) none (.mv (.k (AV.bool false)))]) (.ret [2, 3, 4] [])) (.skip))) (.seq (.region [.op (some 75) none (.mv (.t 5)), .op (some 76) none (.mv (.t 9)), .op (some 77) none (.call id_ref01Utf8 [.t 76] (.bytes)), .op (some 78) none (.app 5 (.t 75) (.t 77) 1 .any true), .op (some 5) none (.mv (.t 78))]) (.seq (.region [.op (some 79) none (.mv (.t 6)), .op (some 80) none (.bin .add (.t 79) (.k (AV.int .i64 2))), .op (some 6) none (.mv (.t 80))]) (.exit 1 [0, 5, 6] [5]))))) (.skip))) (.seq (.region [.op (some 10) none (.mv (.k (AV.int .i64 0)))]) (.seq (.seq (.region [.op (some 11) none (.mv (.k (AV.int .i64 0)))]) (.block 3 (.loop [0, 5, 6, 8, 10, 11] [5] (ref01TakeDouble_c0)))) (ref01TakeDouble_c1))))))))))))
theorem ref01TakeDouble_L1s_eq (R : Nat → List AV → Option Res) (N : Nat) (K : Ex → St → Option Res) (W : St → Option Res) (s2 : List UInt8) (i1 : Int) (s3 : List UInt8) :
    evC gl R N ref01TakeDouble_c2 (Kseq (fun st' => W (prune [0, 5, 6] [5] st')) K) ⟨[(0, .imm (AV.bytes s2)), (5, .own 5 0 s3.length none), (6, .imm (AV.int .i64 i1))], [(5, .bytes s3 false)]⟩ =
    ref01TakeDouble_L1s R N (fun (s2 : List UInt8) (i1 : Int) (s3 : List UInt8) => W ⟨[(0, .imm (AV.bytes s2)), (5, .own 5 0 s3.length none), (6, .imm (AV.int .i64 i1))], [(5, .bytes s3 false)]⟩) (fun (s36 : List UInt8) (i36 : Int) (b7 : Bool) => K .ret ⟨[(2, .imm (AV.str s36)), (3, .imm (AV.int .i64 i36)), (4, .imm (AV.bool b7))], []⟩) (K (.exit 0) ⟨[], []⟩) s2 i1 s3 := by
  refine Eq.trans (b :=
    bif decide ((i1 : Int) < ((s2.length : Nat) : Int)) then
    (need (decide (0 ≤ (i1 : Int))) <|
    (s2[Int.toNat i1]?).bind fun c2 =>
    bif ((c2.toNat : Int) : Int) == 10 then
    ((fun (s37 : List UInt8) (i37 : Int) (b8 : Bool) => K .ret ⟨[(2, .imm (AV.str s37)), (3, .imm (AV.int .i64 i37)), (4, .imm (AV.bool b8))], []⟩) ([] : List UInt8) 0 false)
    else
    bif ((c2.toNat : Int) : Int) == 13 then
    ((fun (s37 : List UInt8) (i37 : Int) (b8 : Bool) => K .ret ⟨[(2, .imm (AV.str s37)), (3, .imm (AV.int .i64 i37)), (4, .imm (AV.bool b8))], []⟩) ([] : List UInt8) 0 false)
    else
    bif ((c2.toNat : Int) : Int) == 34 then
    ((fun (s37 : List UInt8) (i37 : Int) (b8 : Bool) => K .ret ⟨[(2, .imm (AV.str s37)), (3, .imm (AV.int .i64 i37)), (4, .imm (AV.bool b8))], []⟩) ((s3.drop 0).take s3.length) (IntKind.i64.wrap (i1 + 1)) true)
    else
    bif ((c2.toNat : Int) : Int) != 92 then
    (need (decide (0 ≤ ((c2.toNat : Int) : Int)) && decide (((c2.toNat : Int) : Int) < 256)) <|
    need (decide (((s3.drop 0).take s3.length).length + ([UInt8.ofNat (Int.toNat (c2.toNat : Int))] : List UInt8).length ≤ 1099511627776)) <|
    (fun (s2 : List UInt8) (i1 : Int) (s3 : List UInt8) => W ⟨[(0, .imm (AV.bytes s2)), (5, .own 5 0 s3.length none), (6, .imm (AV.int .i64 i1))], [(5, .bytes s3 false)]⟩) s2 (IntKind.i64.wrap (i1 + 1)) (((s3.drop 0).take s3.length) ++ [UInt8.ofNat (Int.toNat (c2.toNat : Int))]))
    else
    bif decide (((IntKind.i64.wrap (i1 + 1)) : Int) ≥ ((s2.length : Nat) : Int)) then
    ((fun (s37 : List UInt8) (i37 : Int) (b8 : Bool) => K .ret ⟨[(2, .imm (AV.str s37)), (3, .imm (AV.int .i64 i37)), (4, .imm (AV.bool b8))], []⟩) ([] : List UInt8) 0 false)
    else
    need (decide (0 ≤ (IntKind.i64.wrap (i1 + 1) : Int))) <|
    (s2[Int.toNat (IntKind.i64.wrap (i1 + 1))]?).bind fun c3 =>
    bif ((c3.toNat : Int) : Int) == 120 then
    (bif (2 : Int) == 0 then
    (need (decide (0 ≤ (IntKind.i64.wrap (i1 + 1) : Int))) <|
    (s2[Int.toNat (IntKind.i64.wrap (i1 + 1))]?).bind fun c4 =>
    (R id_ref01Escape [AV.int .u8 (c4.toNat : Int)]).bind fun r1 =>
    asI .i32 r1.v fun i2 =>
    bif decide ((i2 : Int) < 0) then
    ((fun (s37 : List UInt8) (i37 : Int) (b8 : Bool) => K .ret ⟨[(2, .imm (AV.str s37)), (3, .imm (AV.int .i64 i37)), (4, .imm (AV.bool b8))], []⟩) ([] : List UInt8) 0 false)
    else
    (R id_ref01Utf8 [AV.int .i32 i2]).bind fun r2 =>
    asY r2.v fun s4 =>
    need (decide (((s3.drop 0).take s3.length).length + s4.length ≤ 1099511627776)) <|
    (fun (s2 : List UInt8) (i1 : Int) (s3 : List UInt8) => W ⟨[(0, .imm (AV.bytes s2)), (5, .own 5 0 s3.length none), (6, .imm (AV.int .i64 i1))], [(5, .bytes s3 false)]⟩) s2 (IntKind.i64.wrap (i1 + 2)) (((s3.drop 0).take s3.length) ++ s4))
    else
    rounds [0, 5, 6, 8, 10, 11] [5] (evC gl R N ref01TakeDouble_c0) (Kblock 3 (Kthen gl R N ref01TakeDouble_c1 (Kblock 1 (Kseq (fun st' => W (prune [0, 5, 6] [5] st')) K)))) N ⟨[(0, .imm (AV.bytes s2)), (5, .own 5 0 s3.length none), (6, .imm (AV.int .i64 i1)), (8, .imm (AV.int .i64 2)), (10, .imm (AV.int .i64 0)), (11, .imm (AV.int .i64 0))], [(5, .bytes s3 false)]⟩)
    else
    bif ((c3.toNat : Int) : Int) == 117 then
    (bif (4 : Int) == 0 then
    (need (decide (0 ≤ (IntKind.i64.wrap (i1 + 1) : Int))) <|
    (s2[Int.toNat (IntKind.i64.wrap (i1 + 1))]?).bind fun c7 =>
    (R id_ref01Escape [AV.int .u8 (c7.toNat : Int)]).bind fun r7 =>
    asI .i32 r7.v fun i21 =>
    bif decide ((i21 : Int) < 0) then
    ((fun (s37 : List UInt8) (i37 : Int) (b8 : Bool) => K .ret ⟨[(2, .imm (AV.str s37)), (3, .imm (AV.int .i64 i37)), (4, .imm (AV.bool b8))], []⟩) ([] : List UInt8) 0 false)
    else
    (R id_ref01Utf8 [AV.int .i32 i21]).bind fun r8 =>
    asY r8.v fun s18 =>
    need (decide (((s3.drop 0).take s3.length).length + s18.length ≤ 1099511627776)) <|
    (fun (s2 : List UInt8) (i1 : Int) (s3 : List UInt8) => W ⟨[(0, .imm (AV.bytes s2)), (5, .own 5 0 s3.length none), (6, .imm (AV.int .i64 i1))], [(5, .bytes s3 false)]⟩) s2 (IntKind.i64.wrap (i1 + 2)) (((s3.drop 0).take s3.length) ++ s18))
    else
    rounds [0, 5, 6, 8, 10, 11] [5] (evC gl R N ref01TakeDouble_c0) (Kblock 3 (Kthen gl R N ref01TakeDouble_c1 (Kblock 1 (Kseq (fun st' => W (prune [0, 5, 6] [5] st')) K)))) N ⟨[(0, .imm (AV.bytes s2)), (5, .own 5 0 s3.length none), (6, .imm (AV.int .i64 i1)), (8, .imm (AV.int .i64 4)), (10, .imm (AV.int .i64 0)), (11, .imm (AV.int .i64 0))], [(5, .bytes s3 false)]⟩)
    else
    bif ((c3.toNat : Int) : Int) == 85 then
    (bif (8 : Int) == 0 then
    (need (decide (0 ≤ (IntKind.i64.wrap (i1 + 1) : Int))) <|
    (s2[Int.toNat (IntKind.i64.wrap (i1 + 1))]?).bind fun c8 =>
    (R id_ref01Escape [AV.int .u8 (c8.toNat : Int)]).bind fun r11 =>
    asI .i32 r11.v fun i26 =>
    bif decide ((i26 : Int) < 0) then
    ((fun (s37 : List UInt8) (i37 : Int) (b8 : Bool) => K .ret ⟨[(2, .imm (AV.str s37)), (3, .imm (AV.int .i64 i37)), (4, .imm (AV.bool b8))], []⟩) ([] : List UInt8) 0 false)
    else
    (R id_ref01Utf8 [AV.int .i32 i26]).bind fun r12 =>
    asY r12.v fun s24 =>
    need (decide (((s3.drop 0).take s3.length).length + s24.length ≤ 1099511627776)) <|
    (fun (s2 : List UInt8) (i1 : Int) (s3 : List UInt8) => W ⟨[(0, .imm (AV.bytes s2)), (5, .own 5 0 s3.length none), (6, .imm (AV.int .i64 i1))], [(5, .bytes s3 false)]⟩) s2 (IntKind.i64.wrap (i1 + 2)) (((s3.drop 0).take s3.length) ++ s24))
    else
    rounds [0, 5, 6, 8, 10, 11] [5] (evC gl R N ref01TakeDouble_c0) (Kblock 3 (Kthen gl R N ref01TakeDouble_c1 (Kblock 1 (Kseq (fun st' => W (prune [0, 5, 6] [5] st')) K)))) N ⟨[(0, .imm (AV.bytes s2)), (5, .own 5 0 s3.length none), (6, .imm (AV.int .i64 i1)), (8, .imm (AV.int .i64 8)), (10, .imm (AV.int .i64 0)), (11, .imm (AV.int .i64 0))], [(5, .bytes s3 false)]⟩)
    else
    bif (0 : Int) == 0 then
    (need (decide (0 ≤ (IntKind.i64.wrap (i1 + 1) : Int))) <|
    (s2[Int.toNat (IntKind.i64.wrap (i1 + 1))]?).bind fun c9 =>
    (R id_ref01Escape [AV.int .u8 (c9.toNat : Int)]).bind fun r15 =>
    asI .i32 r15.v fun i31 =>
    bif decide ((i31 : Int) < 0) then
    ((fun (s37 : List UInt8) (i37 : Int) (b8 : Bool) => K .ret ⟨[(2, .imm (AV.str s37)), (3, .imm (AV.int .i64 i37)), (4, .imm (AV.bool b8))], []⟩) ([] : List UInt8) 0 false)
    else
    (R id_ref01Utf8 [AV.int .i32 i31]).bind fun r16 =>
    asY r16.v fun s30 =>
    need (decide (((s3.drop 0).take s3.length).length + s30.length ≤ 1099511627776)) <|
    (fun (s2 : List UInt8) (i1 : Int) (s3 : List UInt8) => W ⟨[(0, .imm (AV.bytes s2)), (5, .own 5 0 s3.length none), (6, .imm (AV.int .i64 i1))], [(5, .bytes s3 false)]⟩) s2 (IntKind.i64.wrap (i1 + 2)) (((s3.drop 0).take s3.length) ++ s30))
    else
    rounds [0, 5, 6, 8, 10, 11] [5] (evC gl R N ref01TakeDouble_c0) (Kblock 3 (Kthen gl R N ref01TakeDouble_c1 (Kblock 1 (Kseq (fun st' => W (prune [0, 5, 6] [5] st')) K)))) N ⟨[(0, .imm (AV.bytes s2)), (5, .own 5 0 s3.length none), (6, .imm (AV.int .i64 i1)), (8, .imm (AV.int .i64 0)), (10, .imm (AV.int .i64 0)), (11, .imm (AV.int .i64 0))], [(5, .bytes s3 false)]⟩)
    else
    (K (.exit 0) ⟨[], []⟩)) (by kernel_rfl) ?_
  simp (config := { maxSteps := 100000000 }) only [ref01TakeDouble_L2_eq]
  kernel_rfl
theorem ref01TakeDouble_L1_eq (R : Nat → List AV → Option Res) (N : Nat) (K : Ex → St → Option Res) : ∀ (n : Nat) (s2 : List UInt8) (i1 : Int) (s3 : List UInt8),
    rounds [0, 5, 6] [5] (evC gl R N ref01TakeDouble_c2) K n ⟨[(0, .imm (AV.bytes s2)), (5, .own 5 0 s3.length none), (6, .imm (AV.int .i64 i1))], [(5, .bytes s3 false)]⟩ = ref01TakeDouble_L1 R N (fun (s36 : List UInt8) (i36 : Int) (b7 : Bool) => K .ret ⟨[(2, .imm (AV.str s36)), (3, .imm (AV.int .i64 i36)), (4, .imm (AV.bool b7))], []⟩) (K (.exit 0) ⟨[], []⟩) n s2 i1 s3
  | 0, _, _, _ => rfl
  | n + 1, s2, i1, s3 => (ref01TakeDouble_L1s_eq R N K (rounds [0, 5, 6] [5] (evC gl R N ref01TakeDouble_c2) K n) s2 i1 s3).trans
      (congrArg (fun go => ref01TakeDouble_L1s R N go (fun (s36 : List UInt8) (i36 : Int) (b7 : Bool) => K .ret ⟨[(2, .imm (AV.str s36)), (3, .imm (AV.int .i64 i36)), (4, .imm (AV.bool b7))], []⟩) (K (.exit 0) ⟨[], []⟩) s2 i1 s3) (funext fun s2 => funext fun i1 => funext fun s3 => ref01TakeDouble_L1_eq R N K n s2 i1 s3))
def ref01TakeDouble_c3 : AC := .seq (.region [.op (some 2) none (.mv (.k (AV.str ([] : List UInt8)))), .op (some 3) none (.mv (.k (AV.int .i64 0))), .op (some 4) none (.mv (.k (AV.bool false)))]) (.ret [2, 3, 4] [])
def ref01TakeDouble_c4 : AC := .seq (.region [.op (some 2) none (.mv (.k (AV.str ([] : List UInt8)))), .op (some 3) none (.mv (.k (AV.int .i64 0))), .op (some 4) none (.mv (.k (AV.bool false)))]) (.seq (.seq (.region [.op (some 12) none (.mv (.t 0)), .op (some 13) none (.len (.t 12) false), .op (some 14) none (.bin .eql (.t 13) (.k (AV.int .i64 0))), .op (some 15) none (.mv (.t 14)), .split 15, .op (some 16) (some (15, false)) (.mv (.t 0)), .op (some 17) (some (15, false)) (.iaddr (.t 16) (.k (AV.int .i64 0)) 1 (.int .u8)), .op (some 18) (some (15, false)) (.load (.t 17) none (.int .u8)), .op (some 19) (some (15, false)) (.bin .neq (.t 18) (.k (AV.int .u8 34))), .op (some 20) none (.pick (.t 15) (.k (AV.bool true)) (.t 19))]) (.cond (.t 20) (.seq (.region [.op (some 2) none (.mv (.k (AV.str ([] : List UInt8)))), .op (some 3) none (.mv (.k (AV.int .i64 0))), .op (some 4) none (.mv (.k (AV.bool false)))]) (.ret [2, 3, 4] [])) (.skip))) (.seq (.region [.op (some 5) none (.nilOwn 5 none)]) (.seq (.region [.op (some 6) none (.mv (.k (AV.int .i64 1)))]) (.seq (.block 0 (.loop [0, 5, 6] [5] (ref01TakeDouble_c2))) (ref01TakeDouble_c3)))))
def ref01TakeDouble : AFunc := ⟨1, 134, [.tmp 2, .tmp 3, .tmp 4], ref01TakeDouble_c4⟩
def ref01TakeDoubler (R : Nat → List AV → Option Res) (N : Nat) (s1 : List UInt8) : Option Res :=
  bif (((s1.length : Nat) : Int) : Int) == 0 then
    (some ⟨AV.tup [AV.str ([] : List UInt8), AV.int .i64 0, AV.bool false], false, []⟩)
  else
    need (decide (0 ≤ (0 : Int))) <|
    (s1[Int.toNat 0]?).bind fun c1 =>
    bif ((c1.toNat : Int) : Int) != 34 then
    (some ⟨AV.tup [AV.str ([] : List UInt8), AV.int .i64 0, AV.bool false], false, []⟩)
    else
    ref01TakeDouble_L1 R N
      (fun s38 i38 b9 =>
    some ⟨AV.tup [AV.str s38, AV.int .i64 i38, AV.bool b9], false, []⟩)
      (
    some ⟨AV.tup [AV.str ([] : List UInt8), AV.int .i64 0, AV.bool false], false, []⟩)
      N s1 1 []
theorem ref01TakeDouble_eq (R : Nat → List AV → Option Res) (N : Nat) (s1 : List UInt8) : runF gl R N ref01TakeDouble [AV.bytes s1] = ref01TakeDoubler R N s1 := by
  refine Eq.trans (b :=
    bif (((s1.length : Nat) : Int) : Int) == 0 then
    (some ⟨AV.tup [AV.str ([] : List UInt8), AV.int .i64 0, AV.bool false], false, []⟩)
    else
    need (decide (0 ≤ (0 : Int))) <|
    (s1[Int.toNat 0]?).bind fun c1 =>
    bif ((c1.toNat : Int) : Int) != 34 then
    (some ⟨AV.tup [AV.str ([] : List UInt8), AV.int .i64 0, AV.bool false], false, []⟩)
    else
    rounds [0, 5, 6] [5] (evC gl R N ref01TakeDouble_c2) (Kblock 0 (Kthen gl R N ref01TakeDouble_c3 (Kret ref01TakeDouble.rets []))) N ⟨[(0, .imm (AV.bytes s1)), (5, .own 5 0 (([] : List UInt8).length) none), (6, .imm (AV.int .i64 1))], [(5, .bytes [] false)]⟩) (by kernel_rfl) ?_
  simp (config := { maxSteps := 100000000 }) only [ref01TakeDouble_L1_eq]
  kernel_rfl
theorem ref01TakeDouble_fit : fitF Tryd.prog ref01TakeDouble Tryd.f34 = true := by
  kernel_rfl

def ref18ParsePath_L2s (R : Nat → List AV → Option Res) (N : Nat) (go : List UInt8 → Int → List AV → Option Res) (k0 : List UInt8 → Int → List AV → Option Res) (s4 : List UInt8) (i6 : Int) (l2 : List AV) : Option Res :=
  bif decide ((i6 : Int) < ((s4.length : Nat) : Int)) then
    (need (decide (0 ≤ (i6 : Int))) <|
    (s4[Int.toNat i6]?).bind fun c8 =>
    (R id_ref01Letter [AV.int .u8 (c8.toNat : Int)]).bind fun r4 =>
    asB r4.v fun b2 =>
    bif b2 then
    (go s4 (IntKind.i64.wrap (i6 + 1)) l2)
    else
    k0 s4 i6 l2)
  else
    k0 s4 i6 l2
def ref18ParsePath_L2 (R : Nat → List AV → Option Res) (N : Nat) (k0 : List UInt8 → Int → List AV → Option Res) : Nat → List UInt8 → Int → List AV → Option Res
  | 0, _, _, _ => none
  | n + 1, s4, i6, l2 => ref18ParsePath_L2s R N (ref18ParsePath_L2 R N k0 n) k0 s4 i6 l2
def ref18ParsePath_c0 : AC := .seq (.seq (.region [.op (some 97) none (.mv (.t 12)), .op (some 98) none (.mv (.t 0)), .op (some 99) none (.len (.t 98) true), .op (some 100) none (.bin .lss (.t 97) (.t 99)), .op (some 101) none (.mv (.t 100)), .split 101, .op (some 102) (some (101, true)) (.mv (.t 0)), .op (some 103) (some (101, true)) (.mv (.t 12)), .op (some 104) (some (101, true)) (.index (.t 102) (.t 103)), .op (some 105) (some (101, true)) (.call id_ref01Letter [.t 104] (.bool)), .op (some 106) none (.pick (.t 101) (.t 105) (.k (AV.bool false)))]) (.cond (.t 106) (.skip) (.exit 3 [0, 4, 12] [4]))) (.block 4 (.region [.op (some 107) none (.mv (.t 12)), .op (some 108) none (.bin .add (.t 107) (.k (AV.int .i64 1))), .op (some 12) none (.mv (.t 108))]))
theorem ref18ParsePath_L2s_eq (R : Nat → List AV → Option Res) (N : Nat) (K : Ex → St → Option Res) (W : St → Option Res) (s4 : List UInt8) (i6 : Int) (l2 : List AV) :
    evC gl R N ref18ParsePath_c0 (Kseq (fun st' => W (prune [0, 4, 12] [4] st')) K) ⟨[(0, .imm (AV.str s4)), (4, .own 4 0 l2.length none), (12, .imm (AV.int .i64 i6))], [(4, .row 3 l2 false)]⟩ =
    ref18ParsePath_L2s R N (fun (s4 : List UInt8) (i6 : Int) (l2 : List AV) => W ⟨[(0, .imm (AV.str s4)), (4, .own 4 0 l2.length none), (12, .imm (AV.int .i64 i6))], [(4, .row 3 l2 false)]⟩) (fun (s5 : List UInt8) (i7 : Int) (l3 : List AV) => K (.exit 3) ⟨[(0, .imm (AV.str s5)), (4, .own 4 0 l3.length none), (12, .imm (AV.int .i64 i7))], [(4, .row 3 l3 false)]⟩) s4 i6 l2 := by
  kernel_rfl
theorem ref18ParsePath_L2_eq (R : Nat → List AV → Option Res) (N : Nat) (K : Ex → St → Option Res) : ∀ (n : Nat) (s4 : List UInt8) (i6 : Int) (l2 : List AV),
    rounds [0, 4, 12] [4] (evC gl R N ref18ParsePath_c0) K n ⟨[(0, .imm (AV.str s4)), (4, .own 4 0 l2.length none), (12, .imm (AV.int .i64 i6))], [(4, .row 3 l2 false)]⟩ = ref18ParsePath_L2 R N (fun (s5 : List UInt8) (i7 : Int) (l3 : List AV) => K (.exit 3) ⟨[(0, .imm (AV.str s5)), (4, .own 4 0 l3.length none), (12, .imm (AV.int .i64 i7))], [(4, .row 3 l3 false)]⟩) n s4 i6 l2
  | 0, _, _, _ => rfl
  | n + 1, s4, i6, l2 => (ref18ParsePath_L2s_eq R N K (rounds [0, 4, 12] [4] (evC gl R N ref18ParsePath_c0) K n) s4 i6 l2).trans
      (congrArg (fun go => ref18ParsePath_L2s R N go (fun (s5 : List UInt8) (i7 : Int) (l3 : List AV) => K (.exit 3) ⟨[(0, .imm (AV.str s5)), (4, .own 4 0 l3.length none), (12, .imm (AV.int .i64 i7))], [(4, .row 3 l3 false)]⟩) s4 i6 l2) (funext fun s4 => funext fun i6 => funext fun l2 => ref18ParsePath_L2_eq R N K n s4 i6 l2))
def ref18ParsePath_L1s (R : Nat → List AV → Option Res) (N : Nat) (go : List UInt8 → List AV → Option Res) (k0 : Int → List AV → Option Res) (k1 : List AV → Option Res) (s2 : List UInt8) (l1 : List AV) : Option Res :=
  bif !(s2 == ([] : List UInt8)) then
    (need (decide (0 ≤ (0 : Int))) <|
    (s2[Int.toNat 0]?).bind fun c2 =>
    bif ((c2.toNat : Int) : Int) == 91 then
    (need (decide (0 ≤ (1 : Int)) && decide ((1 : Int) ≤ ((s2.length : Nat) : Int))) <|
    (R id_ref18Number [AV.str ((s2.take s2.length).drop (Int.toNat 1))]).bind fun r2 =>
    asIIT r2.v fun i3 i4 =>
    bif (i4 : Int) == 0 then
    (k0 6 [])
    else
    bif decide (((IntKind.i64.wrap (1 + i4)) : Int) ≥ ((s2.length : Nat) : Int)) then
    (k0 6 [])
    else
    need (decide (0 ≤ (IntKind.i64.wrap (1 + i4) : Int))) <|
    (s2[Int.toNat (IntKind.i64.wrap (1 + i4))]?).bind fun c3 =>
    bif ((c3.toNat : Int) : Int) != 93 then
    (k0 6 [])
    else
    need (decide (0 ≤ (IntKind.i64.wrap (i4 + 2) : Int)) && decide ((IntKind.i64.wrap (i4 + 2) : Int) ≤ ((s2.length : Nat) : Int))) <|
    need (decide (((l1.drop 0).take l1.length).length + [AV.agg [AV.int .i64 3, AV.str [], AV.int .i64 i3]].length ≤ 1099511627776)) <|
    go ((s2.take s2.length).drop (Int.toNat (IntKind.i64.wrap (i4 + 2)))) (((l1.drop 0).take l1.length) ++ [AV.agg [AV.int .i64 3, AV.str [], AV.int .i64 i3]]))
    else
    need (decide (0 ≤ (0 : Int))) <|
    (s2[Int.toNat 0]?).bind fun c4 =>
    bif ((c4.toNat : Int) : Int) != 46 then
    (k0 6 [])
    else
    bif decide ((((s2.length : Nat) : Int) : Int) < 2) then
    (k0 6 [])
    else
    need (decide (0 ≤ (1 : Int)) && decide ((1 : Int) ≤ ((s2.length : Nat) : Int))) <|
    need (decide (0 ≤ (0 : Int))) <|
    (((s2.take s2.length).drop (Int.toNat 1))[Int.toNat 0]?).bind fun c5 =>
    bif ((c5.toNat : Int) : Int) == 46 then
    (need (decide (0 ≤ (1 : Int)) && decide ((1 : Int) ≤ ((((s2.take s2.length).drop (Int.toNat 1)).length : Nat) : Int))) <|
    need (decide (((l1.drop 0).take l1.length).length + [AV.agg [AV.int .i64 5, AV.str [], AV.int .i64 0]].length ≤ 1099511627776)) <|
    go ((((s2.take s2.length).drop (Int.toNat 1)).take (((s2.take s2.length).drop (Int.toNat 1)).length)).drop (Int.toNat 1)) (((l1.drop 0).take l1.length) ++ [AV.agg [AV.int .i64 5, AV.str [], AV.int .i64 0]]))
    else
    need (decide (0 ≤ (0 : Int))) <|
    (((s2.take s2.length).drop (Int.toNat 1))[Int.toNat 0]?).bind fun c6 =>
    bif ((c6.toNat : Int) : Int) == 42 then
    (need (decide (0 ≤ (1 : Int)) && decide ((1 : Int) ≤ ((((s2.take s2.length).drop (Int.toNat 1)).length : Nat) : Int))) <|
    need (decide (((l1.drop 0).take l1.length).length + [AV.agg [AV.int .i64 4, AV.str [], AV.int .i64 0]].length ≤ 1099511627776)) <|
    go ((((s2.take s2.length).drop (Int.toNat 1)).take (((s2.take s2.length).drop (Int.toNat 1)).length)).drop (Int.toNat 1)) (((l1.drop 0).take l1.length) ++ [AV.agg [AV.int .i64 4, AV.str [], AV.int .i64 0]]))
    else
    need (decide (0 ≤ (0 : Int))) <|
    (((s2.take s2.length).drop (Int.toNat 1))[Int.toNat 0]?).bind fun c7 =>
    bif ((c7.toNat : Int) : Int) == 34 then
    ((R id_ref01TakeDouble [AV.bytes ((s2.take s2.length).drop (Int.toNat 1))]).bind fun r3 =>
    asSIBT r3.v fun s3 i5 b1 =>
    bif !b1 then
    (k0 6 [])
    else
    need (decide (0 ≤ (i5 : Int)) && decide ((i5 : Int) ≤ ((((s2.take s2.length).drop (Int.toNat 1)).length : Nat) : Int))) <|
    need (decide (((l1.drop 0).take l1.length).length + [AV.agg [AV.int .i64 2, AV.str s3, AV.int .i64 0]].length ≤ 1099511627776)) <|
    go ((((s2.take s2.length).drop (Int.toNat 1)).take (((s2.take s2.length).drop (Int.toNat 1)).length)).drop (Int.toNat i5)) (((l1.drop 0).take l1.length) ++ [AV.agg [AV.int .i64 2, AV.str s3, AV.int .i64 0]]))
    else
    ref18ParsePath_L2 R N
      (fun s7 i9 l5 =>
    need (decide (0 ≤ (i9 : Int)) && decide ((i9 : Int) ≤ ((s7.length : Nat) : Int))) <|
    (R id_ref01Name [AV.str ((s7.take (Int.toNat i9)).drop 0)]).bind fun r5 =>
    asB r5.v fun b3 =>
    bif !b3 then
    (k0 6 [])
    else
    need (decide (0 ≤ (i9 : Int)) && decide ((i9 : Int) ≤ ((s7.length : Nat) : Int))) <|
    need (decide (0 ≤ (i9 : Int)) && decide ((i9 : Int) ≤ ((s7.length : Nat) : Int))) <|
    need (decide (((l5.drop 0).take l5.length).length + [AV.agg [AV.int .i64 2, AV.str ((s7.take (Int.toNat i9)).drop 0), AV.int .i64 0]].length ≤ 1099511627776)) <|
    go ((s7.take s7.length).drop (Int.toNat i9)) (((l5.drop 0).take l5.length) ++ [AV.agg [AV.int .i64 2, AV.str ((s7.take (Int.toNat i9)).drop 0), AV.int .i64 0]]))
      N ((s2.take s2.length).drop (Int.toNat 1)) 0 l1)
  else
    k1 l1
def ref18ParsePath_L1 (R : Nat → List AV → Option Res) (N : Nat) (k0 : Int → List AV → Option Res) (k1 : List AV → Option Res) : Nat → List UInt8 → List AV → Option Res
  | 0, _, _ => none
  | n + 1, s2, l1 => ref18ParsePath_L1s R N (ref18ParsePath_L1 R N k0 k1 n) k0 k1 s2 l1
def ref18ParsePath_c1 : AC := .seq (.seq (.region [.op (some 109) none (.mv (.t 0)), .op (some 110) none (.mv (.t 12)), .op (some 111) none (.sliceS (.t 109) none (some (.t 110))), .op (some 112) none (.call id_ref01Name [.t 111] (.bool)), .op (some 113) none (.un .not (.t 112))]) (.cond (.t 113) (.seq (.region [.op (some 2) none (.nilOwn 4 (some (3, .any))), .op (some 3) none (.mv (.k (AV.int .i64 6)))]) (.ret [2, 3] [4])) (.skip))) (.regionA [0, 4] [4] [114, 119] [.op (some 114) none (.mv (.t 4)), .op (some 115) none (.mv (.t 0)), .op (some 116) none (.mv (.t 12)), .op (some 117) none (.sliceS (.t 115) none (some (.t 116))), .op (some 118) none (.build [AV.int .i64 0, AV.str [], AV.int .i64 0] [(0, 1, .k (AV.int .i64 2)), (1, 1, .t 117)]), .op (some 119) none (.bslice [.t 118] 3 false)] 120 4 4 (.t 114) (.t 119) 3 .any false [.op (some 121) none (.mv (.t 0)), .op (some 122) none (.mv (.t 12)), .op (some 123) none (.sliceS (.t 121) (some (.t 122)) none)] [.op (some 0) none (.mv (.t 123))])
def ref18ParsePath_c2 : AC := .seq (.seq (.region [.op (some 51) none (.mv (.t 0)), .op (some 52) none (.bin .neq (.t 51) (.k (AV.str ([] : List UInt8))))]) (.cond (.t 52) (.skip) (.exit 0 [4] [4]))) (.block 1 (.seq (.seq (.region [.op (some 53) none (.mv (.t 0)), .op (some 54) none (.index (.t 53) (.k (AV.int .i64 0))), .op (some 55) none (.bin .eql (.t 54) (.k (AV.int .u8 91)))]) (.cond (.t 55) (.seq (.region [.op (some 57) none (.mv (.t 0)), .op (some 58) none (.sliceS (.t 57) (some (.k (AV.int .i64 1))) none), .op (some 59) none (.call id_ref18Number [.t 58] (.tup [.int .i64, .int .i64])), .op (some 56) none (.mv (.t 59)), .op (some 60) none (.extract (.t 56) 0), .op (some 61) none (.extract (.t 56) 1), .op (some 7) none (.mv (.t 60)), .op (some 8) none (.mv (.t 61))]) (.seq (.seq (.region [.op (some 62) none (.mv (.t 8)), .op (some 63) none (.bin .eql (.t 62) (.k (AV.int .i64 0))), .op (some 64) none (.mv (.t 63)), .split 64, .op (some 65) (some (64, false)) (.mv (.t 8)), .op (some 66) (some (64, false)) (.bin .add (.k (AV.int .i64 1)) (.t 65)), .op (some 67) (some (64, false)) (.mv (.t 0)), .op (some 68) (some (64, false)) (.len (.t 67) true), .op (some 69) (some (64, false)) (.bin .geq (.t 66) (.t 68)), .op (some 70) none (.pick (.t 64) (.k (AV.bool true)) (.t 69)), .op (some 71) none (.mv (.t 70)), .split 71, .op (some 72) (some (71, false)) (.mv (.t 0)), .op (some 73) (some (71, false)) (.mv (.t 8)), .op (some 74) (some (71, false)) (.bin .add (.k (AV.int .i64 1)) (.t 73)), .op (some 75) (some (71, false)) (.index (.t 72) (.t 74)), .op (some 76) (some (71, false)) (.bin .neq (.t 75) (.k (AV.int .u8 93))), .op (some 77) none (.pick (.t 71) (.k (AV.bool true)) (.t 76))]) (.cond (.t 77) (.seq (.region [.op (some 2) none (.nilOwn 4 (some (3, .any))), .op (some 3) none (.mv (.k (AV.int .i64 6)))]) (.ret [2, 3] [4])) (.skip))) (.seq (.regionA [0, 4] [4] [78, 81] [.op (some 78) none (.mv (.t 4)), .op (some 79) none (.mv (.t 7)), .op (some 80) none (.build [AV.int .i64 0, AV.str [], AV.int .i64 0] [(0, 1, .k (AV.int .i64 3)), (2, 1, .t 79)]), .op (some 81) none (.bslice [.t 80] 3 false)] 82 4 4 (.t 78) (.t 81) 3 .any false [.op (some 83) none (.mv (.t 0)), .op (some 84) none (.mv (.t 8)), .op (some 85) none (.bin .add (.t 84) (.k (AV.int .i64 2))), .op (some 86) none (.sliceS (.t 83) (some (.t 85)) none)] [.op (some 0) none (.mv (.t 86))]) (.exit 1 [0, 4] [4])))) (.skip))) (.seq (.seq (.region [.op (some 87) none (.mv (.t 0)), .op (some 88) none (.index (.t 87) (.k (AV.int .i64 0))), .op (some 89) none (.bin .neq (.t 88) (.k (AV.int .u8 46))), .op (some 90) none (.mv (.t 89)), .split 90, .op (some 91) (some (90, false)) (.mv (.t 0)), .op (some 92) (some (90, false)) (.len (.t 91) true), .op (some 93) (some (90, false)) (.bin .lss (.t 92) (.k (AV.int .i64 2))), .op (some 94) none (.pick (.t 90) (.k (AV.bool true)) (.t 93))]) (.cond (.t 94) (.seq (.region [.op (some 2) none (.nilOwn 4 (some (3, .any))), .op (some 3) none (.mv (.k (AV.int .i64 6)))]) (.ret [2, 3] [4])) (.skip))) (.seq (.region [.op (some 95) none (.mv (.t 0)), .op (some 96) none (.sliceS (.t 95) (some (.k (AV.int .i64 1))) none), .op (some 0) none (.mv (.t 96))]) (.block 2 (.seq (.region [.op (some 125) none (.mv (.t 0)), .op (some 126) none (.index (.t 125) (.k (AV.int .i64 0))), .op (some 127) none (.bin .eql (.t 126) (.k (AV.int .u8 46))), .op (some 124) none (.mv (.t 127))]) (.cond (.t 124) (.regionA [0, 4] [4] [128, 130] [.op (some 128) none (.mv (.t 4)), .op (some 129) none (.build [AV.int .i64 0, AV.str [], AV.int .i64 0] [(0, 1, .k (AV.int .i64 5))]), .op (some 130) none (.bslice [.t 129] 3 false)] 131 4 4 (.t 128) (.t 130) 3 .any false [.op (some 132) none (.mv (.t 0)), .op (some 133) none (.sliceS (.t 132) (some (.k (AV.int .i64 1))) none)] [.op (some 0) none (.mv (.t 133))]) (.seq (.region [.op (some 135) none (.mv (.t 0)), .op (some 136) none (.index (.t 135) (.k (AV.int .i64 0))), .op (some 137) none (.bin .eql (.t 136) (.k (AV.int .u8 42))), .op (some 134) none (.mv (.t 137))]) (.cond (.t 134) (.regionA [0, 4] [4] [138, 140] [.op (some 138) none (.mv (.t 4)), .op (some 139) none (.build [AV.int .i64 0, AV.str [], AV.int .i64 0] [(0, 1, .k (AV.int .i64 4))]), .op (some 140) none (.bslice [.t 139] 3 false)] 141 4 4 (.t 138) (.t 140) 3 .any false [.op (some 142) none (.mv (.t 0)), .op (some 143) none (.sliceS (.t 142) (some (.k (AV.int .i64 1))) none)] [.op (some 0) none (.mv (.t 143))]) (.seq (.region [.op (some 145) none (.mv (.t 0)), .op (some 146) none (.index (.t 145) (.k (AV.int .i64 0))), .op (some 147) none (.bin .eql (.t 146) (.k (AV.int .u8 34))), .op (some 144) none (.mv (.t 147))]) (.cond (.t 144) (.seq (.region [.op (some 149) none (.mv (.t 0)), .op (some 150) none (.cvBytes (.t 149)), .op (some 151) none (.call id_ref01TakeDouble [.t 150] (.tup [.str, .int .i64, .bool])), .op (some 148) none (.mv (.t 151)), .op (some 152) none (.extract (.t 148) 0), .op (some 153) none (.extract (.t 148) 1), .op (some 154) none (.extract (.t 148) 2), .op (some 9) none (.mv (.t 152)), .op (some 10) none (.mv (.t 153)), .op (some 11) none (.mv (.t 154))]) (.seq (.seq (.region [.op (some 155) none (.mv (.t 11)), .op (some 156) none (.un .not (.t 155))]) (.cond (.t 156) (.seq (.region [.op (some 2) none (.nilOwn 4 (some (3, .any))), .op (some 3) none (.mv (.k (AV.int .i64 6)))]) (.ret [2, 3] [4])) (.skip))) (.regionA [0, 4] [4] [157, 160] [.op (some 157) none (.mv (.t 4)), .op (some 158) none (.mv (.t 9)), .op (some 159) none (.build [AV.int .i64 0, AV.str [], AV.int .i64 0] [(0, 1, .k (AV.int .i64 2)), (1, 1, .t 158)]), .op (some 160) none (.bslice [.t 159] 3 false)] 161 4 4 (.t 157) (.t 160) 3 .any false [.op (some 162) none (.mv (.t 0)), .op (some 163) none (.mv (.t 10)), .op (some 164) none (.sliceS (.t 162) (some (.t 163)) none)] [.op (some 0) none (.mv (.t 164))]))) (.seq (.region [.op (some 12) none (.mv (.k (AV.int .i64 0)))]) (.seq (.block 3 (.loop [0, 4, 12] [4] (ref18ParsePath_c0))) (ref18ParsePath_c1))))))))))))))
theorem ref18ParsePath_L1s_eq (R : Nat → List AV → Option Res) (N : Nat) (K : Ex → St → Option Res) (W : St → Option Res) (s2 : List UInt8) (l1 : List AV) :
    evC gl R N ref18ParsePath_c2 (Kseq (fun st' => W (prune [0, 4] [4] st')) K) ⟨[(0, .imm (AV.str s2)), (4, .own 4 0 l1.length none)], [(4, .row 3 l1 false)]⟩ =
    ref18ParsePath_L1s R N (fun (s2 : List UInt8) (l1 : List AV) => W ⟨[(0, .imm (AV.str s2)), (4, .own 4 0 l1.length none)], [(4, .row 3 l1 false)]⟩) (fun (i10 : Int) (l6 : List AV) => K .ret ⟨[(2, .own 4 0 l6.length none), (3, .imm (AV.int .i64 i10))], [(4, .row 3 l6 false)]⟩) (fun (l7 : List AV) => K (.exit 0) ⟨[(4, .own 4 0 l7.length none)], [(4, .row 3 l7 false)]⟩) s2 l1 := by
  refine Eq.trans (b :=
    bif !(s2 == ([] : List UInt8)) then
    (need (decide (0 ≤ (0 : Int))) <|
    (s2[Int.toNat 0]?).bind fun c2 =>
    bif ((c2.toNat : Int) : Int) == 91 then
    (need (decide (0 ≤ (1 : Int)) && decide ((1 : Int) ≤ ((s2.length : Nat) : Int))) <|
    (R id_ref18Number [AV.str ((s2.take s2.length).drop (Int.toNat 1))]).bind fun r2 =>
    asIIT r2.v fun i3 i4 =>
    bif (i4 : Int) == 0 then
    ((fun (i11 : Int) (l8 : List AV) => K .ret ⟨[(2, .own 4 0 l8.length none), (3, .imm (AV.int .i64 i11))], [(4, .row 3 l8 false)]⟩) 6 [])
    else
    bif decide (((IntKind.i64.wrap (1 + i4)) : Int) ≥ ((s2.length : Nat) : Int)) then
    ((fun (i11 : Int) (l8 : List AV) => K .ret ⟨[(2, .own 4 0 l8.length none), (3, .imm (AV.int .i64 i11))], [(4, .row 3 l8 false)]⟩) 6 [])
    else
    need (decide (0 ≤ (IntKind.i64.wrap (1 + i4) : Int))) <|
    (s2[Int.toNat (IntKind.i64.wrap (1 + i4))]?).bind fun c3 =>
    bif ((c3.toNat : Int) : Int) != 93 then
    ((fun (i11 : Int) (l8 : List AV) => K .ret ⟨[(2, .own 4 0 l8.length none), (3, .imm (AV.int .i64 i11))], [(4, .row 3 l8 false)]⟩) 6 [])
    else
    need (decide (0 ≤ (IntKind.i64.wrap (i4 + 2) : Int)) && decide ((IntKind.i64.wrap (i4 + 2) : Int) ≤ ((s2.length : Nat) : Int))) <|
    need (decide (((l1.drop 0).take l1.length).length + [AV.agg [AV.int .i64 3, AV.str [], AV.int .i64 i3]].length ≤ 1099511627776)) <|
    (fun (s2 : List UInt8) (l1 : List AV) => W ⟨[(0, .imm (AV.str s2)), (4, .own 4 0 l1.length none)], [(4, .row 3 l1 false)]⟩) ((s2.take s2.length).drop (Int.toNat (IntKind.i64.wrap (i4 + 2)))) (((l1.drop 0).take l1.length) ++ [AV.agg [AV.int .i64 3, AV.str [], AV.int .i64 i3]]))
    else
    need (decide (0 ≤ (0 : Int))) <|
    (s2[Int.toNat 0]?).bind fun c4 =>
    bif ((c4.toNat : Int) : Int) != 46 then
    ((fun (i11 : Int) (l8 : List AV) => K .ret ⟨[(2, .own 4 0 l8.length none), (3, .imm (AV.int .i64 i11))], [(4, .row 3 l8 false)]⟩) 6 [])
    else
    bif decide ((((s2.length : Nat) : Int) : Int) < 2) then
    ((fun (i11 : Int) (l8 : List AV) => K .ret ⟨[(2, .own 4 0 l8.length none), (3, .imm (AV.int .i64 i11))], [(4, .row 3 l8 false)]⟩) 6 [])
    else
    need (decide (0 ≤ (1 : Int)) && decide ((1 : Int) ≤ ((s2.length : Nat) : Int))) <|
    need (decide (0 ≤ (0 : Int))) <|
    (((s2.take s2.length).drop (Int.toNat 1))[Int.toNat 0]?).bind fun c5 =>
    bif ((c5.toNat : Int) : Int) == 46 then
    (need (decide (0 ≤ (1 : Int)) && decide ((1 : Int) ≤ ((((s2.take s2.length).drop (Int.toNat 1)).length : Nat) : Int))) <|
    need (decide (((l1.drop 0).take l1.length).length + [AV.agg [AV.int .i64 5, AV.str [], AV.int .i64 0]].length ≤ 1099511627776)) <|
    (fun (s2 : List UInt8) (l1 : List AV) => W ⟨[(0, .imm (AV.str s2)), (4, .own 4 0 l1.length none)], [(4, .row 3 l1 false)]⟩) ((((s2.take s2.length).drop (Int.toNat 1)).take (((s2.take s2.length).drop (Int.toNat 1)).length)).drop (Int.toNat 1)) (((l1.drop 0).take l1.length) ++ [AV.agg [AV.int .i64 5, AV.str [], AV.int .i64 0]]))
    else
    need (decide (0 ≤ (0 : Int))) <|
    (((s2.take s2.length).drop (Int.toNat 1))[Int.toNat 0]?).bind fun c6 =>
    bif ((c6.toNat : Int) : Int) == 42 then
    (need (decide (0 ≤ (1 : Int)) && decide ((1 : Int) ≤ ((((s2.take s2.length).drop (Int.toNat 1)).length : Nat) : Int))) <|
    need (decide (((l1.drop 0).take l1.length).length + [AV.agg [AV.int .i64 4, AV.str [], AV.int .i64 0]].length ≤ 1099511627776)) <|
    (fun (s2 : List UInt8) (l1 : List AV) => W ⟨[(0, .imm (AV.str s2)), (4, .own 4 0 l1.length none)], [(4, .row 3 l1 false)]⟩) ((((s2.take s2.length).drop (Int.toNat 1)).take (((s2.take s2.length).drop (Int.toNat 1)).length)).drop (Int.toNat 1)) (((l1.drop 0).take l1.length) ++ [AV.agg [AV.int .i64 4, AV.str [], AV.int .i64 0]]))
    else
    need (decide (0 ≤ (0 : Int))) <|
    (((s2.take s2.length).drop (Int.toNat 1))[Int.toNat 0]?).bind fun c7 =>
    bif ((c7.toNat : Int) : Int) == 34 then
    ((R id_ref01TakeDouble [AV.bytes ((s2.take s2.length).drop (Int.toNat 1))]).bind fun r3 =>
    asSIBT r3.v fun s3 i5 b1 =>
    bif !b1 then
    ((fun (i11 : Int) (l8 : List AV) => K .ret ⟨[(2, .own 4 0 l8.length none), (3, .imm (AV.int .i64 i11))], [(4, .row 3 l8 false)]⟩) 6 [])
    else
    need (decide (0 ≤ (i5 : Int)) && decide ((i5 : Int) ≤ ((((s2.take s2.length).drop (Int.toNat 1)).length : Nat) : Int))) <|
    need (decide (((l1.drop 0).take l1.length).length + [AV.agg [AV.int .i64 2, AV.str s3, AV.int .i64 0]].length ≤ 1099511627776)) <|
    (fun (s2 : List UInt8) (l1 : List AV) => W ⟨[(0, .imm (AV.str s2)), (4, .own 4 0 l1.length none)], [(4, .row 3 l1 false)]⟩) ((((s2.take s2.length).drop (Int.toNat 1)).take (((s2.take s2.length).drop (Int.toNat 1)).length)).drop (Int.toNat i5)) (((l1.drop 0).take l1.length) ++ [AV.agg [AV.int .i64 2, AV.str s3, AV.int .i64 0]]))
    else
    rounds [0, 4, 12] [4] (evC gl R N ref18ParsePath_c0) (Kblock 3 (Kthen gl R N ref18ParsePath_c1 (Kblock 2 (Kblock 1 (Kseq (fun st' => W (prune [0, 4] [4] st')) K))))) N ⟨[(0, .imm (AV.str ((s2.take s2.length).drop (Int.toNat 1)))), (4, .own 4 0 l1.length none), (12, .imm (AV.int .i64 0))], [(4, .row 3 l1 false)]⟩)
    else
    (fun (l9 : List AV) => K (.exit 0) ⟨[(4, .own 4 0 l9.length none)], [(4, .row 3 l9 false)]⟩) l1) (by kernel_rfl) ?_
  simp (config := { maxSteps := 100000000 }) only [ref18ParsePath_L2_eq]
  kernel_rfl
theorem ref18ParsePath_L1_eq (R : Nat → List AV → Option Res) (N : Nat) (K : Ex → St → Option Res) : ∀ (n : Nat) (s2 : List UInt8) (l1 : List AV),
    rounds [0, 4] [4] (evC gl R N ref18ParsePath_c2) K n ⟨[(0, .imm (AV.str s2)), (4, .own 4 0 l1.length none)], [(4, .row 3 l1 false)]⟩ = ref18ParsePath_L1 R N (fun (i10 : Int) (l6 : List AV) => K .ret ⟨[(2, .own 4 0 l6.length none), (3, .imm (AV.int .i64 i10))], [(4, .row 3 l6 false)]⟩) (fun (l7 : List AV) => K (.exit 0) ⟨[(4, .own 4 0 l7.length none)], [(4, .row 3 l7 false)]⟩) n s2 l1
  | 0, _, _ => rfl
  | n + 1, s2, l1 => (ref18ParsePath_L1s_eq R N K (rounds [0, 4] [4] (evC gl R N ref18ParsePath_c2) K n) s2 l1).trans
      (congrArg (fun go => ref18ParsePath_L1s R N go (fun (i10 : Int) (l6 : List AV) => K .ret ⟨[(2, .own 4 0 l6.length none), (3, .imm (AV.int .i64 i10))], [(4, .row 3 l6 false)]⟩) (fun (l7 : List AV) => K (.exit 0) ⟨[(4, .own 4 0 l7.length none)], [(4, .row 3 l7 false)]⟩) s2 l1) (funext fun s2 => funext fun l1 => ref18ParsePath_L1_eq R N K n s2 l1))
def ref18ParsePath_L3s (R : Nat → List AV → Option Res) (N : Nat) (go : Int → Int → List AV → Option Res) (k0 : Int → List AV → Option Res) (k1 : List AV → Option Res) (i13 : Int) (i14 : Int) (l12 : List AV) : Option Res :=
  bif decide ((i14 : Int) < i13) then
    (need (decide (0 ≤ (i14 : Int)) && decide ((i14 : Int) < ((l12.length : Nat) : Int))) <|
    (l12[0 + Int.toNat i14]?).bind fun e1 =>
    (e1.flat[1]?).bind fun v1 =>
    asS v1 fun s8 =>
    bif decide ((((s8.length : Nat) : Int) : Int) > 128) then
    (k0 10 [])
    else
    go i13 (IntKind.i64.wrap (i14 + 1)) l12)
  else
    k1 l12
def ref18ParsePath_L3 (R : Nat → List AV → Option Res) (N : Nat) (k0 : Int → List AV → Option Res) (k1 : List AV → Option Res) : Nat → Int → Int → List AV → Option Res
  | 0, _, _, _ => none
  | n + 1, i13, i14, l12 => ref18ParsePath_L3s R N (ref18ParsePath_L3 R N k0 k1 n) k0 k1 i13 i14 l12
def ref18ParsePath_c3 : AC := .seq (.region [.op (some 168) none (.bin .lss (.t 167) (.t 166))]) (.seq (.cond (.t 168) (.skip) (.exit 5 [4] [4])) (.seq (.block 6 (.seq (.region [.op (some 169) none (.mv (.t 167)), .op (some 13) none (.mv (.t 169))]) (.seq (.region [.op (some 170) none (.mv (.t 4)), .op (some 171) none (.mv (.t 13)), .op (some 172) none (.iaddr (.t 170) (.t 171) 3 (.agg [.int .i64, .str, .int .i64])), .op (some 173) none (.faddr (.t 172) 1), .op (some 174) none (.load (.t 173) none (.str)), .op (some 175) none (.len (.t 174) true), .op (some 176) none (.bin .gtr (.t 175) (.k (AV.int .i64 128)))]) (.cond (.t 176) (.seq (.region [.op (some 2) none (.nilOwn 4 (some (3, .any))), .op (some 3) none (.mv (.k (AV.int .i64 10)))]) (.ret [2, 3] [4])) (.skip))))) (.region [.op (some 177) none (.bin .add (.t 167) (.k (AV.int .i64 1))), .op (some 167) none (.mv (.t 177))])))
theorem ref18ParsePath_L3s_eq (R : Nat → List AV → Option Res) (N : Nat) (K : Ex → St → Option Res) (W : St → Option Res) (i13 : Int) (i14 : Int) (l12 : List AV) :
    evC gl R N ref18ParsePath_c3 (Kseq (fun st' => W (prune [4, 166, 167] [4] st')) K) ⟨[(4, .own 4 0 l12.length none), (166, .imm (AV.int .i64 i13)), (167, .imm (AV.int .i64 i14))], [(4, .row 3 l12 false)]⟩ =
    ref18ParsePath_L3s R N (fun (i13 : Int) (i14 : Int) (l12 : List AV) => W ⟨[(4, .own 4 0 l12.length none), (166, .imm (AV.int .i64 i13)), (167, .imm (AV.int .i64 i14))], [(4, .row 3 l12 false)]⟩) (fun (i15 : Int) (l13 : List AV) => K .ret ⟨[(2, .own 4 0 l13.length none), (3, .imm (AV.int .i64 i15))], [(4, .row 3 l13 false)]⟩) (fun (l14 : List AV) => K (.exit 5) ⟨[(4, .own 4 0 l14.length none)], [(4, .row 3 l14 false)]⟩) i13 i14 l12 := by
  kernel_rfl
theorem ref18ParsePath_L3_eq (R : Nat → List AV → Option Res) (N : Nat) (K : Ex → St → Option Res) : ∀ (n : Nat) (i13 : Int) (i14 : Int) (l12 : List AV),
    rounds [4, 166, 167] [4] (evC gl R N ref18ParsePath_c3) K n ⟨[(4, .own 4 0 l12.length none), (166, .imm (AV.int .i64 i13)), (167, .imm (AV.int .i64 i14))], [(4, .row 3 l12 false)]⟩ = ref18ParsePath_L3 R N (fun (i15 : Int) (l13 : List AV) => K .ret ⟨[(2, .own 4 0 l13.length none), (3, .imm (AV.int .i64 i15))], [(4, .row 3 l13 false)]⟩) (fun (l14 : List AV) => K (.exit 5) ⟨[(4, .own 4 0 l14.length none)], [(4, .row 3 l14 false)]⟩) n i13 i14 l12
  | 0, _, _, _ => rfl
  | n + 1, i13, i14, l12 => (ref18ParsePath_L3s_eq R N K (rounds [4, 166, 167] [4] (evC gl R N ref18ParsePath_c3) K n) i13 i14 l12).trans
      (congrArg (fun go => ref18ParsePath_L3s R N go (fun (i15 : Int) (l13 : List AV) => K .ret ⟨[(2, .own 4 0 l13.length none), (3, .imm (AV.int .i64 i15))], [(4, .row 3 l13 false)]⟩) (fun (l14 : List AV) => K (.exit 5) ⟨[(4, .own 4 0 l14.length none)], [(4, .row 3 l14 false)]⟩) i13 i14 l12) (funext fun i13 => funext fun i14 => funext fun l12 => ref18ParsePath_L3_eq R N K n i13 i14 l12))
def ref18ParsePath_c4 : AC := .seq (.seq (.region [.op (some 178) none (.mv (.t 4)), .op (some 179) none (.len (.t 178) false), .op (some 180) none (.bin .gtr (.t 179) (.k (AV.int .i64 32)))]) (.cond (.t 180) (.seq (.region [.op (some 2) none (.nilOwn 4 (some (3, .any))), .op (some 3) none (.mv (.k (AV.int .i64 10)))]) (.ret [2, 3] [4])) (.skip))) (.seq (.region [.op (some 181) none (.mv (.t 4)), .op (some 2) none (.mv (.t 181)), .op (some 3) none (.mv (.k (AV.int .i64 0)))]) (.ret [2, 3] [4]))
def ref18ParsePath_c5 : AC := .seq (.seq (.region [.op (some 165) none (.mv (.t 4)), .op (some 166) none (.len (.t 165) false), .op (some 167) none (.mv (.k (AV.int .i64 0)))]) (.block 5 (.loop [4, 166, 167] [4] (ref18ParsePath_c3)))) (ref18ParsePath_c4)
def ref18ParsePath_c6 : AC := .seq (.region [.op (some 2) none (.nilOwn 4 (some (3, .any))), .op (some 3) none (.mv (.k (AV.int .i64 0)))]) (.seq (.region [.op (some 4) none (.nilOwn 4 (some (3, .any)))]) (.seq (.seq (.region [.op (some 14) none (.mv (.t 0)), .op (some 15) none (.bin .neq (.t 14) (.k (AV.str ([] : List UInt8)))), .op (some 16) none (.mv (.t 15)), .split 16, .op (some 17) (some (16, true)) (.mv (.t 0)), .op (some 18) (some (16, true)) (.index (.t 17) (.k (AV.int .i64 0))), .op (some 19) (some (16, true)) (.bin .eql (.t 18) (.k (AV.int .u8 64))), .op (some 20) none (.pick (.t 16) (.t 19) (.k (AV.bool false)))]) (.cond (.t 20) (.seq (.region [.op (some 21) none (.mv (.t 0)), .op (some 22) none (.sliceS (.t 21) (some (.k (AV.int .i64 1))) none), .op (some 0) none (.mv (.t 22))]) (.seq (.region [.op (some 24) none (.mv (.t 0)), .op (some 25) none (.call id_ref18Number [.t 24] (.tup [.int .i64, .int .i64])), .op (some 23) none (.mv (.t 25)), .op (some 26) none (.extract (.t 23) 0), .op (some 27) none (.extract (.t 23) 1), .op (some 5) none (.mv (.t 26)), .op (some 6) none (.mv (.t 27))]) (.seq (.region [.op (some 28) none (.mv (.t 6)), .op (some 29) none (.bin .gtr (.t 28) (.k (AV.int .i64 0)))]) (.cond (.t 29) (.regionA [0, 4] [4] [30, 33] [.op (some 30) none (.mv (.t 4)), .op (some 31) none (.mv (.t 5)), .op (some 32) none (.build [AV.int .i64 0, AV.str [], AV.int .i64 0] [(0, 1, .k (AV.int .i64 1)), (2, 1, .t 31)]), .op (some 33) none (.bslice [.t 32] 3 false)] 34 4 4 (.t 30) (.t 33) 3 .any false [.op (some 35) none (.mv (.t 0)), .op (some 36) none (.mv (.t 6)), .op (some 37) none (.sliceS (.t 35) (some (.t 36)) none)] [.op (some 0) none (.mv (.t 37))]) (.seq (.region [.op (some 38) none (.mv (.t 0)), .op (some 39) none (.bin .neq (.t 38) (.k (AV.str ([] : List UInt8)))), .op (some 40) none (.mv (.t 39)), .split 40, .op (some 41) (some (40, true)) (.mv (.t 0)), .op (some 42) (some (40, true)) (.index (.t 41) (.k (AV.int .i64 0))), .op (some 43) (some (40, true)) (.bin .eql (.t 42) (.k (AV.int .u8 42))), .op (some 44) none (.pick (.t 40) (.t 43) (.k (AV.bool false)))]) (.cond (.t 44) (.regionA [0, 4] [4] [45, 47] [.op (some 45) none (.mv (.t 4)), .op (some 46) none (.build [AV.int .i64 0, AV.str [], AV.int .i64 0] [(0, 1, .k (AV.int .i64 1)), (2, 1, .k (AV.int .i64 (-1)))]), .op (some 47) none (.bslice [.t 46] 3 false)] 48 4 4 (.t 45) (.t 47) 3 .any false [.op (some 49) none (.mv (.t 0)), .op (some 50) none (.sliceS (.t 49) (some (.k (AV.int .i64 1))) none)] [.op (some 0) none (.mv (.t 50))]) (.seq (.region [.op (some 2) none (.nilOwn 4 (some (3, .any))), .op (some 3) none (.mv (.k (AV.int .i64 6)))]) (.ret [2, 3] [4])))))))) (.skip))) (.seq (.block 0 (.loop [0, 4] [4] (ref18ParsePath_c2))) (ref18ParsePath_c5))))
def ref18ParsePath : AFunc := ⟨1, 182, [.tmp 2, .tmp 3], ref18ParsePath_c6⟩
def ref18ParsePathr (R : Nat → List AV → Option Res) (N : Nat) (s1 : List UInt8) : Option Res :=
  bif !(s1 == ([] : List UInt8)) then
    (need (decide (0 ≤ (0 : Int))) <|
    (s1[Int.toNat 0]?).bind fun c1 =>
    bif ((c1.toNat : Int) : Int) == 64 then
    (need (decide (0 ≤ (1 : Int)) && decide ((1 : Int) ≤ ((s1.length : Nat) : Int))) <|
    (R id_ref18Number [AV.str ((s1.take s1.length).drop (Int.toNat 1))]).bind fun r1 =>
    asIIT r1.v fun i1 i2 =>
    bif decide ((i2 : Int) > 0) then
    (need (decide (0 ≤ (i2 : Int)) && decide ((i2 : Int) ≤ ((((s1.take s1.length).drop (Int.toNat 1)).length : Nat) : Int))) <|
    need (decide (((([] : List AV).drop 0).take 0).length + [AV.agg [AV.int .i64 1, AV.str [], AV.int .i64 i1]].length ≤ 1099511627776)) <|
    ref18ParsePath_L1 R N
      (fun i12 l10 =>
    some ⟨AV.tup [AV.row 3 ((l10.drop 0).take l10.length), AV.int .i64 i12], false, []⟩)
      (fun l11 =>
    ref18ParsePath_L3 R N
      (fun i17 l17 =>
    some ⟨AV.tup [AV.row 3 ((l17.drop 0).take l17.length), AV.int .i64 i17], false, []⟩)
      (fun l18 =>
    bif decide ((((l18.length : Nat) : Int) : Int) > 32) then
    (some ⟨AV.tup [AV.row 3 ((([] : List AV).drop 0).take 0), AV.int .i64 10], false, []⟩)
    else
    some ⟨AV.tup [AV.row 3 ((l18.drop 0).take l18.length), AV.int .i64 0], false, []⟩)
      N ((l11.length : Nat) : Int) 0 l11)
      N ((((s1.take s1.length).drop (Int.toNat 1)).take (((s1.take s1.length).drop (Int.toNat 1)).length)).drop (Int.toNat i2)) (((([] : List AV).drop 0).take 0) ++ [AV.agg [AV.int .i64 1, AV.str [], AV.int .i64 i1]]))
    else
    bif !(((s1.take s1.length).drop (Int.toNat 1)) == ([] : List UInt8)) then
    (need (decide (0 ≤ (0 : Int))) <|
    (((s1.take s1.length).drop (Int.toNat 1))[Int.toNat 0]?).bind fun c9 =>
    bif ((c9.toNat : Int) : Int) == 42 then
    (need (decide (0 ≤ (1 : Int)) && decide ((1 : Int) ≤ ((((s1.take s1.length).drop (Int.toNat 1)).length : Nat) : Int))) <|
    need (decide (((([] : List AV).drop 0).take 0).length + [AV.agg [AV.int .i64 1, AV.str [], AV.int .i64 (-1)]].length ≤ 1099511627776)) <|
    ref18ParsePath_L1 R N
      (fun i18 l19 =>
    some ⟨AV.tup [AV.row 3 ((l19.drop 0).take l19.length), AV.int .i64 i18], false, []⟩)
      (fun l20 =>
    ref18ParsePath_L3 R N
      (fun i19 l21 =>
    some ⟨AV.tup [AV.row 3 ((l21.drop 0).take l21.length), AV.int .i64 i19], false, []⟩)
      (fun l22 =>
    bif decide ((((l22.length : Nat) : Int) : Int) > 32) then
    (some ⟨AV.tup [AV.row 3 ((([] : List AV).drop 0).take 0), AV.int .i64 10], false, []⟩)
    else
    some ⟨AV.tup [AV.row 3 ((l22.drop 0).take l22.length), AV.int .i64 0], false, []⟩)
      N ((l20.length : Nat) : Int) 0 l20)
      N ((((s1.take s1.length).drop (Int.toNat 1)).take (((s1.take s1.length).drop (Int.toNat 1)).length)).drop (Int.toNat 1)) (((([] : List AV).drop 0).take 0) ++ [AV.agg [AV.int .i64 1, AV.str [], AV.int .i64 (-1)]]))
    else
    some ⟨AV.tup [AV.row 3 ((([] : List AV).drop 0).take 0), AV.int .i64 6], false, []⟩)
    else
    some ⟨AV.tup [AV.row 3 ((([] : List AV).drop 0).take 0), AV.int .i64 6], false, []⟩)
    else
    ref18ParsePath_L1 R N
      (fun i20 l23 =>
    some ⟨AV.tup [AV.row 3 ((l23.drop 0).take l23.length), AV.int .i64 i20], false, []⟩)
      (fun l24 =>
    ref18ParsePath_L3 R N
      (fun i21 l25 =>
    some ⟨AV.tup [AV.row 3 ((l25.drop 0).take l25.length), AV.int .i64 i21], false, []⟩)
      (fun l26 =>
    bif decide ((((l26.length : Nat) : Int) : Int) > 32) then
    (some ⟨AV.tup [AV.row 3 ((([] : List AV).drop 0).take 0), AV.int .i64 10], false, []⟩)
    else
    some ⟨AV.tup [AV.row 3 ((l26.drop 0).take l26.length), AV.int .i64 0], false, []⟩)
      N ((l24.length : Nat) : Int) 0 l24)
      N s1 [])
  else
    ref18ParsePath_L1 R N
      (fun i22 l27 =>
    some ⟨AV.tup [AV.row 3 ((l27.drop 0).take l27.length), AV.int .i64 i22], false, []⟩)
      (fun l28 =>
    ref18ParsePath_L3 R N
      (fun i23 l29 =>
    some ⟨AV.tup [AV.row 3 ((l29.drop 0).take l29.length), AV.int .i64 i23], false, []⟩)
      (fun l30 =>
    bif decide ((((l30.length : Nat) : Int) : Int) > 32) then
    (some ⟨AV.tup [AV.row 3 ((([] : List AV).drop 0).take 0), AV.int .i64 10], false, []⟩)
    else
    some ⟨AV.tup [AV.row 3 ((l30.drop 0).take l30.length), AV.int .i64 0], false, []⟩)
      N ((l28.length : Nat) : Int) 0 l28)
      N s1 []
theorem ref18ParsePath_eq (R : Nat → List AV → Option Res) (N : Nat) (s1 : List UInt8) : runF gl R N ref18ParsePath [AV.str s1] = ref18ParsePathr R N s1 := by
  refine Eq.trans (b :=
    bif !(s1 == ([] : List UInt8)) then
    (need (decide (0 ≤ (0 : Int))) <|
    (s1[Int.toNat 0]?).bind fun c1 =>
    bif ((c1.toNat : Int) : Int) == 64 then
    (need (decide (0 ≤ (1 : Int)) && decide ((1 : Int) ≤ ((s1.length : Nat) : Int))) <|
    (R id_ref18Number [AV.str ((s1.take s1.length).drop (Int.toNat 1))]).bind fun r1 =>
    asIIT r1.v fun i1 i2 =>
    bif decide ((i2 : Int) > 0) then
    (need (decide (0 ≤ (i2 : Int)) && decide ((i2 : Int) ≤ ((((s1.take s1.length).drop (Int.toNat 1)).length : Nat) : Int))) <|
    need (decide (((([] : List AV).drop 0).take 0).length + [AV.agg [AV.int .i64 1, AV.str [], AV.int .i64 i1]].length ≤ 1099511627776)) <|
    rounds [0, 4] [4] (evC gl R N ref18ParsePath_c2) (Kblock 0 (Kthen gl R N ref18ParsePath_c5 (Kret ref18ParsePath.rets []))) N ⟨[(0, .imm (AV.str ((((s1.take s1.length).drop (Int.toNat 1)).take (((s1.take s1.length).drop (Int.toNat 1)).length)).drop (Int.toNat i2)))), (4, .own 4 0 ((((([] : List AV).drop 0).take 0) ++ [AV.agg [AV.int .i64 1, AV.str [], AV.int .i64 i1]]).length) none)], [(4, .row 3 (((([] : List AV).drop 0).take 0) ++ [AV.agg [AV.int .i64 1, AV.str [], AV.int .i64 i1]]) false)]⟩)
    else
    bif !(((s1.take s1.length).drop (Int.toNat 1)) == ([] : List UInt8)) then
    (need (decide (0 ≤ (0 : Int))) <|
    (((s1.take s1.length).drop (Int.toNat 1))[Int.toNat 0]?).bind fun c9 =>
    bif ((c9.toNat : Int) : Int) == 42 then
    (need (decide (0 ≤ (1 : Int)) && decide ((1 : Int) ≤ ((((s1.take s1.length).drop (Int.toNat 1)).length : Nat) : Int))) <|
    need (decide (((([] : List AV).drop 0).take 0).length + [AV.agg [AV.int .i64 1, AV.str [], AV.int .i64 (-1)]].length ≤ 1099511627776)) <|
    rounds [0, 4] [4] (evC gl R N ref18ParsePath_c2) (Kblock 0 (Kthen gl R N ref18ParsePath_c5 (Kret ref18ParsePath.rets []))) N ⟨[(0, .imm (AV.str ((((s1.take s1.length).drop (Int.toNat 1)).take (((s1.take s1.length).drop (Int.toNat 1)).length)).drop (Int.toNat 1)))), (4, .own 4 0 ((((([] : List AV).drop 0).take 0) ++ [AV.agg [AV.int .i64 1, AV.str [], AV.int .i64 (-1)]]).length) none)], [(4, .row 3 (((([] : List AV).drop 0).take 0) ++ [AV.agg [AV.int .i64 1, AV.str [], AV.int .i64 (-1)]]) false)]⟩)
    else
    some ⟨AV.tup [AV.row 3 ((([] : List AV).drop 0).take 0), AV.int .i64 6], false, []⟩)
    else
    some ⟨AV.tup [AV.row 3 ((([] : List AV).drop 0).take 0), AV.int .i64 6], false, []⟩)
    else
    rounds [0, 4] [4] (evC gl R N ref18ParsePath_c2) (Kblock 0 (Kthen gl R N ref18ParsePath_c5 (Kret ref18ParsePath.rets []))) N ⟨[(0, .imm (AV.str s1)), (4, .own 4 0 (([] : List AV).length) none)], [(4, .row 3 [] false)]⟩)
    else
    rounds [0, 4] [4] (evC gl R N ref18ParsePath_c2) (Kblock 0 (Kthen gl R N ref18ParsePath_c5 (Kret ref18ParsePath.rets []))) N ⟨[(0, .imm (AV.str s1)), (4, .own 4 0 (([] : List AV).length) none)], [(4, .row 3 [] false)]⟩) (by kernel_rfl) ?_
  simp (config := { maxSteps := 100000000 }) only [ref18ParsePath_L1_eq, ref18ParsePath_L3_eq]
  refine Eq.trans (b :=
    bif !(s1 == ([] : List UInt8)) then
    (need (decide (0 ≤ (0 : Int))) <|
    (s1[Int.toNat 0]?).bind fun c1 =>
    bif ((c1.toNat : Int) : Int) == 64 then
    (need (decide (0 ≤ (1 : Int)) && decide ((1 : Int) ≤ ((s1.length : Nat) : Int))) <|
    (R id_ref18Number [AV.str ((s1.take s1.length).drop (Int.toNat 1))]).bind fun r1 =>
    asIIT r1.v fun i1 i2 =>
    bif decide ((i2 : Int) > 0) then
    (need (decide (0 ≤ (i2 : Int)) && decide ((i2 : Int) ≤ ((((s1.take s1.length).drop (Int.toNat 1)).length : Nat) : Int))) <|
    need (decide (((([] : List AV).drop 0).take 0).length + [AV.agg [AV.int .i64 1, AV.str [], AV.int .i64 i1]].length ≤ 1099511627776)) <|
    ref18ParsePath_L1 R N
      (fun i12 l10 =>
    some ⟨AV.tup [AV.row 3 ((l10.drop 0).take l10.length), AV.int .i64 i12], false, []⟩)
      (fun l11 =>
    rounds [4, 166, 167] [4] (evC gl R N ref18ParsePath_c3) (Kblock 5 (Kthen gl R N ref18ParsePath_c4 (Kret ref18ParsePath.rets []))) N ⟨[(4, .own 4 0 l11.length none), (166, .imm (AV.int .i64 ((l11.length : Nat) : Int))), (167, .imm (AV.int .i64 0))], [(4, .row 3 l11 false)]⟩)
      N ((((s1.take s1.length).drop (Int.toNat 1)).take (((s1.take s1.length).drop (Int.toNat 1)).length)).drop (Int.toNat i2)) (((([] : List AV).drop 0).take 0) ++ [AV.agg [AV.int .i64 1, AV.str [], AV.int .i64 i1]]))
    else
    bif !(((s1.take s1.length).drop (Int.toNat 1)) == ([] : List UInt8)) then
    (need (decide (0 ≤ (0 : Int))) <|
    (((s1.take s1.length).drop (Int.toNat 1))[Int.toNat 0]?).bind fun c9 =>
    bif ((c9.toNat : Int) : Int) == 42 then
    (need (decide (0 ≤ (1 : Int)) && decide ((1 : Int) ≤ ((((s1.take s1.length).drop (Int.toNat 1)).length : Nat) : Int))) <|
    need (decide (((([] : List AV).drop 0).take 0).length + [AV.agg [AV.int .i64 1, AV.str [], AV.int .i64 (-1)]].length ≤ 1099511627776)) <|
    ref18ParsePath_L1 R N
      (fun i18 l19 =>
    some ⟨AV.tup [AV.row 3 ((l19.drop 0).take l19.length), AV.int .i64 i18], false, []⟩)
      (fun l20 =>
    rounds [4, 166, 167] [4] (evC gl R N ref18ParsePath_c3) (Kblock 5 (Kthen gl R N ref18ParsePath_c4 (Kret ref18ParsePath.rets []))) N ⟨[(4, .own 4 0 l20.length none), (166, .imm (AV.int .i64 ((l20.length : Nat) : Int))), (167, .imm (AV.int .i64 0))], [(4, .row 3 l20 false)]⟩)
      N ((((s1.take s1.length).drop (Int.toNat 1)).take (((s1.take s1.length).drop (Int.toNat 1)).length)).drop (Int.toNat 1)) (((([] : List AV).drop 0).take 0) ++ [AV.agg [AV.int .i64 1, AV.str [], AV.int .i64 (-1)]]))
    else
    some ⟨AV.tup [AV.row 3 ((([] : List AV).drop 0).take 0), AV.int .i64 6], false, []⟩)
    else
    some ⟨AV.tup [AV.row 3 ((([] : List AV).drop 0).take 0), AV.int .i64 6], false, []⟩)
    else
    ref18ParsePath_L1 R N
      (fun i20 l23 =>
    some ⟨AV.tup [AV.row 3 ((l23.drop 0).take l23.length), AV.int .i64 i20], false, []⟩)
      (fun l24 =>
    rounds [4, 166, 167] [4] (evC gl R N ref18ParsePath_c3) (Kblock 5 (Kthen gl R N ref18ParsePath_c4 (Kret ref18ParsePath.rets []))) N ⟨[(4, .own 4 0 l24.length none), (166, .imm (AV.int .i64 ((l24.length : Nat) : Int))), (167, .imm (AV.int .i64 0))], [(4, .row 3 l24 false)]⟩)
      N s1 [])
    else
    ref18ParsePath_L1 R N
      (fun i22 l27 =>
    some ⟨AV.tup [AV.row 3 ((l27.drop 0).take l27.length), AV.int .i64 i22], false, []⟩)
      (fun l28 =>
    rounds [4, 166, 167] [4] (evC gl R N ref18ParsePath_c3) (Kblock 5 (Kthen gl R N ref18ParsePath_c4 (Kret ref18ParsePath.rets []))) N ⟨[(4, .own 4 0 l28.length none), (166, .imm (AV.int .i64 ((l28.length : Nat) : Int))), (167, .imm (AV.int .i64 0))], [(4, .row 3 l28 false)]⟩)
      N s1 []) (by kernel_rfl) ?_
  simp (config := { maxSteps := 100000000 }) only [ref18ParsePath_L1_eq, ref18ParsePath_L3_eq]
  kernel_rfl
theorem ref18ParsePath_fit : fitF Tryd.prog ref18ParsePath Tryd.f18 = true := by
  kernel_rfl
end Go.Proofs.YtlionohbndehgaaDoor.Vf
