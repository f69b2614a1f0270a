/- The code of the functions that the statements reach, as our evaluator takes it, and what each of them comes to, readably: printed by a program of ours. No condition. -/
import Derived.Test.YtlionohbndehgaaDoorVfWalk2
namespace Go.Proofs.YtlionohbndehgaaDoor.Vf
set_option linter.unusedVariables false
set_option linter.unusedSimpArgs false
set_option maxRecDepth 100000


def ref18Digits_c0 : AC := .seq (.region [.op (some 2) none (.mv (.k (AV.str ([] : List UInt8))))]) (.seq (.seq (.region [.op (some 3) none (.mv (.t 0)), .op (some 4) none (.bin .lss (.t 3) (.k (AV.int .i64 10)))]) (.cond (.t 4) (.seq (.region [.op (some 5) none (.mv (.t 0)), .op (some 6) none (.bin .add (.k (AV.int .i64 48)) (.t 5)), .op (some 7) none (.cvInt .u8 (.t 6)), .op (some 8) none (.bslice [.t 7] 1 true), .op (some 9) none (.cvStr (.t 8)), .op (some 2) none (.mv (.t 9))]) (.ret [2] [])) (.skip))) (.seq (.regionD [2] [] [.op (some 10) none (.mv (.t 0)), .op (some 11) none (.bin .quo (.t 10) (.k (AV.int .i64 10))), .op (some 12) none (.call id_ref18Digits [.t 11] (.str)), .op (some 13) none (.mv (.t 0)), .op (some 14) none (.bin .rem (.t 13) (.k (AV.int .i64 10))), .op (some 15) none (.bin .add (.k (AV.int .i64 48)) (.t 14)), .op (some 16) none (.cvInt .u8 (.t 15)), .op (some 17) none (.bslice [.t 16] 1 true), .op (some 18) none (.cvStr (.t 17)), .op (some 19) none (.bin .add (.t 12) (.t 18)), .op (some 2) none (.mv (.t 19))] []) (.ret [2] [])))
def ref18Digits : AFunc := ⟨1, 20, [.tmp 2], ref18Digits_c0⟩
def ref18Digitsr (R : Nat → List AV → Option Res) (N : Nat) (i1 : Int) : Option Res :=
  bif decide ((i1 : Int) < 10) then
    (need (decide (0 ≤ (IntKind.u8.wrap (IntKind.i64.wrap (48 + i1)) : Int)) && decide ((IntKind.u8.wrap (IntKind.i64.wrap (48 + i1)) : Int) < 256)) <|
    some ⟨AV.str [UInt8.ofNat (Int.toNat (IntKind.u8.wrap (IntKind.i64.wrap (48 + i1))))], false, []⟩)
  else
    need (!decide (10 = 0)) <|
    (R id_ref18Digits [AV.int .i64 (IntKind.i64.wrap (Int.tdiv i1 10))]).bind fun r1 =>
    asS r1.v fun s1 =>
    need (!decide (10 = 0)) <|
    need (decide (0 ≤ (IntKind.u8.wrap (IntKind.i64.wrap (48 + (Int.tmod i1 10))) : Int)) && decide ((IntKind.u8.wrap (IntKind.i64.wrap (48 + (Int.tmod i1 10))) : Int) < 256)) <|
    need (decide (s1.length + ([UInt8.ofNat (Int.toNat (IntKind.u8.wrap (IntKind.i64.wrap (48 + (Int.tmod i1 10)))))] : List UInt8).length ≤ 9223372036854775807)) <|
    some ⟨AV.str (s1 ++ [UInt8.ofNat (Int.toNat (IntKind.u8.wrap (IntKind.i64.wrap (48 + (Int.tmod i1 10)))))]), false, []⟩
theorem ref18Digits_eq (R : Nat → List AV → Option Res) (N : Nat) (i1 : Int) : runF gl R N ref18Digits [AV.int .i64 i1] = ref18Digitsr R N i1 := by
  kernel_rfl
theorem ref18Digits_fit : fitF Tryd.prog ref18Digits Tryd.f23 = true := by
  kernel_rfl

def ref18PrintPath_L1s (R : Nat → List AV → Option Res) (N : Nat) (go : List AV → List UInt8 → List AV → Int → Int → Option Res) (k0 : List UInt8 → Int → Option Res) (k1 : List AV → List UInt8 → Option Res) (l2 : List AV) (s1 : List UInt8) (l3 : List AV) (i1 : Int) (i2 : Int) : Option Res :=
  bif decide ((i2 : Int) < i1) then
    (need (decide (0 ≤ (i2 : Int))) <|
    (l3[Int.toNat i2]?).bind fun e1 =>
    asISIA e1 fun i3 s2 i4 =>
    bif (i3 : Int) == 1 then
    (bif (i4 : Int) == (-1) then
    (need (decide (s1.length + (([64, 42] : List UInt8) : List UInt8).length ≤ 9223372036854775807)) <|
    bif (i3 : Int) == 1 then
    (bif decide ((i2 : Int) > 0) then
    (k0 ([] : List UInt8) 6)
    else
    go l2 (s1 ++ ([64, 42] : List UInt8)) l3 i1 (IntKind.i64.wrap (i2 + 1)))
    else
    go l2 (s1 ++ ([64, 42] : List UInt8)) l3 i1 (IntKind.i64.wrap (i2 + 1)))
    else
    bif (i3 : Int) == 1 then
    (bif decide ((i4 : Int) ≥ 0) then
    (bif decide ((i4 : Int) ≤ 999999) then
    ((R id_ref18Digits [AV.int .i64 i4]).bind fun r1 =>
    asS r1.v fun s3 =>
    need (decide ((([64] : List UInt8) : List UInt8).length + s3.length ≤ 9223372036854775807)) <|
    need (decide (s1.length + (([64] : List UInt8) ++ s3 : List UInt8).length ≤ 9223372036854775807)) <|
    bif (i3 : Int) == 1 then
    (bif decide ((i2 : Int) > 0) then
    (k0 ([] : List UInt8) 6)
    else
    go l2 (s1 ++ (([64] : List UInt8) ++ s3)) l3 i1 (IntKind.i64.wrap (i2 + 1)))
    else
    go l2 (s1 ++ (([64] : List UInt8) ++ s3)) l3 i1 (IntKind.i64.wrap (i2 + 1)))
    else
    bif (i3 : Int) == 3 then
    (bif decide ((i4 : Int) ≥ 0) then
    (bif decide ((i4 : Int) ≤ 999999) then
    ((R id_ref18Digits [AV.int .i64 i4]).bind fun r2 =>
    asS r2.v fun s4 =>
    need (decide ((([91] : List UInt8) : List UInt8).length + s4.length ≤ 9223372036854775807)) <|
    need (decide ((([91] : List UInt8) ++ s4 : List UInt8).length + (([93] : List UInt8) : List UInt8).length ≤ 9223372036854775807)) <|
    need (decide (s1.length + ((([91] : List UInt8) ++ s4) ++ ([93] : List UInt8) : List UInt8).length ≤ 9223372036854775807)) <|
    bif (i3 : Int) == 1 then
    (bif decide ((i2 : Int) > 0) then
    (k0 ([] : List UInt8) 6)
    else
    go l2 (s1 ++ ((([91] : List UInt8) ++ s4) ++ ([93] : List UInt8))) l3 i1 (IntKind.i64.wrap (i2 + 1)))
    else
    go l2 (s1 ++ ((([91] : List UInt8) ++ s4) ++ ([93] : List UInt8))) l3 i1 (IntKind.i64.wrap (i2 + 1)))
    else
    bif (i3 : Int) == 4 then
    (need (decide (s1.length + (([46, 42] : List UInt8) : List UInt8).length ≤ 9223372036854775807)) <|
    bif (i3 : Int) == 1 then
    (bif decide ((i2 : Int) > 0) then
    (k0 ([] : List UInt8) 6)
    else
    go l2 (s1 ++ ([46, 42] : List UInt8)) l3 i1 (IntKind.i64.wrap (i2 + 1)))
    else
    go l2 (s1 ++ ([46, 42] : List UInt8)) l3 i1 (IntKind.i64.wrap (i2 + 1)))
    else
    bif (i3 : Int) == 5 then
    (need (decide (s1.length + (([46, 46] : List UInt8) : List UInt8).length ≤ 9223372036854775807)) <|
    bif (i3 : Int) == 1 then
    (bif decide ((i2 : Int) > 0) then
    (k0 ([] : List UInt8) 6)
    else
    go l2 (s1 ++ ([46, 46] : List UInt8)) l3 i1 (IntKind.i64.wrap (i2 + 1)))
    else
    go l2 (s1 ++ ([46, 46] : List UInt8)) l3 i1 (IntKind.i64.wrap (i2 + 1)))
    else
    bif (i3 : Int) == 2 then
    ((R id_ref01Name [AV.str s2]).bind fun r3 =>
    asB r3.v fun b1 =>
    bif b1 then
    (need (decide ((([46] : List UInt8) : List UInt8).length + s2.length ≤ 9223372036854775807)) <|
    need (decide (s1.length + (([46] : List UInt8) ++ s2 : List UInt8).length ≤ 9223372036854775807)) <|
    bif (i3 : Int) == 1 then
    (bif decide ((i2 : Int) > 0) then
    (k0 ([] : List UInt8) 6)
    else
    go l2 (s1 ++ (([46] : List UInt8) ++ s2)) l3 i1 (IntKind.i64.wrap (i2 + 1)))
    else
    go l2 (s1 ++ (([46] : List UInt8) ++ s2)) l3 i1 (IntKind.i64.wrap (i2 + 1)))
    else
    bif (i3 : Int) == 2 then
    ((R id_ref01PutDouble [AV.str s2]).bind fun r4 =>
    asSBT r4.v fun s5 b2 =>
    need (decide ((([46] : List UInt8) : List UInt8).length + s5.length ≤ 9223372036854775807)) <|
    need (decide (s1.length + (([46] : List UInt8) ++ s5 : List UInt8).length ≤ 9223372036854775807)) <|
    bif (i3 : Int) == 1 then
    (bif decide ((i2 : Int) > 0) then
    (k0 ([] : List UInt8) 6)
    else
    go l2 (s1 ++ (([46] : List UInt8) ++ s5)) l3 i1 (IntKind.i64.wrap (i2 + 1)))
    else
    go l2 (s1 ++ (([46] : List UInt8) ++ s5)) l3 i1 (IntKind.i64.wrap (i2 + 1)))
    else
    k0 ([] : List UInt8) 6)
    else
    bif (i3 : Int) == 2 then
    ((R id_ref01PutDouble [AV.str s2]).bind fun r5 =>
    asSBT r5.v fun s6 b3 =>
    need (decide ((([46] : List UInt8) : List UInt8).length + s6.length ≤ 9223372036854775807)) <|
    need (decide (s1.length + (([46] : List UInt8) ++ s6 : List UInt8).length ≤ 9223372036854775807)) <|
    bif (i3 : Int) == 1 then
    (bif decide ((i2 : Int) > 0) then
    (k0 ([] : List UInt8) 6)
    else
    go l2 (s1 ++ (([46] : List UInt8) ++ s6)) l3 i1 (IntKind.i64.wrap (i2 + 1)))
    else
    go l2 (s1 ++ (([46] : List UInt8) ++ s6)) l3 i1 (IntKind.i64.wrap (i2 + 1)))
    else
    k0 ([] : List UInt8) 6)
    else
    bif (i3 : Int) == 4 then
    (need (decide (s1.length + (([46, 42] : List UInt8) : List UInt8).length ≤ 9223372036854775807)) <|
    bif (i3 : Int) == 1 then
    (bif decide ((i2 : Int) > 0) then
    (k0 ([] : List UInt8) 6)
    else
    go l2 (s1 ++ ([46, 42] : List UInt8)) l3 i1 (IntKind.i64.wrap (i2 + 1)))
    else
    go l2 (s1 ++ ([46, 42] : List UInt8)) l3 i1 (IntKind.i64.wrap (i2 + 1)))
    else
    bif (i3 : Int) == 5 then
    (need (decide (s1.length + (([46, 46] : List UInt8) : List UInt8).length ≤ 9223372036854775807)) <|
    bif (i3 : Int) == 1 then
    (bif decide ((i2 : Int) > 0) then
    (k0 ([] : List UInt8) 6)
    else
    go l2 (s1 ++ ([46, 46] : List UInt8)) l3 i1 (IntKind.i64.wrap (i2 + 1)))
    else
    go l2 (s1 ++ ([46, 46] : List UInt8)) l3 i1 (IntKind.i64.wrap (i2 + 1)))
    else
    bif (i3 : Int) == 2 then
    ((R id_ref01Name [AV.str s2]).bind fun r6 =>
    asB r6.v fun b4 =>
    bif b4 then
    (need (decide ((([46] : List UInt8) : List UInt8).length + s2.length ≤ 9223372036854775807)) <|
    need (decide (s1.length + (([46] : List UInt8) ++ s2 : List UInt8).length ≤ 9223372036854775807)) <|
    bif (i3 : Int) == 1 then
    (bif decide ((i2 : Int) > 0) then
    (k0 ([] : List UInt8) 6)
    else
    go l2 (s1 ++ (([46] : List UInt8) ++ s2)) l3 i1 (IntKind.i64.wrap (i2 + 1)))
    else
    go l2 (s1 ++ (([46] : List UInt8) ++ s2)) l3 i1 (IntKind.i64.wrap (i2 + 1)))
    else
    bif (i3 : Int) == 2 then
    ((R id_ref01PutDouble [AV.str s2]).bind fun r7 =>
    asSBT r7.v fun s7 b5 =>
    need (decide ((([46] : List UInt8) : List UInt8).length + s7.length ≤ 9223372036854775807)) <|
    need (decide (s1.length + (([46] : List UInt8) ++ s7 : List UInt8).length ≤ 9223372036854775807)) <|
    bif (i3 : Int) == 1 then
    (bif decide ((i2 : Int) > 0) then
    (k0 ([] : List UInt8) 6)
    else
    go l2 (s1 ++ (([46] : List UInt8) ++ s7)) l3 i1 (IntKind.i64.wrap (i2 + 1)))
    else
    go l2 (s1 ++ (([46] : List UInt8) ++ s7)) l3 i1 (IntKind.i64.wrap (i2 + 1)))
    else
    k0 ([] : List UInt8) 6)
    else
    bif (i3 : Int) == 2 then
    ((R id_ref01PutDouble [AV.str s2]).bind fun r8 =>
    asSBT r8.v fun s8 b6 =>
    need (decide ((([46] : List UInt8) : List UInt8).length + s8.length ≤ 9223372036854775807)) <|
    need (decide (s1.length + (([46] : List UInt8) ++ s8 : List UInt8).length ≤ 9223372036854775807)) <|
    bif (i3 : Int) == 1 then
    (bif decide ((i2 : Int) > 0) then
    (k0 ([] : List UInt8) 6)
    else
    go l2 (s1 ++ (([46] : List UInt8) ++ s8)) l3 i1 (IntKind.i64.wrap (i2 + 1)))
    else
    go l2 (s1 ++ (([46] : List UInt8) ++ s8)) l3 i1 (IntKind.i64.wrap (i2 + 1)))
    else
    k0 ([] : List UInt8) 6)
    else
    bif (i3 : Int) == 4 then
    (need (decide (s1.length + (([46, 42] : List UInt8) : List UInt8).length ≤ 9223372036854775807)) <|
    bif (i3 : Int) == 1 then
    (bif decide ((i2 : Int) > 0) then
    (k0 ([] : List UInt8) 6)
    else
    go l2 (s1 ++ ([46, 42] : List UInt8)) l3 i1 (IntKind.i64.wrap (i2 + 1)))
    else
    go l2 (s1 ++ ([46, 42] : List UInt8)) l3 i1 (IntKind.i64.wrap (i2 + 1)))
    else
    bif (i3 : Int) == 5 then
    (need (decide (s1.length + (([46, 46] : List UInt8) : List UInt8).length ≤ 9223372036854775807)) <|
    bif (i3 : Int) == 1 then
    (bif decide ((i2 : Int) > 0) then
    (k0 ([] : List UInt8) 6)
    else
    go l2 (s1 ++ ([46, 46] : List UInt8)) l3 i1 (IntKind.i64.wrap (i2 + 1)))
    else
    go l2 (s1 ++ ([46, 46] : List UInt8)) l3 i1 (IntKind.i64.wrap (i2 + 1)))
    else
    bif (i3 : Int) == 2 then
    ((R id_ref01Name [AV.str s2]).bind fun r9 =>
    asB r9.v fun b7 =>
    bif b7 then
    (need (decide ((([46] : List UInt8) : List UInt8).length + s2.length ≤ 9223372036854775807)) <|
    need (decide (s1.length + (([46] : List UInt8) ++ s2 : List UInt8).length ≤ 9223372036854775807)) <|
    bif (i3 : Int) == 1 then
    (bif decide ((i2 : Int) > 0) then
    (k0 ([] : List UInt8) 6)
    else
    go l2 (s1 ++ (([46] : List UInt8) ++ s2)) l3 i1 (IntKind.i64.wrap (i2 + 1)))
    else
    go l2 (s1 ++ (([46] : List UInt8) ++ s2)) l3 i1 (IntKind.i64.wrap (i2 + 1)))
    else
    bif (i3 : Int) == 2 then
    ((R id_ref01PutDouble [AV.str s2]).bind fun r10 =>
    asSBT r10.v fun s9 b8 =>
    need (decide ((([46] : List UInt8) : List UInt8).length + s9.length ≤ 9223372036854775807)) <|
    need (decide (s1.length + (([46] : List UInt8) ++ s9 : List UInt8).length ≤ 9223372036854775807)) <|
    bif (i3 : Int) == 1 then
    (bif decide ((i2 : Int) > 0) then
    (k0 ([] : List UInt8) 6)
    else
    go l2 (s1 ++ (([46] : List UInt8) ++ s9)) l3 i1 (IntKind.i64.wrap (i2 + 1)))
    else
    go l2 (s1 ++ (([46] : List UInt8) ++ s9)) l3 i1 (IntKind.i64.wrap (i2 + 1)))
    else
    k0 ([] : List UInt8) 6)
    else
    bif (i3 : Int) == 2 then
    ((R id_ref01PutDouble [AV.str s2]).bind fun r11 =>
    asSBT r11.v fun s10 b9 =>
    need (decide ((([46] : List UInt8) : List UInt8).length + s10.length ≤ 9223372036854775807)) <|
    need (decide (s1.length + (([46] : List UInt8) ++ s10 : List UInt8).length ≤ 9223372036854775807)) <|
    bif (i3 : Int) == 1 then
    (bif decide ((i2 : Int) > 0) then
    (k0 ([] : List UInt8) 6)
    else
    go l2 (s1 ++ (([46] : List UInt8) ++ s10)) l3 i1 (IntKind.i64.wrap (i2 + 1)))
    else
    go l2 (s1 ++ (([46] : List UInt8) ++ s10)) l3 i1 (IntKind.i64.wrap (i2 + 1)))
    else
    k0 ([] : List UInt8) 6)
    else
    bif (i3 : Int) == 3 then
    (bif decide ((i4 : Int) ≥ 0) then
    (bif decide ((i4 : Int) ≤ 999999) then
    ((R id_ref18Digits [AV.int .i64 i4]).bind fun r12 =>
    asS r12.v fun s11 =>
    need (decide ((([91] : List UInt8) : List UInt8).length + s11.length ≤ 9223372036854775807)) <|
    need (decide ((([91] : List UInt8) ++ s11 : List UInt8).length + (([93] : List UInt8) : List UInt8).length ≤ 9223372036854775807)) <|
    need (decide (s1.length + ((([91] : List UInt8) ++ s11) ++ ([93] : List UInt8) : List UInt8).length ≤ 9223372036854775807)) <|
    bif (i3 : Int) == 1 then
    (bif decide ((i2 : Int) > 0) then
    (k0 ([] : List UInt8) 6)
    else
    go l2 (s1 ++ ((([91] : List UInt8) ++ s11) ++ ([93] : List UInt8))) l3 i1 (IntKind.i64.wrap (i2 + 1)))
    else
    go l2 (s1 ++ ((([91] : List UInt8) ++ s11) ++ ([93] : List UInt8))) l3 i1 (IntKind.i64.wrap (i2 + 1)))
    else
    bif (i3 : Int) == 4 then
    (need (decide (s1.length + (([46, 42] : List UInt8) : List UInt8).length ≤ 9223372036854775807)) <|
    bif (i3 : Int) == 1 then
    (bif decide ((i2 : Int) > 0) then
    (k0 ([] : List UInt8) 6)
    else
    go l2 (s1 ++ ([46, 42] : List UInt8)) l3 i1 (IntKind.i64.wrap (i2 + 1)))
    else
    go l2 (s1 ++ ([46, 42] : List UInt8)) l3 i1 (IntKind.i64.wrap (i2 + 1)))
    else
    bif (i3 : Int) == 5 then
    (need (decide (s1.length + (([46, 46] : List UInt8) : List UInt8).length ≤ 9223372036854775807)) <|
    bif (i3 : Int) == 1 then
    (bif decide ((i2 : Int) > 0) then
    (k0 ([] : List UInt8) 6)
    else
    go l2 (s1 ++ ([46, 46] : List UInt8)) l3 i1 (IntKind.i64.wrap (i2 + 1)))
    else
    go l2 (s1 ++ ([46, 46] : List UInt8)) l3 i1 (IntKind.i64.wrap (i2 + 1)))
    else
    bif (i3 : Int) == 2 then
    ((R id_ref01Name [AV.str s2]).bind fun r13 =>
    asB r13.v fun b10 =>
    bif b10 then
    (need (decide ((([46] : List UInt8) : List UInt8).length + s2.length ≤ 9223372036854775807)) <|
    need (decide (s1.length + (([46] : List UInt8) ++ s2 : List UInt8).length ≤ 9223372036854775807)) <|
    bif (i3 : Int) == 1 then
    (bif decide ((i2 : Int) > 0) then
    (k0 ([] : List UInt8) 6)
    else
    go l2 (s1 ++ (([46] : List UInt8) ++ s2)) l3 i1 (IntKind.i64.wrap (i2 + 1)))
    else
    go l2 (s1 ++ (([46] : List UInt8) ++ s2)) l3 i1 (IntKind.i64.wrap (i2 + 1)))
    else
    bif (i3 : Int) == 2 then
    ((R id_ref01PutDouble [AV.str s2]).bind fun r14 =>
    asSBT r14.v fun s12 b11 =>
    need (decide ((([46] : List UInt8) : List UInt8).length + s12.length ≤ 9223372036854775807)) <|
    need (decide (s1.length + (([46] : List UInt8) ++ s12 : List UInt8).length ≤ 9223372036854775807)) <|
    bif (i3 : Int) == 1 then
    (bif decide ((i2 : Int) > 0) then
    (k0 ([] : List UInt8) 6)
    else
    go l2 (s1 ++ (([46] : List UInt8) ++ s12)) l3 i1 (IntKind.i64.wrap (i2 + 1)))
    else
    go l2 (s1 ++ (([46] : List UInt8) ++ s12)) l3 i1 (IntKind.i64.wrap (i2 + 1)))
    else
    k0 ([] : List UInt8) 6)
    else
    bif (i3 : Int) == 2 then
    ((R id_ref01PutDouble [AV.str s2]).bind fun r15 =>
    asSBT r15.v fun s13 b12 =>
    need (decide ((([46] : List UInt8) : List UInt8).length + s13.length ≤ 9223372036854775807)) <|
    need (decide (s1.length + (([46] : List UInt8) ++ s13 : List UInt8).length ≤ 9223372036854775807)) <|
    bif (i3 : Int) == 1 then
    (bif decide ((i2 : Int) > 0) then
    (k0 ([] : List UInt8) 6)
    else
    go l2 (s1 ++ (([46] : List UInt8) ++ s13)) l3 i1 (IntKind.i64.wrap (i2 + 1)))
    else
    go l2 (s1 ++ (([46] : List UInt8) ++ s13)) l3 i1 (IntKind.i64.wrap (i2 + 1)))
    else
    k0 ([] : List UInt8) 6)
    else
    bif (i3 : Int) == 4 then
    (need (decide (s1.length + (([46, 42] : List UInt8) : List UInt8).length ≤ 9223372036854775807)) <|
    bif (i3 : Int) == 1 then
    (bif decide ((i2 : Int) > 0) then
    (k0 ([] : List UInt8) 6)
    else
    go l2 (s1 ++ ([46, 42] : List UInt8)) l3 i1 (IntKind.i64.wrap (i2 + 1)))
    else
    go l2 (s1 ++ ([46, 42] : List UInt8)) l3 i1 (IntKind.i64.wrap (i2 + 1)))
    else
    bif (i3 : Int) == 5 then
    (need (decide (s1.length + (([46, 46] : List UInt8) : List UInt8).length ≤ 9223372036854775807)) <|
    bif (i3 : Int) == 1 then
    (bif decide ((i2 : Int) > 0) then
    (k0 ([] : List UInt8) 6)
    else
    go l2 (s1 ++ ([46, 46] : List UInt8)) l3 i1 (IntKind.i64.wrap (i2 + 1)))
    else
    go l2 (s1 ++ ([46, 46] : List UInt8)) l3 i1 (IntKind.i64.wrap (i2 + 1)))
    else
    bif (i3 : Int) == 2 then
    ((R id_ref01Name [AV.str s2]).bind fun r16 =>
    asB r16.v fun b13 =>
    bif b13 then
    (need (decide ((([46] : List UInt8) : List UInt8).length + s2.length ≤ 9223372036854775807)) <|
    need (decide (s1.length + (([46] : List UInt8) ++ s2 : List UInt8).length ≤ 9223372036854775807)) <|
    bif (i3 : Int) == 1 then
    (bif decide ((i2 : Int) > 0) then
    (k0 ([] : List UInt8) 6)
    else
    go l2 (s1 ++ (([46] : List UInt8) ++ s2)) l3 i1 (IntKind.i64.wrap (i2 + 1)))
    else
    go l2 (s1 ++ (([46] : List UInt8) ++ s2)) l3 i1 (IntKind.i64.wrap (i2 + 1)))
    else
    bif (i3 : Int) == 2 then
    ((R id_ref01PutDouble [AV.str s2]).bind fun r17 =>
    asSBT r17.v fun s14 b14 =>
    need (decide ((([46] : List UInt8) : List UInt8).length + s14.length ≤ 9223372036854775807)) <|
    need (decide (s1.length + (([46] : List UInt8) ++ s14 : List UInt8).length ≤ 9223372036854775807)) <|
    bif (i3 : Int) == 1 then
    (bif decide ((i2 : Int) > 0) then
    (k0 ([] : List UInt8) 6)
    else
    go l2 (s1 ++ (([46] : List UInt8) ++ s14)) l3 i1 (IntKind.i64.wrap (i2 + 1)))
    else
    go l2 (s1 ++ (([46] : List UInt8) ++ s14)) l3 i1 (IntKind.i64.wrap (i2 + 1)))
    else
    k0 ([] : List UInt8) 6)
    else
    bif (i3 : Int) == 2 then
    ((R id_ref01PutDouble [AV.str s2]).bind fun r18 =>
    asSBT r18.v fun s15 b15 =>
    need (decide ((([46] : List UInt8) : List UInt8).length + s15.length ≤ 9223372036854775807)) <|
    need (decide (s1.length + (([46] : List UInt8) ++ s15 : List UInt8).length ≤ 9223372036854775807)) <|
    bif (i3 : Int) == 1 then
    (bif decide ((i2 : Int) > 0) then
    (k0 ([] : List UInt8) 6)
    else
    go l2 (s1 ++ (([46] : List UInt8) ++ s15)) l3 i1 (IntKind.i64.wrap (i2 + 1)))
    else
    go l2 (s1 ++ (([46] : List UInt8) ++ s15)) l3 i1 (IntKind.i64.wrap (i2 + 1)))
    else
    k0 ([] : List UInt8) 6)
    else
    bif (i3 : Int) == 4 then
    (need (decide (s1.length + (([46, 42] : List UInt8) : List UInt8).length ≤ 9223372036854775807)) <|
    bif (i3 : Int) == 1 then
    (bif decide ((i2 : Int) > 0) then
    (k0 ([] : List UInt8) 6)
    else
    go l2 (s1 ++ ([46, 42] : List UInt8)) l3 i1 (IntKind.i64.wrap (i2 + 1)))
    else
    go l2 (s1 ++ ([46, 42] : List UInt8)) l3 i1 (IntKind.i64.wrap (i2 + 1)))
    else
    bif (i3 : Int) == 5 then
    (need (decide (s1.length + (([46, 46] : List UInt8) : List UInt8).length ≤ 9223372036854775807)) <|
    bif (i3 : Int) == 1 then
    (bif decide ((i2 : Int) > 0) then
    (k0 ([] : List UInt8) 6)
    else
    go l2 (s1 ++ ([46, 46] : List UInt8)) l3 i1 (IntKind.i64.wrap (i2 + 1)))
    else
    go l2 (s1 ++ ([46, 46] : List UInt8)) l3 i1 (IntKind.i64.wrap (i2 + 1)))
    else
    bif (i3 : Int) == 2 then
    ((R id_ref01Name [AV.str s2]).bind fun r19 =>
    asB r19.v fun b16 =>
    bif b16 then
    (need (decide ((([46] : List UInt8) : List UInt8).length + s2.length ≤ 9223372036854775807)) <|
    need (decide (s1.length + (([46] : List UInt8) ++ s2 : List UInt8).length ≤ 9223372036854775807)) <|
    bif (i3 : Int) == 1 then
    (bif decide ((i2 : Int) > 0) then
    (k0 ([] : List UInt8) 6)
    else
    go l2 (s1 ++ (([46] : List UInt8) ++ s2)) l3 i1 (IntKind.i64.wrap (i2 + 1)))
    else
    go l2 (s1 ++ (([46] : List UInt8) ++ s2)) l3 i1 (IntKind.i64.wrap (i2 + 1)))
    else
    bif (i3 : Int) == 2 then
    ((R id_ref01PutDouble [AV.str s2]).bind fun r20 =>
    asSBT r20.v fun s16 b17 =>
    need (decide ((([46] : List UInt8) : List UInt8).length + s16.length ≤ 9223372036854775807)) <|
    need (decide (s1.length + (([46] : List UInt8) ++ s16 : List UInt8).length ≤ 9223372036854775807)) <|
    bif (i3 : Int) == 1 then
    (bif decide ((i2 : Int) > 0) then
    (k0 ([] : List UInt8) 6)
    else
    go l2 (s1 ++ (([46] : List UInt8) ++ s16)) l3 i1 (IntKind.i64.wrap (i2 + 1)))
    else
    go l2 (s1 ++ (([46] : List UInt8) ++ s16)) l3 i1 (IntKind.i64.wrap (i2 + 1)))
    else
    k0 ([] : List UInt8) 6)
    else
    bif (i3 : Int) == 2 then
    ((R id_ref01PutDouble [AV.str s2]).bind fun r21 =>
    asSBT r21.v fun s17 b18 =>
    need (decide ((([46] : List UInt8) : List UInt8).length + s17.length ≤ 9223372036854775807)) <|
    need (decide (s1.length + (([46] : List UInt8) ++ s17 : List UInt8).length ≤ 9223372036854775807)) <|
    bif (i3 : Int) == 1 then
    (bif decide ((i2 : Int) > 0) then
    (k0 ([] : List UInt8) 6)
    else
    go l2 (s1 ++ (([46] : List UInt8) ++ s17)) l3 i1 (IntKind.i64.wrap (i2 + 1)))
    else
    go l2 (s1 ++ (([46] : List UInt8) ++ s17)) l3 i1 (IntKind.i64.wrap (i2 + 1)))
    else
    k0 ([] : List UInt8) 6)
    else
    bif (i3 : Int) == 3 then
    (bif decide ((i4 : Int) ≥ 0) then
    (bif decide ((i4 : Int) ≤ 999999) then
    ((R id_ref18Digits [AV.int .i64 i4]).bind fun r22 =>
    asS r22.v fun s18 =>
    need (decide ((([91] : List UInt8) : List UInt8).length + s18.length ≤ 9223372036854775807)) <|
    need (decide ((([91] : List UInt8) ++ s18 : List UInt8).length + (([93] : List UInt8) : List UInt8).length ≤ 9223372036854775807)) <|
    need (decide (s1.length + ((([91] : List UInt8) ++ s18) ++ ([93] : List UInt8) : List UInt8).length ≤ 9223372036854775807)) <|
    bif (i3 : Int) == 1 then
    (bif decide ((i2 : Int) > 0) then
    (k0 ([] : List UInt8) 6)
    else
    go l2 (s1 ++ ((([91] : List UInt8) ++ s18) ++ ([93] : List UInt8))) l3 i1 (IntKind.i64.wrap (i2 + 1)))
    else
    go l2 (s1 ++ ((([91] : List UInt8) ++ s18) ++ ([93] : List UInt8))) l3 i1 (IntKind.i64.wrap (i2 + 1)))
    else
    bif (i3 : Int) == 4 then
    (need (decide (s1.length + (([46, 42] : List UInt8) : List UInt8).length ≤ 9223372036854775807)) <|
    bif (i3 : Int) == 1 then
    (bif decide ((i2 : Int) > 0) then
    (k0 ([] : List UInt8) 6)
    else
    go l2 (s1 ++ ([46, 42] : List UInt8)) l3 i1 (IntKind.i64.wrap (i2 + 1)))
    else
    go l2 (s1 ++ ([46, 42] : List UInt8)) l3 i1 (IntKind.i64.wrap (i2 + 1)))
    else
    bif (i3 : Int) == 5 then
    (need (decide (s1.length + (([46, 46] : List UInt8) : List UInt8).length ≤ 9223372036854775807)) <|
    bif (i3 : Int) == 1 then
    (bif decide ((i2 : Int) > 0) then
    (k0 ([] : List UInt8) 6)
    else
    go l2 (s1 ++ ([46, 46] : List UInt8)) l3 i1 (IntKind.i64.wrap (i2 + 1)))
    else
    go l2 (s1 ++ ([46, 46] : List UInt8)) l3 i1 (IntKind.i64.wrap (i2 + 1)))
    else
    bif (i3 : Int) == 2 then
    ((R id_ref01Name [AV.str s2]).bind fun r23 =>
    asB r23.v fun b19 =>
    bif b19 then
    (need (decide ((([46] : List UInt8) : List UInt8).length + s2.length ≤ 9223372036854775807)) <|
    need (decide (s1.length + (([46] : List UInt8) ++ s2 : List UInt8).length ≤ 9223372036854775807)) <|
    bif (i3 : Int) == 1 then
    (bif decide ((i2 : Int) > 0) then
    (k0 ([] : List UInt8) 6)
    else
    go l2 (s1 ++ (([46] : List UInt8) ++ s2)) l3 i1 (IntKind.i64.wrap (i2 + 1)))
    else
    go l2 (s1 ++ (([46] : List UInt8) ++ s2)) l3 i1 (IntKind.i64.wrap (i2 + 1)))
    else
    bif (i3 : Int) == 2 then
    ((R id_ref01PutDouble [AV.str s2]).bind fun r24 =>
    asSBT r24.v fun s19 b20 =>
    need (decide ((([46] : List UInt8) : List UInt8).length + s19.length ≤ 9223372036854775807)) <|
    need (decide (s1.length + (([46] : List UInt8) ++ s19 : List UInt8).length ≤ 9223372036854775807)) <|
    bif (i3 : Int) == 1 then
    (bif decide ((i2 : Int) > 0) then
    (k0 ([] : List UInt8) 6)
    else
    go l2 (s1 ++ (([46] : List UInt8) ++ s19)) l3 i1 (IntKind.i64.wrap (i2 + 1)))
    else
    go l2 (s1 ++ (([46] : List UInt8) ++ s19)) l3 i1 (IntKind.i64.wrap (i2 + 1)))
    else
    k0 ([] : List UInt8) 6)
    else
    bif (i3 : Int) == 2 then
    ((R id_ref01PutDouble [AV.str s2]).bind fun r25 =>
    asSBT r25.v fun s20 b21 =>
    need (decide ((([46] : List UInt8) : List UInt8).length + s20.length ≤ 9223372036854775807)) <|
    need (decide (s1.length + (([46] : List UInt8) ++ s20 : List UInt8).length ≤ 9223372036854775807)) <|
    bif (i3 : Int) == 1 then
    (bif decide ((i2 : Int) > 0) then
    (k0 ([] : List UInt8) 6)
    else
    go l2 (s1 ++ (([46] : List UInt8) ++ s20)) l3 i1 (IntKind.i64.wrap (i2 + 1)))
    else
    go l2 (s1 ++ (([46] : List UInt8) ++ s20)) l3 i1 (IntKind.i64.wrap (i2 + 1)))
    else
    k0 ([] : List UInt8) 6)
    else
    bif (i3 : Int) == 4 then
    (need (decide (s1.length + (([46, 42] : List UInt8) : List UInt8).length ≤ 9223372036854775807)) <|
    bif (i3 : Int) == 1 then
    (bif decide ((i2 : Int) > 0) then
    (k0 ([] : List UInt8) 6)
    else
    go l2 (s1 ++ ([46, 42] : List UInt8)) l3 i1 (IntKind.i64.wrap (i2 + 1)))
    else
    go l2 (s1 ++ ([46, 42] : List UInt8)) l3 i1 (IntKind.i64.wrap (i2 + 1)))
    else
    bif (i3 : Int) == 5 then
    (need (decide (s1.length + (([46, 46] : List UInt8) : List UInt8).length ≤ 9223372036854775807)) <|
    bif (i3 : Int) == 1 then
    (bif decide ((i2 : Int) > 0) then
    (k0 ([] : List UInt8) 6)
    else
    go l2 (s1 ++ ([46, 46] : List UInt8)) l3 i1 (IntKind.i64.wrap (i2 + 1)))
    else
    go l2 (s1 ++ ([46, 46] : List UInt8)) l3 i1 (IntKind.i64.wrap (i2 + 1)))
    else
    bif (i3 : Int) == 2 then
    ((R id_ref01Name [AV.str s2]).bind fun r26 =>
    asB r26.v fun b22 =>
    bif b22 then
    (need (decide ((([46] : List UInt8) : List UInt8).length + s2.length ≤ 9223372036854775807)) <|
    need (decide (s1.length + (([46] : List UInt8) ++ s2 : List UInt8).length ≤ 9223372036854775807)) <|
    bif (i3 : Int) == 1 then
    (bif decide ((i2 : Int) > 0) then
    (k0 ([] : List UInt8) 6)
    else
    go l2 (s1 ++ (([46] : List UInt8) ++ s2)) l3 i1 (IntKind.i64.wrap (i2 + 1)))
    else
    go l2 (s1 ++ (([46] : List UInt8) ++ s2)) l3 i1 (IntKind.i64.wrap (i2 + 1)))
    else
    bif (i3 : Int) == 2 then
    ((R id_ref01PutDouble [AV.str s2]).bind fun r27 =>
    asSBT r27.v fun s21 b23 =>
    need (decide ((([46] : List UInt8) : List UInt8).length + s21.length ≤ 9223372036854775807)) <|
    need (decide (s1.length + (([46] : List UInt8) ++ s21 : List UInt8).length ≤ 9223372036854775807)) <|
    bif (i3 : Int) == 1 then
    (bif decide ((i2 : Int) > 0) then
    (k0 ([] : List UInt8) 6)
    else
    go l2 (s1 ++ (([46] : List UInt8) ++ s21)) l3 i1 (IntKind.i64.wrap (i2 + 1)))
    else
    go l2 (s1 ++ (([46] : List UInt8) ++ s21)) l3 i1 (IntKind.i64.wrap (i2 + 1)))
    else
    k0 ([] : List UInt8) 6)
    else
    bif (i3 : Int) == 2 then
    ((R id_ref01PutDouble [AV.str s2]).bind fun r28 =>
    asSBT r28.v fun s22 b24 =>
    need (decide ((([46] : List UInt8) : List UInt8).length + s22.length ≤ 9223372036854775807)) <|
    need (decide (s1.length + (([46] : List UInt8) ++ s22 : List UInt8).length ≤ 9223372036854775807)) <|
    bif (i3 : Int) == 1 then
    (bif decide ((i2 : Int) > 0) then
    (k0 ([] : List UInt8) 6)
    else
    go l2 (s1 ++ (([46] : List UInt8) ++ s22)) l3 i1 (IntKind.i64.wrap (i2 + 1)))
    else
    go l2 (s1 ++ (([46] : List UInt8) ++ s22)) l3 i1 (IntKind.i64.wrap (i2 + 1)))
    else
    k0 ([] : List UInt8) 6)
    else
    bif (i3 : Int) == 4 then
    (need (decide (s1.length + (([46, 42] : List UInt8) : List UInt8).length ≤ 9223372036854775807)) <|
    bif (i3 : Int) == 1 then
    (bif decide ((i2 : Int) > 0) then
    (k0 ([] : List UInt8) 6)
    else
    go l2 (s1 ++ ([46, 42] : List UInt8)) l3 i1 (IntKind.i64.wrap (i2 + 1)))
    else
    go l2 (s1 ++ ([46, 42] : List UInt8)) l3 i1 (IntKind.i64.wrap (i2 + 1)))
    else
    bif (i3 : Int) == 5 then
    (need (decide (s1.length + (([46, 46] : List UInt8) : List UInt8).length ≤ 9223372036854775807)) <|
    bif (i3 : Int) == 1 then
    (bif decide ((i2 : Int) > 0) then
    (k0 ([] : List UInt8) 6)
    else
    go l2 (s1 ++ ([46, 46] : List UInt8)) l3 i1 (IntKind.i64.wrap (i2 + 1)))
    else
    go l2 (s1 ++ ([46, 46] : List UInt8)) l3 i1 (IntKind.i64.wrap (i2 + 1)))
    else
    bif (i3 : Int) == 2 then
    ((R id_ref01Name [AV.str s2]).bind fun r29 =>
    asB r29.v fun b25 =>
    bif b25 then
    (need (decide ((([46] : List UInt8) : List UInt8).length + s2.length ≤ 9223372036854775807)) <|
    need (decide (s1.length + (([46] : List UInt8) ++ s2 : List UInt8).length ≤ 9223372036854775807)) <|
    bif (i3 : Int) == 1 then
    (bif decide ((i2 : Int) > 0) then
    (k0 ([] : List UInt8) 6)
    else
    go l2 (s1 ++ (([46] : List UInt8) ++ s2)) l3 i1 (IntKind.i64.wrap (i2 + 1)))
    else
    go l2 (s1 ++ (([46] : List UInt8) ++ s2)) l3 i1 (IntKind.i64.wrap (i2 + 1)))
    else
    bif (i3 : Int) == 2 then
    ((R id_ref01PutDouble [AV.str s2]).bind fun r30 =>
    asSBT r30.v fun s23 b26 =>
    need (decide ((([46] : List UInt8) : List UInt8).length + s23.length ≤ 9223372036854775807)) <|
    need (decide (s1.length + (([46] : List UInt8) ++ s23 : List UInt8).length ≤ 9223372036854775807)) <|
    bif (i3 : Int) == 1 then
    (bif decide ((i2 : Int) > 0) then
    (k0 ([] : List UInt8) 6)
    else
    go l2 (s1 ++ (([46] : List UInt8) ++ s23)) l3 i1 (IntKind.i64.wrap (i2 + 1)))
    else
    go l2 (s1 ++ (([46] : List UInt8) ++ s23)) l3 i1 (IntKind.i64.wrap (i2 + 1)))
    else
    k0 ([] : List UInt8) 6)
    else
    bif (i3 : Int) == 2 then
    ((R id_ref01PutDouble [AV.str s2]).bind fun r31 =>
    asSBT r31.v fun s24 b27 =>
    need (decide ((([46] : List UInt8) : List UInt8).length + s24.length ≤ 9223372036854775807)) <|
    need (decide (s1.length + (([46] : List UInt8) ++ s24 : List UInt8).length ≤ 9223372036854775807)) <|
    bif (i3 : Int) == 1 then
    (bif decide ((i2 : Int) > 0) then
    (k0 ([] : List UInt8) 6)
    else
    go l2 (s1 ++ (([46] : List UInt8) ++ s24)) l3 i1 (IntKind.i64.wrap (i2 + 1)))
    else
    go l2 (s1 ++ (([46] : List UInt8) ++ s24)) l3 i1 (IntKind.i64.wrap (i2 + 1)))
    else
    k0 ([] : List UInt8) 6)
    else
    bif (i3 : Int) == 1 then
    (bif decide ((i4 : Int) ≥ 0) then
    (bif decide ((i4 : Int) ≤ 999999) then
    ((R id_ref18Digits [AV.int .i64 i4]).bind fun r32 =>
    asS r32.v fun s25 =>
    need (decide ((([64] : List UInt8) : List UInt8).length + s25.length ≤ 9223372036854775807)) <|
    need (decide (s1.length + (([64] : List UInt8) ++ s25 : List UInt8).length ≤ 9223372036854775807)) <|
    bif (i3 : Int) == 1 then
    (bif decide ((i2 : Int) > 0) then
    (k0 ([] : List UInt8) 6)
    else
    go l2 (s1 ++ (([64] : List UInt8) ++ s25)) l3 i1 (IntKind.i64.wrap (i2 + 1)))
    else
    go l2 (s1 ++ (([64] : List UInt8) ++ s25)) l3 i1 (IntKind.i64.wrap (i2 + 1)))
    else
    bif (i3 : Int) == 3 then
    (bif decide ((i4 : Int) ≥ 0) then
    (bif decide ((i4 : Int) ≤ 999999) then
    ((R id_ref18Digits [AV.int .i64 i4]).bind fun r33 =>
    asS r33.v fun s26 =>
    need (decide ((([91] : List UInt8) : List UInt8).length + s26.length ≤ 9223372036854775807)) <|
    need (decide ((([91] : List UInt8) ++ s26 : List UInt8).length + (([93] : List UInt8) : List UInt8).length ≤ 9223372036854775807)) <|
    need (decide (s1.length + ((([91] : List UInt8) ++ s26) ++ ([93] : List UInt8) : List UInt8).length ≤ 9223372036854775807)) <|
    bif (i3 : Int) == 1 then
    (bif decide ((i2 : Int) > 0) then
    (k0 ([] : List UInt8) 6)
    else
    go l2 (s1 ++ ((([91] : List UInt8) ++ s26) ++ ([93] : List UInt8))) l3 i1 (IntKind.i64.wrap (i2 + 1)))
    else
    go l2 (s1 ++ ((([91] : List UInt8) ++ s26) ++ ([93] : List UInt8))) l3 i1 (IntKind.i64.wrap (i2 + 1)))
    else
    bif (i3 : Int) == 4 then
    (need (decide (s1.length + (([46, 42] : List UInt8) : List UInt8).length ≤ 9223372036854775807)) <|
    bif (i3 : Int) == 1 then
    (bif decide ((i2 : Int) > 0) then
    (k0 ([] : List UInt8) 6)
    else
    go l2 (s1 ++ ([46, 42] : List UInt8)) l3 i1 (IntKind.i64.wrap (i2 + 1)))
    else
    go l2 (s1 ++ ([46, 42] : List UInt8)) l3 i1 (IntKind.i64.wrap (i2 + 1)))
    else
    bif (i3 : Int) == 5 then
    (need (decide (s1.length + (([46, 46] : List UInt8) : List UInt8).length ≤ 9223372036854775807)) <|
    bif (i3 : Int) == 1 then
    (bif decide ((i2 : Int) > 0) then
    (k0 ([] : List UInt8) 6)
    else
    go l2 (s1 ++ ([46, 46] : List UInt8)) l3 i1 (IntKind.i64.wrap (i2 + 1)))
    else
    go l2 (s1 ++ ([46, 46] : List UInt8)) l3 i1 (IntKind.i64.wrap (i2 + 1)))
    else
    bif (i3 : Int) == 2 then
    ((R id_ref01Name [AV.str s2]).bind fun r34 =>
    asB r34.v fun b28 =>
    bif b28 then
    (need (decide ((([46] : List UInt8) : List UInt8).length + s2.length ≤ 9223372036854775807)) <|
    need (decide (s1.length + (([46] : List UInt8) ++ s2 : List UInt8).length ≤ 9223372036854775807)) <|
    bif (i3 : Int) == 1 then
    (bif decide ((i2 : Int) > 0) then
    (k0 ([] : List UInt8) 6)
    else
    go l2 (s1 ++ (([46] : List UInt8) ++ s2)) l3 i1 (IntKind.i64.wrap (i2 + 1)))
    else
    go l2 (s1 ++ (([46] : List UInt8) ++ s2)) l3 i1 (IntKind.i64.wrap (i2 + 1)))
    else
    bif (i3 : Int) == 2 then
    ((R id_ref01PutDouble [AV.str s2]).bind fun r35 =>
    asSBT r35.v fun s27 b29 =>
    need (decide ((([46] : List UInt8) : List UInt8).length + s27.length ≤ 9223372036854775807)) <|
    need (decide (s1.length + (([46] : List UInt8) ++ s27 : List UInt8).length ≤ 9223372036854775807)) <|
    bif (i3 : Int) == 1 then
    (bif decide ((i2 : Int) > 0) then
    (k0 ([] : List UInt8) 6)
    else
    go l2 (s1 ++ (([46] : List UInt8) ++ s27)) l3 i1 (IntKind.i64.wrap (i2 + 1)))
    else
    go l2 (s1 ++ (([46] : List UInt8) ++ s27)) l3 i1 (IntKind.i64.wrap (i2 + 1)))
    else
    k0 ([] : List UInt8) 6)
    else
    bif (i3 : Int) == 2 then
    ((R id_ref01PutDouble [AV.str s2]).bind fun r36 =>
    asSBT r36.v fun s28 b30 =>
    need (decide ((([46] : List UInt8) : List UInt8).length + s28.length ≤ 9223372036854775807)) <|
    need (decide (s1.length + (([46] : List UInt8) ++ s28 : List UInt8).length ≤ 9223372036854775807)) <|
    bif (i3 : Int) == 1 then
    (bif decide ((i2 : Int) > 0) then
    (k0 ([] : List UInt8) 6)
    else
    go l2 (s1 ++ (([46] : List UInt8) ++ s28)) l3 i1 (IntKind.i64.wrap (i2 + 1)))
    else
    go l2 (s1 ++ (([46] : List UInt8) ++ s28)) l3 i1 (IntKind.i64.wrap (i2 + 1)))
    else
    k0 ([] : List UInt8) 6)
    else
    bif (i3 : Int) == 4 then
    (need (decide (s1.length + (([46, 42] : List UInt8) : List UInt8).length ≤ 9223372036854775807)) <|
    bif (i3 : Int) == 1 then
    (bif decide ((i2 : Int) > 0) then
    (k0 ([] : List UInt8) 6)
    else
    go l2 (s1 ++ ([46, 42] : List UInt8)) l3 i1 (IntKind.i64.wrap (i2 + 1)))
    else
    go l2 (s1 ++ ([46, 42] : List UInt8)) l3 i1 (IntKind.i64.wrap (i2 + 1)))
    else
    bif (i3 : Int) == 5 then
    (need (decide (s1.length + (([46, 46] : List UInt8) : List UInt8).length ≤ 9223372036854775807)) <|
    bif (i3 : Int) == 1 then
    (bif decide ((i2 : Int) > 0) then
    (k0 ([] : List UInt8) 6)
    else
    go l2 (s1 ++ ([46, 46] : List UInt8)) l3 i1 (IntKind.i64.wrap (i2 + 1)))
    else
    go l2 (s1 ++ ([46, 46] : List UInt8)) l3 i1 (IntKind.i64.wrap (i2 + 1)))
    else
    bif (i3 : Int) == 2 then
    ((R id_ref01Name [AV.str s2]).bind fun r37 =>
    asB r37.v fun b31 =>
    bif b31 then
    (need (decide ((([46] : List UInt8) : List UInt8).length + s2.length ≤ 9223372036854775807)) <|
    need (decide (s1.length + (([46] : List UInt8) ++ s2 : List UInt8).length ≤ 9223372036854775807)) <|
    bif (i3 : Int) == 1 then
    (bif decide ((i2 : Int) > 0) then
    (k0 ([] : List UInt8) 6)
    else
    go l2 (s1 ++ (([46] : List UInt8) ++ s2)) l3 i1 (IntKind.i64.wrap (i2 + 1)))
    else
    go l2 (s1 ++ (([46] : List UInt8) ++ s2)) l3 i1 (IntKind.i64.wrap (i2 + 1)))
    else
    bif (i3 : Int) == 2 then
    ((R id_ref01PutDouble [AV.str s2]).bind fun r38 =>
    asSBT r38.v fun s29 b32 =>
    need (decide ((([46] : List UInt8) : List UInt8).length + s29.length ≤ 9223372036854775807)) <|
    need (decide (s1.length + (([46] : List UInt8) ++ s29 : List UInt8).length ≤ 9223372036854775807)) <|
    bif (i3 : Int) == 1 then
    (bif decide ((i2 : Int) > 0) then
    (k0 ([] : List UInt8) 6)
    else
    go l2 (s1 ++ (([46] : List UInt8) ++ s29)) l3 i1 (IntKind.i64.wrap (i2 + 1)))
    else
    go l2 (s1 ++ (([46] : List UInt8) ++ s29)) l3 i1 (IntKind.i64.wrap (i2 + 1)))
    else
    k0 ([] : List UInt8) 6)
    else
    bif (i3 : Int) == 2 then
    ((R id_ref01PutDouble [AV.str s2]).bind fun r39 =>
    asSBT r39.v fun s30 b33 =>
    need (decide ((([46] : List UInt8) : List UInt8).length + s30.length ≤ 9223372036854775807)) <|
    need (decide (s1.length + (([46] : List UInt8) ++ s30 : List UInt8).length ≤ 9223372036854775807)) <|
    bif (i3 : Int) == 1 then
    (bif decide ((i2 : Int) > 0) then
    (k0 ([] : List UInt8) 6)
    else
    go l2 (s1 ++ (([46] : List UInt8) ++ s30)) l3 i1 (IntKind.i64.wrap (i2 + 1)))
    else
    go l2 (s1 ++ (([46] : List UInt8) ++ s30)) l3 i1 (IntKind.i64.wrap (i2 + 1)))
    else
    k0 ([] : List UInt8) 6)
    else
    bif (i3 : Int) == 4 then
    (need (decide (s1.length + (([46, 42] : List UInt8) : List UInt8).length ≤ 9223372036854775807)) <|
    bif (i3 : Int) == 1 then
    (bif decide ((i2 : Int) > 0) then
    (k0 ([] : List UInt8) 6)
    else
    go l2 (s1 ++ ([46, 42] : List UInt8)) l3 i1 (IntKind.i64.wrap (i2 + 1)))
    else
    go l2 (s1 ++ ([46, 42] : List UInt8)) l3 i1 (IntKind.i64.wrap (i2 + 1)))
    else
    bif (i3 : Int) == 5 then
    (need (decide (s1.length + (([46, 46] : List UInt8) : List UInt8).length ≤ 9223372036854775807)) <|
    bif (i3 : Int) == 1 then
    (bif decide ((i2 : Int) > 0) then
    (k0 ([] : List UInt8) 6)
    else
    go l2 (s1 ++ ([46, 46] : List UInt8)) l3 i1 (IntKind.i64.wrap (i2 + 1)))
    else
    go l2 (s1 ++ ([46, 46] : List UInt8)) l3 i1 (IntKind.i64.wrap (i2 + 1)))
    else
    bif (i3 : Int) == 2 then
    ((R id_ref01Name [AV.str s2]).bind fun r40 =>
    asB r40.v fun b34 =>
    bif b34 then
    (need (decide ((([46] : List UInt8) : List UInt8).length + s2.length ≤ 9223372036854775807)) <|
    need (decide (s1.length + (([46] : List UInt8) ++ s2 : List UInt8).length ≤ 9223372036854775807)) <|
    bif (i3 : Int) == 1 then
    (bif decide ((i2 : Int) > 0) then
    (k0 ([] : List UInt8) 6)
    else
    go l2 (s1 ++ (([46] : List UInt8) ++ s2)) l3 i1 (IntKind.i64.wrap (i2 + 1)))
    else
    go l2 (s1 ++ (([46] : List UInt8) ++ s2)) l3 i1 (IntKind.i64.wrap (i2 + 1)))
    else
    bif (i3 : Int) == 2 then
    ((R id_ref01PutDouble [AV.str s2]).bind fun r41 =>
    asSBT r41.v fun s31 b35 =>
    need (decide ((([46] : List UInt8) : List UInt8).length + s31.length ≤ 9223372036854775807)) <|
    need (decide (s1.length + (([46] : List UInt8) ++ s31 : List UInt8).length ≤ 9223372036854775807)) <|
    bif (i3 : Int) == 1 then
    (bif decide ((i2 : Int) > 0) then
    (k0 ([] : List UInt8) 6)
    else
    go l2 (s1 ++ (([46] : List UInt8) ++ s31)) l3 i1 (IntKind.i64.wrap (i2 + 1)))
    else
    go l2 (s1 ++ (([46] : List UInt8) ++ s31)) l3 i1 (IntKind.i64.wrap (i2 + 1)))
    else
    k0 ([] : List UInt8) 6)
    else
    bif (i3 : Int) == 2 then
    ((R id_ref01PutDouble [AV.str s2]).bind fun r42 =>
    asSBT r42.v fun s32 b36 =>
    need (decide ((([46] : List UInt8) : List UInt8).length + s32.length ≤ 9223372036854775807)) <|
    need (decide (s1.length + (([46] : List UInt8) ++ s32 : List UInt8).length ≤ 9223372036854775807)) <|
    bif (i3 : Int) == 1 then
    (bif decide ((i2 : Int) > 0) then
    (k0 ([] : List UInt8) 6)
    else
    go l2 (s1 ++ (([46] : List UInt8) ++ s32)) l3 i1 (IntKind.i64.wrap (i2 + 1)))
    else
    go l2 (s1 ++ (([46] : List UInt8) ++ s32)) l3 i1 (IntKind.i64.wrap (i2 + 1)))
    else
    k0 ([] : List UInt8) 6)
    else
    bif (i3 : Int) == 3 then
    (bif decide ((i4 : Int) ≥ 0) then
    (bif decide ((i4 : Int) ≤ 999999) then
    ((R id_ref18Digits [AV.int .i64 i4]).bind fun r43 =>
    asS r43.v fun s33 =>
    need (decide ((([91] : List UInt8) : List UInt8).length + s33.length ≤ 9223372036854775807)) <|
    need (decide ((([91] : List UInt8) ++ s33 : List UInt8).length + (([93] : List UInt8) : List UInt8).length ≤ 9223372036854775807)) <|
    need (decide (s1.length + ((([91] : List UInt8) ++ s33) ++ ([93] : List UInt8) : List UInt8).length ≤ 9223372036854775807)) <|
    bif (i3 : Int) == 1 then
    (bif decide ((i2 : Int) > 0) then
    (k0 ([] : List UInt8) 6)
    else
    go l2 (s1 ++ ((([91] : List UInt8) ++ s33) ++ ([93] : List UInt8))) l3 i1 (IntKind.i64.wrap (i2 + 1)))
    else
    go l2 (s1 ++ ((([91] : List UInt8) ++ s33) ++ ([93] : List UInt8))) l3 i1 (IntKind.i64.wrap (i2 + 1)))
    else
    bif (i3 : Int) == 4 then
    (need (decide (s1.length + (([46, 42] : List UInt8) : List UInt8).length ≤ 9223372036854775807)) <|
    bif (i3 : Int) == 1 then
    (bif decide ((i2 : Int) > 0) then
    (k0 ([] : List UInt8) 6)
    else
    go l2 (s1 ++ ([46, 42] : List UInt8)) l3 i1 (IntKind.i64.wrap (i2 + 1)))
    else
    go l2 (s1 ++ ([46, 42] : List UInt8)) l3 i1 (IntKind.i64.wrap (i2 + 1)))
    else
    bif (i3 : Int) == 5 then
    (need (decide (s1.length + (([46, 46] : List UInt8) : List UInt8).length ≤ 9223372036854775807)) <|
    bif (i3 : Int) == 1 then
    (bif decide ((i2 : Int) > 0) then
    (k0 ([] : List UInt8) 6)
    else
    go l2 (s1 ++ ([46, 46] : List UInt8)) l3 i1 (IntKind.i64.wrap (i2 + 1)))
    else
    go l2 (s1 ++ ([46, 46] : List UInt8)) l3 i1 (IntKind.i64.wrap (i2 + 1)))
    else
    bif (i3 : Int) == 2 then
    ((R id_ref01Name [AV.str s2]).bind fun r44 =>
    asB r44.v fun b37 =>
    bif b37 then
    (need (decide ((([46] : List UInt8) : List UInt8).length + s2.length ≤ 9223372036854775807)) <|
    need (decide (s1.length + (([46] : List UInt8) ++ s2 : List UInt8).length ≤ 9223372036854775807)) <|
    bif (i3 : Int) == 1 then
    (bif decide ((i2 : Int) > 0) then
    (k0 ([] : List UInt8) 6)
    else
    go l2 (s1 ++ (([46] : List UInt8) ++ s2)) l3 i1 (IntKind.i64.wrap (i2 + 1)))
    else
    go l2 (s1 ++ (([46] : List UInt8) ++ s2)) l3 i1 (IntKind.i64.wrap (i2 + 1)))
    else
    bif (i3 : Int) == 2 then
    ((R id_ref01PutDouble [AV.str s2]).bind fun r45 =>
    asSBT r45.v fun s34 b38 =>
    need (decide ((([46] : List UInt8) : List UInt8).length + s34.length ≤ 9223372036854775807)) <|
    need (decide (s1.length + (([46] : List UInt8) ++ s34 : List UInt8).length ≤ 9223372036854775807)) <|
    bif (i3 : Int) == 1 then
    (bif decide ((i2 : Int) > 0) then
    (k0 ([] : List UInt8) 6)
    else
    go l2 (s1 ++ (([46] : List UInt8) ++ s34)) l3 i1 (IntKind.i64.wrap (i2 + 1)))
    else
    go l2 (s1 ++ (([46] : List UInt8) ++ s34)) l3 i1 (IntKind.i64.wrap (i2 + 1)))
    else
    k0 ([] : List UInt8) 6)
    else
    bif (i3 : Int) == 2 then
    ((R id_ref01PutDouble [AV.str s2]).bind fun r46 =>
    asSBT r46.v fun s35 b39 =>
    need (decide ((([46] : List UInt8) : List UInt8).length + s35.length ≤ 9223372036854775807)) <|
    need (decide (s1.length + (([46] : List UInt8) ++ s35 : List UInt8).length ≤ 9223372036854775807)) <|
    bif (i3 : Int) == 1 then
    (bif decide ((i2 : Int) > 0) then
    (k0 ([] : List UInt8) 6)
    else
    go l2 (s1 ++ (([46] : List UInt8) ++ s35)) l3 i1 (IntKind.i64.wrap (i2 + 1)))
    else
    go l2 (s1 ++ (([46] : List UInt8) ++ s35)) l3 i1 (IntKind.i64.wrap (i2 + 1)))
    else
    k0 ([] : List UInt8) 6)
    else
    bif (i3 : Int) == 4 then
    (need (decide (s1.length + (([46, 42] : List UInt8) : List UInt8).length ≤ 9223372036854775807)) <|
    bif (i3 : Int) == 1 then
    (bif decide ((i2 : Int) > 0) then
    (k0 ([] : List UInt8) 6)
    else
    go l2 (s1 ++ ([46, 42] : List UInt8)) l3 i1 (IntKind.i64.wrap (i2 + 1)))
    else
    go l2 (s1 ++ ([46, 42] : List UInt8)) l3 i1 (IntKind.i64.wrap (i2 + 1)))
    else
    bif (i3 : Int) == 5 then
    (need (decide (s1.length + (([46, 46] : List UInt8) : List UInt8).length ≤ 9223372036854775807)) <|
    bif (i3 : Int) == 1 then
    (bif decide ((i2 : Int) > 0) then
    (k0 ([] : List UInt8) 6)
    else
    go l2 (s1 ++ ([46, 46] : List UInt8)) l3 i1 (IntKind.i64.wrap (i2 + 1)))
    else
    go l2 (s1 ++ ([46, 46] : List UInt8)) l3 i1 (IntKind.i64.wrap (i2 + 1)))
    else
    bif (i3 : Int) == 2 then
    ((R id_ref01Name [AV.str s2]).bind fun r47 =>
    asB r47.v fun b40 =>
    bif b40 then
    (need (decide ((([46] : List UInt8) : List UInt8).length + s2.length ≤ 9223372036854775807)) <|
    need (decide (s1.length + (([46] : List UInt8) ++ s2 : List UInt8).length ≤ 9223372036854775807)) <|
    bif (i3 : Int) == 1 then
    (bif decide ((i2 : Int) > 0) then
    (k0 ([] : List UInt8) 6)
    else
    go l2 (s1 ++ (([46] : List UInt8) ++ s2)) l3 i1 (IntKind.i64.wrap (i2 + 1)))
    else
    go l2 (s1 ++ (([46] : List UInt8) ++ s2)) l3 i1 (IntKind.i64.wrap (i2 + 1)))
    else
    bif (i3 : Int) == 2 then
    ((R id_ref01PutDouble [AV.str s2]).bind fun r48 =>
    asSBT r48.v fun s36 b41 =>
    need (decide ((([46] : List UInt8) : List UInt8).length + s36.length ≤ 9223372036854775807)) <|
    need (decide (s1.length + (([46] : List UInt8) ++ s36 : List UInt8).length ≤ 9223372036854775807)) <|
    bif (i3 : Int) == 1 then
    (bif decide ((i2 : Int) > 0) then
    (k0 ([] : List UInt8) 6)
    else
    go l2 (s1 ++ (([46] : List UInt8) ++ s36)) l3 i1 (IntKind.i64.wrap (i2 + 1)))
    else
    go l2 (s1 ++ (([46] : List UInt8) ++ s36)) l3 i1 (IntKind.i64.wrap (i2 + 1)))
    else
    k0 ([] : List UInt8) 6)
    else
    bif (i3 : Int) == 2 then
    ((R id_ref01PutDouble [AV.str s2]).bind fun r49 =>
    asSBT r49.v fun s37 b42 =>
    need (decide ((([46] : List UInt8) : List UInt8).length + s37.length ≤ 9223372036854775807)) <|
    need (decide (s1.length + (([46] : List UInt8) ++ s37 : List UInt8).length ≤ 9223372036854775807)) <|
    bif (i3 : Int) == 1 then
    (bif decide ((i2 : Int) > 0) then
    (k0 ([] : List UInt8) 6)
    else
    go l2 (s1 ++ (([46] : List UInt8) ++ s37)) l3 i1 (IntKind.i64.wrap (i2 + 1)))
    else
    go l2 (s1 ++ (([46] : List UInt8) ++ s37)) l3 i1 (IntKind.i64.wrap (i2 + 1)))
    else
    k0 ([] : List UInt8) 6)
    else
    bif (i3 : Int) == 4 then
    (need (decide (s1.length + (([46, 42] : List UInt8) : List UInt8).length ≤ 9223372036854775807)) <|
    bif (i3 : Int) == 1 then
    (bif decide ((i2 : Int) > 0) then
    (k0 ([] : List UInt8) 6)
    else
    go l2 (s1 ++ ([46, 42] : List UInt8)) l3 i1 (IntKind.i64.wrap (i2 + 1)))
    else
    go l2 (s1 ++ ([46, 42] : List UInt8)) l3 i1 (IntKind.i64.wrap (i2 + 1)))
    else
    bif (i3 : Int) == 5 then
    (need (decide (s1.length + (([46, 46] : List UInt8) : List UInt8).length ≤ 9223372036854775807)) <|
    bif (i3 : Int) == 1 then
    (bif decide ((i2 : Int) > 0) then
    (k0 ([] : List UInt8) 6)
    else
    go l2 (s1 ++ ([46, 46] : List UInt8)) l3 i1 (IntKind.i64.wrap (i2 + 1)))
    else
    go l2 (s1 ++ ([46, 46] : List UInt8)) l3 i1 (IntKind.i64.wrap (i2 + 1)))
    else
    bif (i3 : Int) == 2 then
    ((R id_ref01Name [AV.str s2]).bind fun r50 =>
    asB r50.v fun b43 =>
    bif b43 then
    (need (decide ((([46] : List UInt8) : List UInt8).length + s2.length ≤ 9223372036854775807)) <|
    need (decide (s1.length + (([46] : List UInt8) ++ s2 : List UInt8).length ≤ 9223372036854775807)) <|
    bif (i3 : Int) == 1 then
    (bif decide ((i2 : Int) > 0) then
    (k0 ([] : List UInt8) 6)
    else
    go l2 (s1 ++ (([46] : List UInt8) ++ s2)) l3 i1 (IntKind.i64.wrap (i2 + 1)))
    else
    go l2 (s1 ++ (([46] : List UInt8) ++ s2)) l3 i1 (IntKind.i64.wrap (i2 + 1)))
    else
    bif (i3 : Int) == 2 then
    ((R id_ref01PutDouble [AV.str s2]).bind fun r51 =>
    asSBT r51.v fun s38 b44 =>
    need (decide ((([46] : List UInt8) : List UInt8).length + s38.length ≤ 9223372036854775807)) <|
    need (decide (s1.length + (([46] : List UInt8) ++ s38 : List UInt8).length ≤ 9223372036854775807)) <|
    bif (i3 : Int) == 1 then
    (bif decide ((i2 : Int) > 0) then
    (k0 ([] : List UInt8) 6)
    else
    go l2 (s1 ++ (([46] : List UInt8) ++ s38)) l3 i1 (IntKind.i64.wrap (i2 + 1)))
    else
    go l2 (s1 ++ (([46] : List UInt8) ++ s38)) l3 i1 (IntKind.i64.wrap (i2 + 1)))
    else
    k0 ([] : List UInt8) 6)
    else
    bif (i3 : Int) == 2 then
    ((R id_ref01PutDouble [AV.str s2]).bind fun r52 =>
    asSBT r52.v fun s39 b45 =>
    need (decide ((([46] : List UInt8) : List UInt8).length + s39.length ≤ 9223372036854775807)) <|
    need (decide (s1.length + (([46] : List UInt8) ++ s39 : List UInt8).length ≤ 9223372036854775807)) <|
    bif (i3 : Int) == 1 then
    (bif decide ((i2 : Int) > 0) then
    (k0 ([] : List UInt8) 6)
    else
    go l2 (s1 ++ (([46] : List UInt8) ++ s39)) l3 i1 (IntKind.i64.wrap (i2 + 1)))
    else
    go l2 (s1 ++ (([46] : List UInt8) ++ s39)) l3 i1 (IntKind.i64.wrap (i2 + 1)))
    else
    k0 ([] : List UInt8) 6)
    else
    bif (i3 : Int) == 3 then
    (bif decide ((i4 : Int) ≥ 0) then
    (bif decide ((i4 : Int) ≤ 999999) then
    ((R id_ref18Digits [AV.int .i64 i4]).bind fun r53 =>
    asS r53.v fun s40 =>
    need (decide ((([91] : List UInt8) : List UInt8).length + s40.length ≤ 9223372036854775807)) <|
    need (decide ((([91] : List UInt8) ++ s40 : List UInt8).length + (([93] : List UInt8) : List UInt8).length ≤ 9223372036854775807)) <|
    need (decide (s1.length + ((([91] : List UInt8) ++ s40) ++ ([93] : List UInt8) : List UInt8).length ≤ 9223372036854775807)) <|
    bif (i3 : Int) == 1 then
    (bif decide ((i2 : Int) > 0) then
    (k0 ([] : List UInt8) 6)
    else
    go l2 (s1 ++ ((([91] : List UInt8) ++ s40) ++ ([93] : List UInt8))) l3 i1 (IntKind.i64.wrap (i2 + 1)))
    else
    go l2 (s1 ++ ((([91] : List UInt8) ++ s40) ++ ([93] : List UInt8))) l3 i1 (IntKind.i64.wrap (i2 + 1)))
    else
    bif (i3 : Int) == 4 then
    (need (decide (s1.length + (([46, 42] : List UInt8) : List UInt8).length ≤ 9223372036854775807)) <|
    bif (i3 : Int) == 1 then
    (bif decide ((i2 : Int) > 0) then
    (k0 ([] : List UInt8) 6)
    else
    go l2 (s1 ++ ([46, 42] : List UInt8)) l3 i1 (IntKind.i64.wrap (i2 + 1)))
    else
    go l2 (s1 ++ ([46, 42] : List UInt8)) l3 i1 (IntKind.i64.wrap (i2 + 1)))
    else
    bif (i3 : Int) == 5 then
    (need (decide (s1.length + (([46, 46] : List UInt8) : List UInt8).length ≤ 9223372036854775807)) <|
    bif (i3 : Int) == 1 then
    (bif decide ((i2 : Int) > 0) then
    (k0 ([] : List UInt8) 6)
    else
    go l2 (s1 ++ ([46, 46] : List UInt8)) l3 i1 (IntKind.i64.wrap (i2 + 1)))
    else
    go l2 (s1 ++ ([46, 46] : List UInt8)) l3 i1 (IntKind.i64.wrap (i2 + 1)))
    else
    bif (i3 : Int) == 2 then
    ((R id_ref01Name [AV.str s2]).bind fun r54 =>
    asB r54.v fun b46 =>
    bif b46 then
    (need (decide ((([46] : List UInt8) : List UInt8).length + s2.length ≤ 9223372036854775807)) <|
    need (decide (s1.length + (([46] : List UInt8) ++ s2 : List UInt8).length ≤ 9223372036854775807)) <|
    bif (i3 : Int) == 1 then
    (bif decide ((i2 : Int) > 0) then
    (k0 ([] : List UInt8) 6)
    else
    go l2 (s1 ++ (([46] : List UInt8) ++ s2)) l3 i1 (IntKind.i64.wrap (i2 + 1)))
    else
    go l2 (s1 ++ (([46] : List UInt8) ++ s2)) l3 i1 (IntKind.i64.wrap (i2 + 1)))
    else
    bif (i3 : Int) == 2 then
    ((R id_ref01PutDouble [AV.str s2]).bind fun r55 =>
    asSBT r55.v fun s41 b47 =>
    need (decide ((([46] : List UInt8) : List UInt8).length + s41.length ≤ 9223372036854775807)) <|
    need (decide (s1.length + (([46] : List UInt8) ++ s41 : List UInt8).length ≤ 9223372036854775807)) <|
    bif (i3 : Int) == 1 then
    (bif decide ((i2 : Int) > 0) then
    (k0 ([] : List UInt8) 6)
    else
    go l2 (s1 ++ (([46] : List UInt8) ++ s41)) l3 i1 (IntKind.i64.wrap (i2 + 1)))
    else
    go l2 (s1 ++ (([46] : List UInt8) ++ s41)) l3 i1 (IntKind.i64.wrap (i2 + 1)))
    else
    k0 ([] : List UInt8) 6)
    else
    bif (i3 : Int) == 2 then
    ((R id_ref01PutDouble [AV.str s2]).bind fun r56 =>
    asSBT r56.v fun s42 b48 =>
    need (decide ((([46] : List UInt8) : List UInt8).length + s42.length ≤ 9223372036854775807)) <|
    need (decide (s1.length + (([46] : List UInt8) ++ s42 : List UInt8).length ≤ 9223372036854775807)) <|
    bif (i3 : Int) == 1 then
    (bif decide ((i2 : Int) > 0) then
    (k0 ([] : List UInt8) 6)
    else
    go l2 (s1 ++ (([46] : List UInt8) ++ s42)) l3 i1 (IntKind.i64.wrap (i2 + 1)))
    else
    go l2 (s1 ++ (([46] : List UInt8) ++ s42)) l3 i1 (IntKind.i64.wrap (i2 + 1)))
    else
    k0 ([] : List UInt8) 6)
    else
    bif (i3 : Int) == 4 then
    (need (decide (s1.length + (([46, 42] : List UInt8) : List UInt8).length ≤ 9223372036854775807)) <|
    bif (i3 : Int) == 1 then
    (bif decide ((i2 : Int) > 0) then
    (k0 ([] : List UInt8) 6)
    else
    go l2 (s1 ++ ([46, 42] : List UInt8)) l3 i1 (IntKind.i64.wrap (i2 + 1)))
    else
    go l2 (s1 ++ ([46, 42] : List UInt8)) l3 i1 (IntKind.i64.wrap (i2 + 1)))
    else
    bif (i3 : Int) == 5 then
    (need (decide (s1.length + (([46, 46] : List UInt8) : List UInt8).length ≤ 9223372036854775807)) <|
    bif (i3 : Int) == 1 then
    (bif decide ((i2 : Int) > 0) then
    (k0 ([] : List UInt8) 6)
    else
    go l2 (s1 ++ ([46, 46] : List UInt8)) l3 i1 (IntKind.i64.wrap (i2 + 1)))
    else
    go l2 (s1 ++ ([46, 46] : List UInt8)) l3 i1 (IntKind.i64.wrap (i2 + 1)))
    else
    bif (i3 : Int) == 2 then
    ((R id_ref01Name [AV.str s2]).bind fun r57 =>
    asB r57.v fun b49 =>
    bif b49 then
    (need (decide ((([46] : List UInt8) : List UInt8).length + s2.length ≤ 9223372036854775807)) <|
    need (decide (s1.length + (([46] : List UInt8) ++ s2 : List UInt8).length ≤ 9223372036854775807)) <|
    bif (i3 : Int) == 1 then
    (bif decide ((i2 : Int) > 0) then
    (k0 ([] : List UInt8) 6)
    else
    go l2 (s1 ++ (([46] : List UInt8) ++ s2)) l3 i1 (IntKind.i64.wrap (i2 + 1)))
    else
    go l2 (s1 ++ (([46] : List UInt8) ++ s2)) l3 i1 (IntKind.i64.wrap (i2 + 1)))
    else
    bif (i3 : Int) == 2 then
    ((R id_ref01PutDouble [AV.str s2]).bind fun r58 =>
    asSBT r58.v fun s43 b50 =>
    need (decide ((([46] : List UInt8) : List UInt8).length + s43.length ≤ 9223372036854775807)) <|
    need (decide (s1.length + (([46] : List UInt8) ++ s43 : List UInt8).length ≤ 9223372036854775807)) <|
    bif (i3 : Int) == 1 then
    (bif decide ((i2 : Int) > 0) then
    (k0 ([] : List UInt8) 6)
    else
    go l2 (s1 ++ (([46] : List UInt8) ++ s43)) l3 i1 (IntKind.i64.wrap (i2 + 1)))
    else
    go l2 (s1 ++ (([46] : List UInt8) ++ s43)) l3 i1 (IntKind.i64.wrap (i2 + 1)))
    else
    k0 ([] : List UInt8) 6)
    else
    bif (i3 : Int) == 2 then
    ((R id_ref01PutDouble [AV.str s2]).bind fun r59 =>
    asSBT r59.v fun s44 b51 =>
    need (decide ((([46] : List UInt8) : List UInt8).length + s44.length ≤ 9223372036854775807)) <|
    need (decide (s1.length + (([46] : List UInt8) ++ s44 : List UInt8).length ≤ 9223372036854775807)) <|
    bif (i3 : Int) == 1 then
    (bif decide ((i2 : Int) > 0) then
    (k0 ([] : List UInt8) 6)
    else
    go l2 (s1 ++ (([46] : List UInt8) ++ s44)) l3 i1 (IntKind.i64.wrap (i2 + 1)))
    else
    go l2 (s1 ++ (([46] : List UInt8) ++ s44)) l3 i1 (IntKind.i64.wrap (i2 + 1)))
    else
    k0 ([] : List UInt8) 6)
    else
    bif (i3 : Int) == 4 then
    (need (decide (s1.length + (([46, 42] : List UInt8) : List UInt8).length ≤ 9223372036854775807)) <|
    bif (i3 : Int) == 1 then
    (bif decide ((i2 : Int) > 0) then
    (k0 ([] : List UInt8) 6)
    else
    go l2 (s1 ++ ([46, 42] : List UInt8)) l3 i1 (IntKind.i64.wrap (i2 + 1)))
    else
    go l2 (s1 ++ ([46, 42] : List UInt8)) l3 i1 (IntKind.i64.wrap (i2 + 1)))
    else
    bif (i3 : Int) == 5 then
    (need (decide (s1.length + (([46, 46] : List UInt8) : List UInt8).length ≤ 9223372036854775807)) <|
    bif (i3 : Int) == 1 then
    (bif decide ((i2 : Int) > 0) then
    (k0 ([] : List UInt8) 6)
    else
    go l2 (s1 ++ ([46, 46] : List UInt8)) l3 i1 (IntKind.i64.wrap (i2 + 1)))
    else
    go l2 (s1 ++ ([46, 46] : List UInt8)) l3 i1 (IntKind.i64.wrap (i2 + 1)))
    else
    bif (i3 : Int) == 2 then
    ((R id_ref01Name [AV.str s2]).bind fun r60 =>
    asB r60.v fun b52 =>
    bif b52 then
    (need (decide ((([46] : List UInt8) : List UInt8).length + s2.length ≤ 9223372036854775807)) <|
    need (decide (s1.length + (([46] : List UInt8) ++ s2 : List UInt8).length ≤ 9223372036854775807)) <|
    bif (i3 : Int) == 1 then
    (bif decide ((i2 : Int) > 0) then
    (k0 ([] : List UInt8) 6)
    else
    go l2 (s1 ++ (([46] : List UInt8) ++ s2)) l3 i1 (IntKind.i64.wrap (i2 + 1)))
    else
    go l2 (s1 ++ (([46] : List UInt8) ++ s2)) l3 i1 (IntKind.i64.wrap (i2 + 1)))
    else
    bif (i3 : Int) == 2 then
    ((R id_ref01PutDouble [AV.str s2]).bind fun r61 =>
    asSBT r61.v fun s45 b53 =>
    need (decide ((([46] : List UInt8) : List UInt8).length + s45.length ≤ 9223372036854775807)) <|
    need (decide (s1.length + (([46] : List UInt8) ++ s45 : List UInt8).length ≤ 9223372036854775807)) <|
    bif (i3 : Int) == 1 then
    (bif decide ((i2 : Int) > 0) then
    (k0 ([] : List UInt8) 6)
    else
    go l2 (s1 ++ (([46] : List UInt8) ++ s45)) l3 i1 (IntKind.i64.wrap (i2 + 1)))
    else
    go l2 (s1 ++ (([46] : List UInt8) ++ s45)) l3 i1 (IntKind.i64.wrap (i2 + 1)))
    else
    k0 ([] : List UInt8) 6)
    else
    bif (i3 : Int) == 2 then
    ((R id_ref01PutDouble [AV.str s2]).bind fun r62 =>
    asSBT r62.v fun s46 b54 =>
    need (decide ((([46] : List UInt8) : List UInt8).length + s46.length ≤ 9223372036854775807)) <|
    need (decide (s1.length + (([46] : List UInt8) ++ s46 : List UInt8).length ≤ 9223372036854775807)) <|
    bif (i3 : Int) == 1 then
    (bif decide ((i2 : Int) > 0) then
    (k0 ([] : List UInt8) 6)
    else
    go l2 (s1 ++ (([46] : List UInt8) ++ s46)) l3 i1 (IntKind.i64.wrap (i2 + 1)))
    else
    go l2 (s1 ++ (([46] : List UInt8) ++ s46)) l3 i1 (IntKind.i64.wrap (i2 + 1)))
    else
    k0 ([] : List UInt8) 6)
  else
    k1 l2 s1
def ref18PrintPath_L1 (R : Nat → List AV → Option Res) (N : Nat) (k0 : List UInt8 → Int → Option Res) (k1 : List AV → List UInt8 → Option Res) : Nat → List AV → List UInt8 → List AV → Int → Int → Option Res
  | 0, _, _, _, _, _ => none
  | n + 1, l2, s1, l3, i1, i2 => ref18PrintPath_L1s R N (ref18PrintPath_L1 R N k0 k1 n) k0 k1 l2 s1 l3 i1 i2
def ref18PrintPath_c0 : AC := .seq (.region [.op (some 15) none (.bin .lss (.t 14) (.t 13))]) (.seq (.cond (.t 15) (.skip) (.exit 0 [0, 4] [])) (.seq (.block 1 (.seq (.region [.op (some 16) none (.mv (.t 14)), .op (some 17) none (.iaddr (.t 12) (.t 14) 3 (.agg [.int .i64, .str, .int .i64])), .op (some 18) none (.load (.t 17) (some 3) (.agg [.int .i64, .str, .int .i64])), .op (some 6) none (.alloc 1006 [AV.int .i64 0, AV.str [], AV.int .i64 0]), .op (some 5) none (.mv (.t 16)), .op none none (.store (.t 6) (.t 18) 3)]) (.seq (.block 2 (.seq (.region [.op (some 20) none (.faddr (.t 6) 0), .op (some 21) none (.load (.t 20) none (.int .i64)), .op (some 22) none (.bin .eql (.t 21) (.k (AV.int .i64 1))), .op (some 23) none (.mv (.t 22)), .split 23, .op (some 24) (some (23, true)) (.faddr (.t 6) 2), .op (some 25) (some (23, true)) (.load (.t 24) none (.int .i64)), .op (some 26) (some (23, true)) (.bin .eql (.t 25) (.k (AV.int .i64 (-1)))), .op (some 27) none (.pick (.t 23) (.t 26) (.k (AV.bool false))), .op (some 19) none (.mv (.t 27))]) (.cond (.t 19) (.region [.op (some 28) none (.mv (.t 4)), .op (some 29) none (.bin .add (.t 28) (.k (AV.str ([64, 42] : List UInt8)))), .op (some 4) none (.mv (.t 29))]) (.seq (.region [.op (some 31) none (.faddr (.t 6) 0), .op (some 32) none (.load (.t 31) none (.int .i64)), .op (some 33) none (.bin .eql (.t 32) (.k (AV.int .i64 1))), .op (some 34) none (.mv (.t 33)), .split 34, .op (some 35) (some (34, true)) (.faddr (.t 6) 2), .op (some 36) (some (34, true)) (.load (.t 35) none (.int .i64)), .op (some 37) (some (34, true)) (.bin .geq (.t 36) (.k (AV.int .i64 0))), .op (some 38) none (.pick (.t 34) (.t 37) (.k (AV.bool false))), .op (some 39) none (.mv (.t 38)), .split 39, .op (some 40) (some (39, true)) (.faddr (.t 6) 2), .op (some 41) (some (39, true)) (.load (.t 40) none (.int .i64)), .op (some 42) (some (39, true)) (.bin .leq (.t 41) (.k (AV.int .i64 999999))), .op (some 43) none (.pick (.t 39) (.t 42) (.k (AV.bool false))), .op (some 30) none (.mv (.t 43))]) (.cond (.t 30) (.region [.op (some 44) none (.mv (.t 4)), .op (some 45) none (.faddr (.t 6) 2), .op (some 46) none (.load (.t 45) none (.int .i64)), .op (some 47) none (.call id_ref18Digits [.t 46] (.str)), .op (some 48) none (.bin .add (.k (AV.str ([64] : List UInt8))) (.t 47)), .op (some 49) none (.bin .add (.t 44) (.t 48)), .op (some 4) none (.mv (.t 49))]) (.seq (.region [.op (some 51) none (.faddr (.t 6) 0), .op (some 52) none (.load (.t 51) none (.int .i64)), .op (some 53) none (.bin .eql (.t 52) (.k (AV.int .i64 3))), .op (some 54) none (.mv (.t 53)), .split 54, .op (some 55) (some (54, true)) (.faddr (.t 6) 2), .op (some 56) (some (54, true)) (.load (.t 55) none (.int .i64)), .op (some 57) (some (54, true)) (.bin .geq (.t 56) (.k (AV.int .i64 0))), .op (some 58) none (.pick (.t 54) (.t 57) (.k (AV.bool false))), .op (some 59) none (.mv (.t 58)), .split 59, .op (some 60) (some (59, true)) (.faddr (.t 6) 2), .op (some 61) (some (59, true)) (.load (.t 60) none (.int .i64)), .op (some 62) (some (59, true)) (.bin .leq (.t 61) (.k (AV.int .i64 999999))), .op (some 63) none (.pick (.t 59) (.t 62) (.k (AV.bool false))), .op (some 50) none (.mv (.t 63))]) (.cond (.t 50) (.region [.op (some 64) none (.mv (.t 4)), .op (some 65) none (.faddr (.t 6) 2), .op (some 66) none (.load (.t 65) none (.int .i64)), .op (some 67) none (.call id_ref18Digits [.t 66] (.str)), .op (some 68) none (.bin .add (.k (AV.str ([91] : List UInt8))) (.t 67)), .op (some 69) none (.bin .add (.t 68) (.k (AV.str ([93] : List UInt8)))), .op (some 70) none (.bin .add (.t 64) (.t 69)), .op (some 4) none (.mv (.t 70))]) (.seq (.region [.op (some 72) none (.faddr (.t 6) 0), .op (some 73) none (.load (.t 72) none (.int .i64)), .op (some 74) none (.bin .eql (.t 73) (.k (AV.int .i64 4))), .op (some 71) none (.mv (.t 74))]) (.cond (.t 71) (.region [.op (some 75) none (.mv (.t 4)), .op (some 76) none (.bin .add (.t 75) (.k (AV.str ([46, 42] : List UInt8)))), .op (some 4) none (.mv (.t 76))]) (.seq (.region [.op (some 78) none (.faddr (.t 6) 0), .op (some 79) none (.load (.t 78) none (.int .i64)), .op (some 80) none (.bin .eql (.t 79) (.k (AV.int .i64 5))), .op (some 77) none (.mv (.t 80))]) (.cond (.t 77) (.region [.op (some 81) none (.mv (.t 4)), .op (some 82) none (.bin .add (.t 81) (.k (AV.str ([46, 46] : List UInt8)))), .op (some 4) none (.mv (.t 82))]) (.seq (.region [.op (some 84) none (.faddr (.t 6) 0), .op (some 85) none (.load (.t 84) none (.int .i64)), .op (some 86) none (.bin .eql (.t 85) (.k (AV.int .i64 2))), .op (some 87) none (.mv (.t 86)), .split 87, .op (some 88) (some (87, true)) (.faddr (.t 6) 1), .op (some 89) (some (87, true)) (.load (.t 88) none (.str)), .op (some 90) (some (87, true)) (.call id_ref01Name [.t 89] (.bool)), .op (some 91) none (.pick (.t 87) (.t 90) (.k (AV.bool false))), .op (some 83) none (.mv (.t 91))]) (.cond (.t 83) (.region [.op (some 92) none (.mv (.t 4)), .op (some 93) none (.faddr (.t 6) 1), .op (some 94) none (.load (.t 93) none (.str)), .op (some 95) none (.bin .add (.k (AV.str ([46] : List UInt8))) (.t 94)), .op (some 96) none (.bin .add (.t 92) (.t 95)), .op (some 4) none (.mv (.t 96))]) (.seq (.region [.op (some 98) none (.faddr (.t 6) 0), .op (some 99) none (.load (.t 98) none (.int .i64)), .op (some 100) none (.bin .eql (.t 99) (.k (AV.int .i64 2))), .op (some 97) none (.mv (.t 100))]) (.cond (.t 97) (.seq (.region [.op (some 102) none (.faddr (.t 6) 1), .op (some 103) none (.load (.t 102) none (.str)), .op (some 104) none (.call id_ref01PutDouble [.t 103] (.tup [.str, .bool])), .op (some 101) none (.mv (.t 104)), .op (some 105) none (.extract (.t 101) 0), .op (some 106) none (.extract (.t 101) 1), .op (some 7) none (.mv (.t 105)), .op (some 8) none (.mv (.t 106))]) (.region [.op (some 107) none (.mv (.t 4)), .op (some 108) none (.mv (.t 7)), .op (some 109) none (.bin .add (.k (AV.str ([46] : List UInt8))) (.t 108)), .op (some 110) none (.bin .add (.t 107) (.t 109)), .op (some 4) none (.mv (.t 110))])) (.seq (.region [.op (some 2) none (.mv (.k (AV.str ([] : List UInt8)))), .op (some 3) none (.mv (.k (AV.int .i64 6)))]) (.ret [2, 3] []))))))))))))))))) (.seq (.region [.op (some 111) none (.faddr (.t 6) 0), .op (some 112) none (.load (.t 111) none (.int .i64)), .op (some 113) none (.bin .eql (.t 112) (.k (AV.int .i64 1))), .op (some 114) none (.mv (.t 113)), .split 114, .op (some 115) (some (114, true)) (.mv (.t 5)), .op (some 116) (some (114, true)) (.bin .gtr (.t 115) (.k (AV.int .i64 0))), .op (some 117) none (.pick (.t 114) (.t 116) (.k (AV.bool false)))]) (.cond (.t 117) (.seq (.region [.op (some 2) none (.mv (.k (AV.str ([] : List UInt8)))), .op (some 3) none (.mv (.k (AV.int .i64 6)))]) (.ret [2, 3] [])) (.skip)))))) (.region [.op (some 118) none (.bin .add (.t 14) (.k (AV.int .i64 1))), .op (some 14) none (.mv (.t 118))])))
theorem ref18PrintPath_L1s_eq (R : Nat → List AV → Option Res) (N : Nat) (K : Ex → St → Option Res) (W : St → Option Res) (l2 : List AV) (s1 : List UInt8) (l3 : List AV) (i1 : Int) (i2 : Int) :
    evC gl R N ref18PrintPath_c0 (Kseq (fun st' => W (prune [0, 4, 12, 13, 14] [] st')) K) ⟨[(0, .imm (AV.row 3 l2)), (4, .imm (AV.str s1)), (12, .imm (AV.row 3 l3)), (13, .imm (AV.int .i64 i1)), (14, .imm (AV.int .i64 i2))], []⟩ =
    ref18PrintPath_L1s R N (fun (l2 : List AV) (s1 : List UInt8) (l3 : List AV) (i1 : Int) (i2 : Int) => W ⟨[(0, .imm (AV.row 3 l2)), (4, .imm (AV.str s1)), (12, .imm (AV.row 3 l3)), (13, .imm (AV.int .i64 i1)), (14, .imm (AV.int .i64 i2))], []⟩) (fun (s47 : List UInt8) (i5 : Int) => K .ret ⟨[(2, .imm (AV.str s47)), (3, .imm (AV.int .i64 i5))], []⟩) (fun (l4 : List AV) (s48 : List UInt8) => K (.exit 0) ⟨[(0, .imm (AV.row 3 l4)), (4, .imm (AV.str s48))], []⟩) l2 s1 l3 i1 i2 := by
  kernel_rfl
theorem ref18PrintPath_L1_eq (R : Nat → List AV → Option Res) (N : Nat) (K : Ex → St → Option Res) : ∀ (n : Nat) (l2 : List AV) (s1 : List UInt8) (l3 : List AV) (i1 : Int) (i2 : Int),
    rounds [0, 4, 12, 13, 14] [] (evC gl R N ref18PrintPath_c0) K n ⟨[(0, .imm (AV.row 3 l2)), (4, .imm (AV.str s1)), (12, .imm (AV.row 3 l3)), (13, .imm (AV.int .i64 i1)), (14, .imm (AV.int .i64 i2))], []⟩ = ref18PrintPath_L1 R N (fun (s47 : List UInt8) (i5 : Int) => K .ret ⟨[(2, .imm (AV.str s47)), (3, .imm (AV.int .i64 i5))], []⟩) (fun (l4 : List AV) (s48 : List UInt8) => K (.exit 0) ⟨[(0, .imm (AV.row 3 l4)), (4, .imm (AV.str s48))], []⟩) n l2 s1 l3 i1 i2
  | 0, _, _, _, _, _ => rfl
  | n + 1, l2, s1, l3, i1, i2 => (ref18PrintPath_L1s_eq R N K (rounds [0, 4, 12, 13, 14] [] (evC gl R N ref18PrintPath_c0) K n) l2 s1 l3 i1 i2).trans
      (congrArg (fun go => ref18PrintPath_L1s R N go (fun (s47 : List UInt8) (i5 : Int) => K .ret ⟨[(2, .imm (AV.str s47)), (3, .imm (AV.int .i64 i5))], []⟩) (fun (l4 : List AV) (s48 : List UInt8) => K (.exit 0) ⟨[(0, .imm (AV.row 3 l4)), (4, .imm (AV.str s48))], []⟩) l2 s1 l3 i1 i2) (funext fun l2 => funext fun s1 => funext fun l3 => funext fun i1 => funext fun i2 => ref18PrintPath_L1_eq R N K n l2 s1 l3 i1 i2))
def ref18PrintPath_L2s (R : Nat → List AV → Option Res) (N : Nat) (go : List AV → List UInt8 → List AV → Int → Int → Option Res) (k0 : List UInt8 → Int → Option Res) (k1 : List UInt8 → Option Res) (l8 : List AV) (s53 : List UInt8) (l9 : List AV) (i9 : Int) (i10 : Int) : Option Res :=
  bif decide ((i10 : Int) < i9) then
    (need (decide (0 ≤ (i10 : Int))) <|
    (l9[Int.toNat i10]?).bind fun e2 =>
    asISIA e2 fun i11 s54 i12 =>
    need (decide (0 ≤ (i10 : Int))) <|
    (l8[Int.toNat i10]?).bind fun e3 =>
    asISIA e3 fun i13 s55 i14 =>
    bif !(((i11 : Int) == i13) && ((s54 == s55) && (((i12 : Int) == i14) && (true)))) then
    (k0 ([] : List UInt8) 6)
    else
    go l8 s53 l9 i9 (IntKind.i64.wrap (i10 + 1)))
  else
    k1 s53
def ref18PrintPath_L2 (R : Nat → List AV → Option Res) (N : Nat) (k0 : List UInt8 → Int → Option Res) (k1 : List UInt8 → Option Res) : Nat → List AV → List UInt8 → List AV → Int → Int → Option Res
  | 0, _, _, _, _, _ => none
  | n + 1, l8, s53, l9, i9, i10 => ref18PrintPath_L2s R N (ref18PrintPath_L2 R N k0 k1 n) k0 k1 l8 s53 l9 i9 i10
def ref18PrintPath_c1 : AC := .seq (.region [.op (some 136) none (.bin .lss (.t 135) (.t 134))]) (.seq (.cond (.t 136) (.skip) (.exit 3 [4] [])) (.seq (.block 4 (.seq (.region [.op (some 137) none (.mv (.t 135)), .op (some 11) none (.mv (.t 137))]) (.seq (.regionD [0, 4, 9, 134, 135, 146] [] [.op (some 138) none (.mv (.t 9)), .op (some 139) none (.mv (.t 11)), .op (some 140) none (.iaddr (.t 138) (.t 139) 3 (.agg [.int .i64, .str, .int .i64])), .op (some 141) none (.load (.t 140) (some 3) (.agg [.int .i64, .str, .int .i64])), .op (some 142) none (.mv (.t 0)), .op (some 143) none (.mv (.t 11)), .op (some 144) none (.iaddr (.t 142) (.t 143) 3 (.agg [.int .i64, .str, .int .i64])), .op (some 145) none (.load (.t 144) (some 3) (.agg [.int .i64, .str, .int .i64])), .op (some 146) none (.binA true (.t 141) (.t 145) [0, 2, 0])] []) (.cond (.t 146) (.seq (.region [.op (some 2) none (.mv (.k (AV.str ([] : List UInt8)))), .op (some 3) none (.mv (.k (AV.int .i64 6)))]) (.ret [2, 3] [])) (.skip))))) (.region [.op (some 147) none (.bin .add (.t 135) (.k (AV.int .i64 1))), .op (some 135) none (.mv (.t 147))])))
theorem ref18PrintPath_L2s_eq (R : Nat → List AV → Option Res) (N : Nat) (K : Ex → St → Option Res) (W : St → Option Res) (l8 : List AV) (s53 : List UInt8) (l9 : List AV) (i9 : Int) (i10 : Int) :
    evC gl R N ref18PrintPath_c1 (Kseq (fun st' => W (prune [0, 4, 9, 134, 135] [] st')) K) ⟨[(0, .imm (AV.row 3 l8)), (4, .imm (AV.str s53)), (9, .imm (AV.row 3 l9)), (134, .imm (AV.int .i64 i9)), (135, .imm (AV.int .i64 i10))], []⟩ =
    ref18PrintPath_L2s R N (fun (l8 : List AV) (s53 : List UInt8) (l9 : List AV) (i9 : Int) (i10 : Int) => W ⟨[(0, .imm (AV.row 3 l8)), (4, .imm (AV.str s53)), (9, .imm (AV.row 3 l9)), (134, .imm (AV.int .i64 i9)), (135, .imm (AV.int .i64 i10))], []⟩) (fun (s56 : List UInt8) (i15 : Int) => K .ret ⟨[(2, .imm (AV.str s56)), (3, .imm (AV.int .i64 i15))], []⟩) (fun (s57 : List UInt8) => K (.exit 3) ⟨[(4, .imm (AV.str s57))], []⟩) l8 s53 l9 i9 i10 := by
  kernel_rfl
theorem ref18PrintPath_L2_eq (R : Nat → List AV → Option Res) (N : Nat) (K : Ex → St → Option Res) : ∀ (n : Nat) (l8 : List AV) (s53 : List UInt8) (l9 : List AV) (i9 : Int) (i10 : Int),
    rounds [0, 4, 9, 134, 135] [] (evC gl R N ref18PrintPath_c1) K n ⟨[(0, .imm (AV.row 3 l8)), (4, .imm (AV.str s53)), (9, .imm (AV.row 3 l9)), (134, .imm (AV.int .i64 i9)), (135, .imm (AV.int .i64 i10))], []⟩ = ref18PrintPath_L2 R N (fun (s56 : List UInt8) (i15 : Int) => K .ret ⟨[(2, .imm (AV.str s56)), (3, .imm (AV.int .i64 i15))], []⟩) (fun (s57 : List UInt8) => K (.exit 3) ⟨[(4, .imm (AV.str s57))], []⟩) n l8 s53 l9 i9 i10
  | 0, _, _, _, _, _ => rfl
  | n + 1, l8, s53, l9, i9, i10 => (ref18PrintPath_L2s_eq R N K (rounds [0, 4, 9, 134, 135] [] (evC gl R N ref18PrintPath_c1) K n) l8 s53 l9 i9 i10).trans
      (congrArg (fun go => ref18PrintPath_L2s R N go (fun (s56 : List UInt8) (i15 : Int) => K .ret ⟨[(2, .imm (AV.str s56)), (3, .imm (AV.int .i64 i15))], []⟩) (fun (s57 : List UInt8) => K (.exit 3) ⟨[(4, .imm (AV.str s57))], []⟩) l8 s53 l9 i9 i10) (funext fun l8 => funext fun s53 => funext fun l9 => funext fun i9 => funext fun i10 => ref18PrintPath_L2_eq R N K n l8 s53 l9 i9 i10))
def ref18PrintPath_c2 : AC := .seq (.region [.op (some 148) none (.mv (.t 4)), .op (some 2) none (.mv (.t 148)), .op (some 3) none (.mv (.k (AV.int .i64 0)))]) (.ret [2, 3] [])
def ref18PrintPath_c3 : AC := .seq (.region [.op (some 120) none (.mv (.t 4)), .op (some 121) none (.call id_ref18ParsePath [.t 120] (.tup [.row 3, .int .i64])), .op (some 119) none (.mv (.t 121)), .op (some 122) none (.extract (.t 119) 0), .op (some 123) none (.extract (.t 119) 1), .op (some 9) none (.mv (.t 122)), .op (some 10) none (.mv (.t 123))]) (.seq (.seq (.region [.op (some 124) none (.mv (.t 10)), .op (some 125) none (.bin .neq (.t 124) (.k (AV.int .i64 0))), .op (some 126) none (.mv (.t 125)), .split 126, .op (some 127) (some (126, false)) (.mv (.t 9)), .op (some 128) (some (126, false)) (.len (.t 127) false), .op (some 129) (some (126, false)) (.mv (.t 0)), .op (some 130) (some (126, false)) (.len (.t 129) false), .op (some 131) (some (126, false)) (.bin .neq (.t 128) (.t 130)), .op (some 132) none (.pick (.t 126) (.k (AV.bool true)) (.t 131))]) (.cond (.t 132) (.seq (.region [.op (some 2) none (.mv (.k (AV.str ([] : List UInt8)))), .op (some 3) none (.mv (.k (AV.int .i64 6)))]) (.ret [2, 3] [])) (.skip))) (.seq (.seq (.region [.op (some 133) none (.mv (.t 0)), .op (some 134) none (.len (.t 133) false), .op (some 135) none (.mv (.k (AV.int .i64 0)))]) (.block 3 (.loop [0, 4, 9, 134, 135] [] (ref18PrintPath_c1)))) (ref18PrintPath_c2)))
def ref18PrintPath_c4 : AC := .seq (.region [.op (some 2) none (.mv (.k (AV.str ([] : List UInt8)))), .op (some 3) none (.mv (.k (AV.int .i64 0)))]) (.seq (.region [.op (some 4) none (.mv (.k (AV.str ([] : List UInt8))))]) (.seq (.seq (.region [.op (some 12) none (.mv (.t 0)), .op (some 13) none (.len (.t 12) false), .op (some 14) none (.mv (.k (AV.int .i64 0)))]) (.block 0 (.loop [0, 4, 12, 13, 14] [] (ref18PrintPath_c0)))) (ref18PrintPath_c3)))
def ref18PrintPath : AFunc := ⟨1, 149, [.tmp 2, .tmp 3], ref18PrintPath_c4⟩
def ref18PrintPathr (R : Nat → List AV → Option Res) (N : Nat) (l1 : List AV) : Option Res :=
  ref18PrintPath_L1 R N
    (fun s51 i7 =>
    some ⟨AV.tup [AV.str s51, AV.int .i64 i7], false, []⟩)
    (fun l6 s52 =>
    (R id_ref18ParsePath [AV.str s52]).bind fun r63 =>
    asRIT r63.v fun l7 i8 =>
    bif (i8 : Int) != 0 then
    (some ⟨AV.tup [AV.str ([] : List UInt8), AV.int .i64 6], false, []⟩)
    else
    bif (((l7.length : Nat) : Int) : Int) != ((l6.length : Nat) : Int) then
    (some ⟨AV.tup [AV.str ([] : List UInt8), AV.int .i64 6], false, []⟩)
    else
    ref18PrintPath_L2 R N
      (fun s60 i17 =>
    some ⟨AV.tup [AV.str s60, AV.int .i64 i17], false, []⟩)
      (fun s61 =>
    some ⟨AV.tup [AV.str s61, AV.int .i64 0], false, []⟩)
      N l6 s52 l7 ((l6.length : Nat) : Int) 0)
    N l1 ([] : List UInt8) l1 ((l1.length : Nat) : Int) 0
theorem ref18PrintPath_eq (R : Nat → List AV → Option Res) (N : Nat) (l1 : List AV) : runF gl R N ref18PrintPath [AV.row 3 l1] = ref18PrintPathr R N l1 := by
  refine Eq.trans (b :=
    rounds [0, 4, 12, 13, 14] [] (evC gl R N ref18PrintPath_c0) (Kblock 0 (Kthen gl R N ref18PrintPath_c3 (Kret ref18PrintPath.rets []))) N ⟨[(0, .imm (AV.row 3 l1)), (4, .imm (AV.str ([] : List UInt8))), (12, .imm (AV.row 3 l1)), (13, .imm (AV.int .i64 ((l1.length : Nat) : Int))), (14, .imm (AV.int .i64 0))], []⟩) (by kernel_rfl) ?_
  simp (config := { maxSteps := 100000000 }) only [ref18PrintPath_L1_eq, ref18PrintPath_L2_eq]
  refine Eq.trans (b :=
    ref18PrintPath_L1 R N
      (fun s51 i7 =>
    some ⟨AV.tup [AV.str s51, AV.int .i64 i7], false, []⟩)
      (fun l6 s52 =>
    (R id_ref18ParsePath [AV.str s52]).bind fun r63 =>
    asRIT r63.v fun l7 i8 =>
    bif (i8 : Int) != 0 then
    (some ⟨AV.tup [AV.str ([] : List UInt8), AV.int .i64 6], false, []⟩)
    else
    bif (((l7.length : Nat) : Int) : Int) != ((l6.length : Nat) : Int) then
    (some ⟨AV.tup [AV.str ([] : List UInt8), AV.int .i64 6], false, []⟩)
    else
    rounds [0, 4, 9, 134, 135] [] (evC gl R N ref18PrintPath_c1) (Kblock 3 (Kthen gl R N ref18PrintPath_c2 (Kret ref18PrintPath.rets []))) N ⟨[(0, .imm (AV.row 3 l6)), (4, .imm (AV.str s52)), (9, .imm (AV.row 3 l7)), (134, .imm (AV.int .i64 ((l6.length : Nat) : Int))), (135, .imm (AV.int .i64 0))], []⟩)
      N l1 ([] : List UInt8) l1 ((l1.length : Nat) : Int) 0) (by kernel_rfl) ?_
  simp (config := { maxSteps := 100000000 }) only [ref18PrintPath_L1_eq, ref18PrintPath_L2_eq]
  kernel_rfl
theorem ref18PrintPath_fit : fitF Tryd.prog ref18PrintPath Tryd.f11 = true := by
  kernel_rfl

def law20Wakes_c0 : AC := .seq (.region [.op (some 0) none (.mv (.k (AV.bool false)))]) (.seq (.region [.op (some 4) none (.call id_pathParse [.k (AV.str ([64, 49, 46, 97, 91, 50, 93, 46, 46] : List UInt8))] (.tup [.row 3, .int .i64])), .op (some 3) none (.mv (.t 4)), .op (some 5) none (.extract (.t 3) 0), .op (some 6) none (.extract (.t 3) 1), .op (some 1) none (.mv (.t 5)), .op (some 2) none (.mv (.t 6))]) (.seq (.region [.op (some 7) none (.mv (.t 2)), .op (some 8) none (.bin .eql (.t 7) (.k (AV.int .i64 0))), .op (some 9) none (.mv (.t 8)), .split 9, .op (some 10) (some (9, true)) (.mv (.t 1)), .op (some 11) (some (9, true)) (.len (.t 10) false), .op (some 12) (some (9, true)) (.bin .eql (.t 11) (.k (AV.int .i64 4))), .op (some 13) none (.pick (.t 9) (.t 12) (.k (AV.bool false))), .op (some 14) none (.mv (.t 13)), .split 14, .op (some 15) (some (14, true)) (.mv (.t 1)), .op (some 16) (some (14, true)) (.iaddr (.t 15) (.k (AV.int .i64 0)) 3 (.agg [.int .i64, .str, .int .i64])), .op (some 17) (some (14, true)) (.faddr (.t 16) 2), .op (some 18) (some (14, true)) (.load (.t 17) none (.int .i64)), .op (some 19) (some (14, true)) (.bin .eql (.t 18) (.k (AV.int .i64 1))), .op (some 20) none (.pick (.t 14) (.t 19) (.k (AV.bool false))), .op (some 21) none (.mv (.t 20)), .split 21, .op (some 22) (some (21, true)) (.mv (.t 1)), .op (some 23) (some (21, true)) (.iaddr (.t 22) (.k (AV.int .i64 1)) 3 (.agg [.int .i64, .str, .int .i64])), .op (some 24) (some (21, true)) (.faddr (.t 23) 1), .op (some 25) (some (21, true)) (.load (.t 24) none (.str)), .op (some 26) (some (21, true)) (.bin .eql (.t 25) (.k (AV.str ([97] : List UInt8)))), .op (some 27) none (.pick (.t 21) (.t 26) (.k (AV.bool false))), .op (some 28) none (.mv (.t 27)), .split 28, .op (some 29) (some (28, true)) (.mv (.t 1)), .op (some 30) (some (28, true)) (.iaddr (.t 29) (.k (AV.int .i64 2)) 3 (.agg [.int .i64, .str, .int .i64])), .op (some 31) (some (28, true)) (.faddr (.t 30) 2), .op (some 32) (some (28, true)) (.load (.t 31) none (.int .i64)), .op (some 33) (some (28, true)) (.bin .eql (.t 32) (.k (AV.int .i64 2))), .op (some 34) none (.pick (.t 28) (.t 33) (.k (AV.bool false))), .op (some 35) none (.mv (.t 34)), .split 35, .op (some 36) (some (35, true)) (.mv (.t 1)), .op (some 37) (some (35, true)) (.iaddr (.t 36) (.k (AV.int .i64 3)) 3 (.agg [.int .i64, .str, .int .i64])), .op (some 38) (some (35, true)) (.faddr (.t 37) 0), .op (some 39) (some (35, true)) (.load (.t 38) none (.int .i64)), .op (some 40) (some (35, true)) (.bin .eql (.t 39) (.k (AV.int .i64 5))), .op (some 41) none (.pick (.t 35) (.t 40) (.k (AV.bool false))), .op (some 0) none (.mv (.t 41))]) (.ret [0] [])))
def law20Wakes : AFunc := ⟨0, 42, [.tmp 0], law20Wakes_c0⟩
def law20Wakesr (R : Nat → List AV → Option Res) (N : Nat) : Option Res :=
  (R id_pathParse [AV.str ([64, 49, 46, 97, 91, 50, 93, 46, 46] : List UInt8)]).bind fun r1 =>
  asRIT r1.v fun l1 i1 =>
  bif (i1 : Int) == 0 then
    (bif (((l1.length : Nat) : Int) : Int) == 4 then
    (need (decide (0 ≤ (0 : Int))) <|
    (l1[Int.toNat 0]?).bind fun e1 =>
    asISIA e1 fun i2 s1 i3 =>
    bif (i3 : Int) == 1 then
    (need (decide (0 ≤ (1 : Int))) <|
    (l1[Int.toNat 1]?).bind fun e2 =>
    asISIA e2 fun i4 s2 i5 =>
    bif s2 == ([97] : List UInt8) then
    (need (decide (0 ≤ (2 : Int))) <|
    (l1[Int.toNat 2]?).bind fun e3 =>
    asISIA e3 fun i6 s3 i7 =>
    bif (i7 : Int) == 2 then
    (need (decide (0 ≤ (3 : Int))) <|
    (l1[Int.toNat 3]?).bind fun e4 =>
    asISIA e4 fun i8 s4 i9 =>
    some ⟨AV.bool ((i8 : Int) == 5), false, []⟩)
    else
    some ⟨AV.bool false, false, []⟩)
    else
    some ⟨AV.bool false, false, []⟩)
    else
    some ⟨AV.bool false, false, []⟩)
    else
    some ⟨AV.bool false, false, []⟩)
  else
    some ⟨AV.bool false, false, []⟩
theorem law20Wakes_eq (R : Nat → List AV → Option Res) (N : Nat) : runF gl R N law20Wakes [] = law20Wakesr R N := by
  kernel_rfl
theorem law20Wakes_fit : fitF Tryd.prog law20Wakes Tryd.f12 = true := by
  kernel_rfl

def law20PathPrints_L1s (R : Nat → List AV → Option Res) (N : Nat) (go : List AV → Int → Int → List AV → Option Res) (k0 : List AV → List AV → Option Res) (l3 : List AV) (i1 : Int) (i2 : Int) (l4 : List AV) : Option Res :=
  bif decide ((i2 : Int) < i1) then
    (need (decide (0 ≤ (i2 : Int))) <|
    (l3[Int.toNat i2]?).bind fun e1 =>
    asISIA e1 fun i3 s1 i4 =>
    need (decide (((l4.drop 0).take l4.length).length + [AV.agg [AV.int .i64 i3, AV.str s1, AV.int .i64 i4]].length ≤ 1099511627776)) <|
    go l3 i1 (IntKind.i64.wrap (i2 + 1)) (((l4.drop 0).take l4.length) ++ [AV.agg [AV.int .i64 i3, AV.str s1, AV.int .i64 i4]]))
  else
    k0 l3 l4
def law20PathPrints_L1 (R : Nat → List AV → Option Res) (N : Nat) (k0 : List AV → List AV → Option Res) : Nat → List AV → Int → Int → List AV → Option Res
  | 0, _, _, _, _ => none
  | n + 1, l3, i1, i2, l4 => law20PathPrints_L1s R N (law20PathPrints_L1 R N k0 n) k0 l3 i1 i2 l4
def law20PathPrints_c0 : AC := .seq (.region [.op (some 18) none (.bin .lss (.t 17) (.t 16))]) (.seq (.cond (.t 18) (.skip) (.exit 0 [5, 6] [6])) (.seq (.block 1 (.seq (.region [.op (some 19) none (.mv (.t 17)), .op (some 7) none (.mv (.t 19))]) (.region [.op (some 20) none (.mv (.t 6)), .op (some 21) none (.mv (.t 5)), .op (some 22) none (.mv (.t 7)), .op (some 23) none (.iaddr (.t 21) (.t 22) 3 (.agg [.int .i64, .str, .int .i64])), .op (some 24) none (.load (.t 23) (some 3) (.agg [.int .i64, .str, .int .i64])), .op (some 25) none (.bslice [.t 24] 3 false), .op (some 26) none (.app 6 (.t 20) (.t 25) 3 .any false), .op (some 6) none (.mv (.t 26))]))) (.region [.op (some 27) none (.bin .add (.t 17) (.k (AV.int .i64 1))), .op (some 17) none (.mv (.t 27))])))
theorem law20PathPrints_L1s_eq (R : Nat → List AV → Option Res) (N : Nat) (K : Ex → St → Option Res) (W : St → Option Res) (l3 : List AV) (i1 : Int) (i2 : Int) (l4 : List AV) :
    evC gl R N law20PathPrints_c0 (Kseq (fun st' => W (prune [5, 6, 16, 17] [6] st')) K) ⟨[(5, .imm (AV.row 3 l3)), (6, .own 6 0 l4.length none), (16, .imm (AV.int .i64 i1)), (17, .imm (AV.int .i64 i2))], [(6, .row 3 l4 false)]⟩ =
    law20PathPrints_L1s R N (fun (l3 : List AV) (i1 : Int) (i2 : Int) (l4 : List AV) => W ⟨[(5, .imm (AV.row 3 l3)), (6, .own 6 0 l4.length none), (16, .imm (AV.int .i64 i1)), (17, .imm (AV.int .i64 i2))], [(6, .row 3 l4 false)]⟩) (fun (l5 : List AV) (l6 : List AV) => K (.exit 0) ⟨[(5, .imm (AV.row 3 l5)), (6, .own 6 0 l6.length none)], [(6, .row 3 l6 false)]⟩) l3 i1 i2 l4 := by
  kernel_rfl
theorem law20PathPrints_L1_eq (R : Nat → List AV → Option Res) (N : Nat) (K : Ex → St → Option Res) : ∀ (n : Nat) (l3 : List AV) (i1 : Int) (i2 : Int) (l4 : List AV),
    rounds [5, 6, 16, 17] [6] (evC gl R N law20PathPrints_c0) K n ⟨[(5, .imm (AV.row 3 l3)), (6, .own 6 0 l4.length none), (16, .imm (AV.int .i64 i1)), (17, .imm (AV.int .i64 i2))], [(6, .row 3 l4 false)]⟩ = law20PathPrints_L1 R N (fun (l5 : List AV) (l6 : List AV) => K (.exit 0) ⟨[(5, .imm (AV.row 3 l5)), (6, .own 6 0 l6.length none)], [(6, .row 3 l6 false)]⟩) n l3 i1 i2 l4
  | 0, _, _, _, _ => rfl
  | n + 1, l3, i1, i2, l4 => (law20PathPrints_L1s_eq R N K (rounds [5, 6, 16, 17] [6] (evC gl R N law20PathPrints_c0) K n) l3 i1 i2 l4).trans
      (congrArg (fun go => law20PathPrints_L1s R N go (fun (l5 : List AV) (l6 : List AV) => K (.exit 0) ⟨[(5, .imm (AV.row 3 l5)), (6, .own 6 0 l6.length none)], [(6, .row 3 l6 false)]⟩) l3 i1 i2 l4) (funext fun l3 => funext fun i1 => funext fun i2 => funext fun l4 => law20PathPrints_L1_eq R N K n l3 i1 i2 l4))
def law20PathPrints_c1 : AC := .seq (.region [.op (some 29) none (.mv (.t 5)), .op (some 30) none (.call id_pathPrint [.t 29] (.tup [.str, .int .i64])), .op (some 28) none (.mv (.t 30)), .op (some 31) none (.extract (.t 28) 0), .op (some 32) none (.extract (.t 28) 1), .op (some 8) none (.mv (.t 31)), .op (some 9) none (.mv (.t 32))]) (.seq (.region [.op (some 34) none (.mv (.t 6)), .op (some 35) none (.call id_ref18PrintPath [.t 34] (.tup [.str, .int .i64])), .op (some 33) none (.mv (.t 35)), .op (some 36) none (.extract (.t 33) 0), .op (some 37) none (.extract (.t 33) 1), .op (some 10) none (.mv (.t 36)), .op (some 11) none (.mv (.t 37))]) (.seq (.region [.op (some 38) none (.mv (.t 8)), .op (some 39) none (.mv (.t 10)), .op (some 40) none (.bin .eql (.t 38) (.t 39)), .op (some 41) none (.mv (.t 40)), .split 41, .op (some 42) (some (41, true)) (.mv (.t 9)), .op (some 43) (some (41, true)) (.mv (.t 11)), .op (some 44) (some (41, true)) (.bin .eql (.t 42) (.t 43)), .op (some 45) none (.pick (.t 41) (.t 44) (.k (AV.bool false))), .op (some 46) none (.mv (.t 45)), .split 46, .op (some 47) (some (46, true)) (.call id_law20Wakes [] (.bool)), .op (some 48) none (.pick (.t 46) (.t 47) (.k (AV.bool false))), .op (some 4) none (.mv (.t 48))]) (.ret [4] [])))
def law20PathPrints_c2 : AC := .seq (.region [.op (some 4) none (.mv (.k (AV.bool false)))]) (.seq (.region [.op (some 12) none (.mv (.t 0)), .op (some 13) none (.mv (.t 1)), .op (some 14) none (.call id_law20Steps [.t 12, .t 13] (.row 3)), .op (some 5) none (.mv (.t 14))]) (.seq (.region [.op (some 6) none (.nilOwn 6 (some (3, .any)))]) (.seq (.seq (.region [.op (some 15) none (.mv (.t 5)), .op (some 16) none (.len (.t 15) false), .op (some 17) none (.mv (.k (AV.int .i64 0)))]) (.block 0 (.loop [5, 6, 16, 17] [6] (law20PathPrints_c0)))) (law20PathPrints_c1))))
def law20PathPrints : AFunc := ⟨2, 49, [.tmp 4], law20PathPrints_c2⟩
def law20PathPrintsr (R : Nat → List AV → Option Res) (N : Nat) (l1 : List AV) (b1 : Bool) : Option Res :=
  (R id_law20Steps [AV.row 3 l1, AV.bool b1]).bind fun r1 =>
  asR 3 r1.v fun l2 =>
  law20PathPrints_L1 R N
    (fun l9 l10 =>
    (R id_pathPrint [AV.row 3 l9]).bind fun r2 =>
    asSIT r2.v fun s2 i5 =>
    (R id_ref18PrintPath [AV.row 3 ((l10.drop 0).take l10.length)]).bind fun r3 =>
    asSIT r3.v fun s3 i6 =>
    bif s2 == s3 then
    (bif (i5 : Int) == i6 then
    ((R id_law20Wakes []).bind fun r4 =>
    asB r4.v fun b2 =>
    some ⟨AV.bool b2, false, []⟩)
    else
    some ⟨AV.bool false, false, []⟩)
    else
    some ⟨AV.bool false, false, []⟩)
    N l2 ((l2.length : Nat) : Int) 0 []
theorem law20PathPrints_eq (R : Nat → List AV → Option Res) (N : Nat) (l1 : List AV) (b1 : Bool) : runF gl R N law20PathPrints [AV.row 3 l1, AV.bool b1] = law20PathPrintsr R N l1 b1 := by
  refine Eq.trans (b :=
    (R id_law20Steps [AV.row 3 l1, AV.bool b1]).bind fun r1 =>
    asR 3 r1.v fun l2 =>
    rounds [5, 6, 16, 17] [6] (evC gl R N law20PathPrints_c0) (Kblock 0 (Kthen gl R N law20PathPrints_c1 (Kret law20PathPrints.rets []))) N ⟨[(5, .imm (AV.row 3 l2)), (6, .own 6 0 (([] : List AV).length) none), (16, .imm (AV.int .i64 ((l2.length : Nat) : Int))), (17, .imm (AV.int .i64 0))], [(6, .row 3 [] false)]⟩) (by kernel_rfl) ?_
  simp (config := { maxSteps := 100000000 }) only [law20PathPrints_L1_eq]
  kernel_rfl
theorem law20PathPrints_fit : fitF Tryd.prog law20PathPrints Tryd.f3 = true := by
  kernel_rfl

def law20Text_L1s (R : Nat → List AV → Option Res) (N : Nat) (go : List AV → List AV → List UInt8 → Int → Option Res) (k0 : List UInt8 → Option Res) (l2 : List AV) (l3 : List AV) (s3 : List UInt8) (i1 : Int) : Option Res :=
  bif decide ((i1 : Int) < ((l2.length : Nat) : Int)) then
    (bif decide ((i1 : Int) < 40) then
    (need (decide (0 ≤ (i1 : Int))) <|
    (l2[Int.toNat i1]?).bind fun e1 =>
    asI .i64 e1 fun i2 =>
    (R id_keepWithin [AV.int .i64 i2, AV.int .i64 60]).bind fun r2 =>
    asI .i64 r2.v fun i3 =>
    bif decide ((i3 : Int) ≥ ((l3.length : Nat) : Int)) then
    (need (!decide (10 = 0)) <|
    need (decide (0 ≤ (Int.tmod i3 10 : Int))) <|
    (l3[Int.toNat (Int.tmod i3 10)]?).bind fun e2 =>
    asS e2 fun s4 =>
    need (decide (s3.length + s4.length ≤ 9223372036854775807)) <|
    go l2 l3 (s3 ++ s4) (IntKind.i64.wrap (i1 + 1)))
    else
    need (decide (0 ≤ (i3 : Int))) <|
    (l3[Int.toNat i3]?).bind fun e3 =>
    asS e3 fun s5 =>
    need (decide (s3.length + s5.length ≤ 9223372036854775807)) <|
    go l2 l3 (s3 ++ s5) (IntKind.i64.wrap (i1 + 1)))
    else
    k0 s3)
  else
    k0 s3
def law20Text_L1 (R : Nat → List AV → Option Res) (N : Nat) (k0 : List UInt8 → Option Res) : Nat → List AV → List AV → List UInt8 → Int → Option Res
  | 0, _, _, _, _ => none
  | n + 1, l2, l3, s3, i1 => law20Text_L1s R N (law20Text_L1 R N k0 n) k0 l2 l3 s3 i1
def law20Text_c0 : AC := .seq (.seq (.region [.op (some 15) none (.mv (.t 9)), .op (some 16) none (.mv (.t 1)), .op (some 17) none (.len (.t 16) false), .op (some 18) none (.bin .lss (.t 15) (.t 17)), .op (some 19) none (.mv (.t 18)), .split 19, .op (some 20) (some (19, true)) (.mv (.t 9)), .op (some 21) (some (19, true)) (.bin .lss (.t 20) (.k (AV.int .i64 40))), .op (some 22) none (.pick (.t 19) (.t 21) (.k (AV.bool false)))]) (.cond (.t 22) (.skip) (.exit 0 [8] []))) (.seq (.block 1 (.seq (.region [.op (some 25) none (.mv (.t 1)), .op (some 26) none (.mv (.t 9)), .op (some 27) none (.iaddr (.t 25) (.t 26) 1 (.int .i64)), .op (some 28) none (.load (.t 27) none (.int .i64)), .op (some 29) none (.call id_keepWithin [.t 28, .k (AV.int .i64 60)] (.int .i64)), .op (some 10) none (.mv (.t 29))]) (.seq (.seq (.region [.op (some 30) none (.mv (.t 10)), .op (some 31) none (.mv (.t 7)), .op (some 32) none (.len (.t 31) false), .op (some 33) none (.bin .geq (.t 30) (.t 32))]) (.cond (.t 33) (.region [.op (some 34) none (.mv (.t 10)), .op (some 35) none (.bin .rem (.t 34) (.k (AV.int .i64 10))), .op (some 10) none (.mv (.t 35))]) (.skip))) (.region [.op (some 36) none (.mv (.t 8)), .op (some 37) none (.mv (.t 7)), .op (some 38) none (.mv (.t 10)), .op (some 39) none (.iaddr (.t 37) (.t 38) 1 (.str)), .op (some 40) none (.load (.t 39) none (.str)), .op (some 41) none (.bin .add (.t 36) (.t 40)), .op (some 8) none (.mv (.t 41))])))) (.region [.op (some 23) none (.mv (.t 9)), .op (some 24) none (.bin .add (.t 23) (.k (AV.int .i64 1))), .op (some 9) none (.mv (.t 24))]))
theorem law20Text_L1s_eq (R : Nat → List AV → Option Res) (N : Nat) (K : Ex → St → Option Res) (W : St → Option Res) (l2 : List AV) (l3 : List AV) (s3 : List UInt8) (i1 : Int) :
    evC gl R N law20Text_c0 (Kseq (fun st' => W (prune [1, 7, 8, 9] [] st')) K) ⟨[(1, .imm (AV.row 1 l2)), (7, .imm (AV.row 1 l3)), (8, .imm (AV.str s3)), (9, .imm (AV.int .i64 i1))], []⟩ =
    law20Text_L1s R N (fun (l2 : List AV) (l3 : List AV) (s3 : List UInt8) (i1 : Int) => W ⟨[(1, .imm (AV.row 1 l2)), (7, .imm (AV.row 1 l3)), (8, .imm (AV.str s3)), (9, .imm (AV.int .i64 i1))], []⟩) (fun (s6 : List UInt8) => K (.exit 0) ⟨[(8, .imm (AV.str s6))], []⟩) l2 l3 s3 i1 := by
  kernel_rfl
theorem law20Text_L1_eq (R : Nat → List AV → Option Res) (N : Nat) (K : Ex → St → Option Res) : ∀ (n : Nat) (l2 : List AV) (l3 : List AV) (s3 : List UInt8) (i1 : Int),
    rounds [1, 7, 8, 9] [] (evC gl R N law20Text_c0) K n ⟨[(1, .imm (AV.row 1 l2)), (7, .imm (AV.row 1 l3)), (8, .imm (AV.str s3)), (9, .imm (AV.int .i64 i1))], []⟩ = law20Text_L1 R N (fun (s6 : List UInt8) => K (.exit 0) ⟨[(8, .imm (AV.str s6))], []⟩) n l2 l3 s3 i1
  | 0, _, _, _, _ => rfl
  | n + 1, l2, l3, s3, i1 => (law20Text_L1s_eq R N K (rounds [1, 7, 8, 9] [] (evC gl R N law20Text_c0) K n) l2 l3 s3 i1).trans
      (congrArg (fun go => law20Text_L1s R N go (fun (s6 : List UInt8) => K (.exit 0) ⟨[(8, .imm (AV.str s6))], []⟩) l2 l3 s3 i1) (funext fun l2 => funext fun l3 => funext fun s3 => funext fun i1 => law20Text_L1_eq R N K n l2 l3 s3 i1))
def law20Text_c1 : AC := .seq (.region [.op (some 42) none (.mv (.t 8)), .op (some 6) none (.mv (.t 42))]) (.ret [6] [])
def law20Text_c2 : AC := .seq (.region [.op (some 6) none (.mv (.k (AV.str ([] : List UInt8))))]) (.seq (.seq (.region [.op (some 11) none (.mv (.t 2))]) (.cond (.t 11) (.seq (.region [.op (some 12) none (.mv (.t 0)), .op (some 13) none (.call id_keepText [.t 12, .k (AV.int .i64 60)] (.str)), .op (some 6) none (.mv (.t 13))]) (.ret [6] [])) (.skip))) (.seq (.region [.op (some 14) none (.bslice [.k (AV.str ([46, 97] : List UInt8)), .k (AV.str ([46, 98] : List UInt8)), .k (AV.str ([91, 48, 93] : List UInt8)), .k (AV.str ([91, 49, 93] : List UInt8)), .k (AV.str ([46, 42] : List UInt8)), .k (AV.str ([46, 46] : List UInt8)), .k (AV.str ([46, 34, 120, 32, 121, 34] : List UInt8)), .k (AV.str ([46, 34, 97, 92, 110, 34] : List UInt8)), .k (AV.str ([46, 99, 45, 100, 95, 49] : List UInt8)), .k (AV.str ([91, 49, 50, 93] : List UInt8)), .k (AV.str ([64] : List UInt8)), .k (AV.str ([64, 42] : List UInt8)), .k (AV.str ([64, 48] : List UInt8)), .k (AV.str ([64, 49] : List UInt8)), .k (AV.str ([46] : List UInt8)), .k (AV.str ([91] : List UInt8)), .k (AV.str ([93] : List UInt8)), .k (AV.str ([91, 48, 49, 93] : List UInt8)), .k (AV.str ([91, 45, 49, 93] : List UInt8)), .k (AV.str ([42] : List UInt8)), .k (AV.str ([97] : List UInt8)), .k (AV.str ([34] : List UInt8)), .k (AV.str ([91, 57, 57, 57, 57, 57, 57, 57, 93] : List UInt8))] 1 false), .op (some 7) none (.mv (.t 14))]) (.seq (.region [.op (some 8) none (.mv (.k (AV.str ([] : List UInt8))))]) (.seq (.seq (.region [.op (some 9) none (.mv (.k (AV.int .i64 0)))]) (.block 0 (.loop [1, 7, 8, 9] [] (law20Text_c0)))) (law20Text_c1)))))
def law20Text : AFunc := ⟨3, 43, [.tmp 6], law20Text_c2⟩
def law20Textr (R : Nat → List AV → Option Res) (N : Nat) (s1 : List UInt8) (l1 : List AV) (b1 : Bool) : Option Res :=
  bif b1 then
    ((R id_keepText [AV.str s1, AV.int .i64 60]).bind fun r1 =>
    asS r1.v fun s2 =>
    some ⟨AV.str s2, false, []⟩)
  else
    law20Text_L1 R N
      (fun s8 =>
    some ⟨AV.str s8, false, []⟩)
      N l1 [AV.str ([46, 97] : List UInt8), AV.str ([46, 98] : List UInt8), AV.str ([91, 48, 93] : List UInt8), AV.str ([91, 49, 93] : List UInt8), AV.str ([46, 42] : List UInt8), AV.str ([46, 46] : List UInt8), AV.str ([46, 34, 120, 32, 121, 34] : List UInt8), AV.str ([46, 34, 97, 92, 110, 34] : List UInt8), AV.str ([46, 99, 45, 100, 95, 49] : List UInt8), AV.str ([91, 49, 50, 93] : List UInt8), AV.str ([64] : List UInt8), AV.str ([64, 42] : List UInt8), AV.str ([64, 48] : List UInt8), AV.str ([64, 49] : List UInt8), AV.str ([46] : List UInt8), AV.str ([91] : List UInt8), AV.str ([93] : List UInt8), AV.str ([91, 48, 49, 93] : List UInt8), AV.str ([91, 45, 49, 93] : List UInt8), AV.str ([42] : List UInt8), AV.str ([97] : List UInt8), AV.str ([34] : List UInt8), AV.str ([91, 57, 57, 57, 57, 57, 57, 57, 93] : List UInt8)] ([] : List UInt8) 0
theorem law20Text_eq (R : Nat → List AV → Option Res) (N : Nat) (s1 : List UInt8) (l1 : List AV) (b1 : Bool) : runF gl R N law20Text [AV.str s1, AV.row 1 l1, AV.bool b1] = law20Textr R N s1 l1 b1 := by
  refine Eq.trans (b :=
    bif b1 then
    ((R id_keepText [AV.str s1, AV.int .i64 60]).bind fun r1 =>
    asS r1.v fun s2 =>
    some ⟨AV.str s2, false, []⟩)
    else
    rounds [1, 7, 8, 9] [] (evC gl R N law20Text_c0) (Kblock 0 (Kthen gl R N law20Text_c1 (Kret law20Text.rets []))) N ⟨[(1, .imm (AV.row 1 l1)), (7, .imm (AV.row 1 [AV.str ([46, 97] : List UInt8), AV.str ([46, 98] : List UInt8), AV.str ([91, 48, 93] : List UInt8), AV.str ([91, 49, 93] : List UInt8), AV.str ([46, 42] : List UInt8), AV.str ([46, 46] : List UInt8), AV.str ([46, 34, 120, 32, 121, 34] : List UInt8), AV.str ([46, 34, 97, 92, 110, 34] : List UInt8), AV.str ([46, 99, 45, 100, 95, 49] : List UInt8), AV.str ([91, 49, 50, 93] : List UInt8), AV.str ([64] : List UInt8), AV.str ([64, 42] : List UInt8), AV.str ([64, 48] : List UInt8), AV.str ([64, 49] : List UInt8), AV.str ([46] : List UInt8), AV.str ([91] : List UInt8), AV.str ([93] : List UInt8), AV.str ([91, 48, 49, 93] : List UInt8), AV.str ([91, 45, 49, 93] : List UInt8), AV.str ([42] : List UInt8), AV.str ([97] : List UInt8), AV.str ([34] : List UInt8), AV.str ([91, 57, 57, 57, 57, 57, 57, 57, 93] : List UInt8)])), (8, .imm (AV.str ([] : List UInt8))), (9, .imm (AV.int .i64 0))], []⟩) (by kernel_rfl) ?_
  simp (config := { maxSteps := 100000000 }) only [law20Text_L1_eq]
  kernel_rfl
theorem law20Text_fit : fitF Tryd.prog law20Text Tryd.f15 = true := by
  kernel_rfl

def pathParse1_c0 : AC := .seq (.region [.op (some 1) none (.box 1001 (.t 0) 3), .op (some 2) none (.mv (.k (AV.bool false)))]) (.seq (.region [.op (some 3) none (.faddr (.t 1) 1), .op (some 4) none (.load (.t 3) none (.str)), .op (some 5) none (.len (.t 4) true), .op (some 6) none (.bin .gtr (.t 5) (.k (AV.int .i64 128))), .op (some 2) none (.mv (.t 6))]) (.ret [2] []))
def pathParse1 : AFunc := ⟨1, 7, [.tmp 2], pathParse1_c0⟩
def pathParse1r (R : Nat → List AV → Option Res) (N : Nat) (i1 : Int) (s1 : List UInt8) (i2 : Int) : Option Res :=
  some ⟨AV.bool (decide ((((s1.length : Nat) : Int) : Int) > 128)), false, []⟩
theorem pathParse1_eq (R : Nat → List AV → Option Res) (N : Nat) (i1 : Int) (s1 : List UInt8) (i2 : Int) : runF gl R N pathParse1 [AV.agg [AV.int .i64 i1, AV.str s1, AV.int .i64 i2]] = pathParse1r R N i1 s1 i2 := by
  kernel_rfl
theorem pathParse1_fit : fitF Tryd.prog pathParse1 Tryd.f28 = true := by
  kernel_rfl

def table : List (Nat × AFunc) := [(id_keepWithin, keepWithin), (id_keepText, keepText), (id_law20Steps, law20Steps), (id_internalStringsliteHasPrefix, internalStringsliteHasPrefix), (id_internalStringsliteCutPrefix, internalStringsliteCutPrefix), (id_stringsCutPrefix, stringsCutPrefix), (id_charsDigit, charsDigit), (id_pathNumber, pathNumber), (id_pathFirst, pathFirst), (id_doubleRunes, doubleRunes), (id_internalStringsliteIndexByte, internalStringsliteIndexByte), (id_stringsIndexByte, stringsIndexByte), (id_doubleDigits, doubleDigits), (id_doubleNumber, doubleNumber), (id_doubleEscape, doubleEscape), (id_unicodeUtf8AppendRuneNonASCII, unicodeUtf8AppendRuneNonASCII), (id_unicodeUtf8AppendRune, unicodeUtf8AppendRune), (id_doubleTake, doubleTake), (id_charsLetter, charsLetter), (id_charsName, charsName), (id_pathName, pathName), (id_pathStep, pathStep), (id_slicesIndexFuncScholiumPathStepScholiumPathStep, slicesIndexFuncScholiumPathStepScholiumPathStep), (id_slicesContainsFuncScholiumPathStepScholiumPathStep, slicesContainsFuncScholiumPathStepScholiumPathStep), (id_pathParse, pathParse), (id_unicodeUtf8WordString, unicodeUtf8WordString), (id_charsPrintable, charsPrintable), (id_doubleHex, doubleHex), (id_doubleOne, doubleOne), (id_pathText, pathText), (id_slicesEqualScholiumPathStepScholiumPathStep, slicesEqualScholiumPathStepScholiumPathStep), (id_pathPrint, pathPrint), (id_ref01Rune, ref01Rune), (id_ref01Escape, ref01Escape), (id_ref01Printable, ref01Printable), (id_ref01Hex, ref01Hex), (id_ref01PutDouble, ref01PutDouble), (id_ref01Letter, ref01Letter), (id_ref01Name, ref01Name), (id_ref18Number, ref18Number), (id_ref01Utf8, ref01Utf8), (id_ref01Digit, ref01Digit), (id_ref01TakeDouble, ref01TakeDouble), (id_ref18ParsePath, ref18ParsePath), (id_ref18Digits, ref18Digits), (id_ref18PrintPath, ref18PrintPath), (id_law20Wakes, law20Wakes), (id_law20PathPrints, law20PathPrints), (id_law20Text, law20Text), (id_pathParse1, pathParse1)]
theorem table_fits : Fits Tryd.prog table := ⟨⟨_, Tryd.func17, keepWithin_fit⟩, ⟨_, Tryd.func20, keepText_fit⟩, ⟨_, Tryd.func9, law20Steps_fit⟩, ⟨_, Tryd.func64, internalStringsliteHasPrefix_fit⟩, ⟨_, Tryd.func53, internalStringsliteCutPrefix_fit⟩, ⟨_, Tryd.func39, stringsCutPrefix_fit⟩, ⟨_, Tryd.func54, charsDigit_fit⟩, ⟨_, Tryd.func40, pathNumber_fit⟩, ⟨_, Tryd.func25, pathFirst_fit⟩, ⟨_, Tryd.func61, doubleRunes_fit⟩, ⟨_, Tryd.func81, internalStringsliteIndexByte_fit⟩, ⟨_, Tryd.func67, stringsIndexByte_fit⟩, ⟨_, Tryd.func68, doubleDigits_fit⟩, ⟨_, Tryd.func69, doubleNumber_fit⟩, ⟨_, Tryd.func56, doubleEscape_fit⟩, ⟨_, Tryd.func70, unicodeUtf8AppendRuneNonASCII_fit⟩, ⟨_, Tryd.func57, unicodeUtf8AppendRune_fit⟩, ⟨_, Tryd.func41, doubleTake_fit⟩, ⟨_, Tryd.func47, charsLetter_fit⟩, ⟨_, Tryd.func37, charsName_fit⟩, ⟨_, Tryd.func42, pathName_fit⟩, ⟨_, Tryd.func26, pathStep_fit⟩, ⟨_, Tryd.func43, slicesIndexFuncScholiumPathStepScholiumPathStep_fit⟩, ⟨_, Tryd.func27, slicesContainsFuncScholiumPathStepScholiumPathStep_fit⟩, ⟨_, Tryd.func13, pathParse_fit⟩, ⟨_, Tryd.func59, unicodeUtf8WordString_fit⟩, ⟨_, Tryd.func62, charsPrintable_fit⟩, ⟨_, Tryd.func63, doubleHex_fit⟩, ⟨_, Tryd.func51, doubleOne_fit⟩, ⟨_, Tryd.func21, pathText_fit⟩, ⟨_, Tryd.func22, slicesEqualScholiumPathStepScholiumPathStep_fit⟩, ⟨_, Tryd.func10, pathPrint_fit⟩, ⟨_, Tryd.func29, ref01Rune_fit⟩, ⟨_, Tryd.func30, ref01Escape_fit⟩, ⟨_, Tryd.func31, ref01Printable_fit⟩, ⟨_, Tryd.func32, ref01Hex_fit⟩, ⟨_, Tryd.func16, ref01PutDouble_fit⟩, ⟨_, Tryd.func35, ref01Letter_fit⟩, ⟨_, Tryd.func24, ref01Name_fit⟩, ⟨_, Tryd.func33, ref18Number_fit⟩, ⟨_, Tryd.func44, ref01Utf8_fit⟩, ⟨_, Tryd.func45, ref01Digit_fit⟩, ⟨_, Tryd.func34, ref01TakeDouble_fit⟩, ⟨_, Tryd.func18, ref18ParsePath_fit⟩, ⟨_, Tryd.func23, ref18Digits_fit⟩, ⟨_, Tryd.func11, ref18PrintPath_fit⟩, ⟨_, Tryd.func12, law20Wakes_fit⟩, ⟨_, Tryd.func3, law20PathPrints_fit⟩, ⟨_, Tryd.func15, law20Text_fit⟩, ⟨_, Tryd.func28, pathParse1_fit⟩, trivial⟩
theorem table_fit : ∀ f F, get table f = some F → ∃ fn, Tryd.prog.funcs[f]? = some fn ∧ fitF Tryd.prog F fn = true := table_fits.get
end Go.Proofs.YtlionohbndehgaaDoor.Vf
