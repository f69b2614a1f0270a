/- The code of the functions that the statements reach, as our evaluator takes it, and what each of them comes to, readably: printed by a program of ours. No condition. -/
import Derived.Test.YtlionohbndehgaaDoorVf3
import Derived.Test.YtlionohbndehgaaDoorChecked
import Derived.Lib.DecodeN
import Derived.Lib.ItoaNum
namespace Go.Proofs.YtlionohbndehgaaDoor.Vf
set_option linter.unusedVariables false
set_option linter.unusedSimpArgs false
set_option maxRecDepth 100000

def g_maxLen : Nat := 5
def g_pow10 : Nat := 2
def g_first : Nat := 0
def g_accept : Nat := 1
def gl : List (Nat × List AV) := [(g_first, (List.range 256).map fun c => AV.int .u8 (Lib.firstT c)), (g_accept, (List.range 32).map fun i => AV.int .u8 (bif Nat.beq (i % 2) 0 then Lib.accLo (i / 2) else Lib.accHi (i / 2))), (g_maxLen, []), (g_pow10, Lib.pow10Tab.map (AV.int .u64))]
def id_charsDigit : Nat := 54
def id_charsLetter : Nat := 47
def id_charsName : Nat := 37
def id_charsPrintable : Nat := 62
def id_doubleDigits : Nat := 68
def id_doubleEscape : Nat := 56
def id_doubleHex : Nat := 63
def id_doubleNumber : Nat := 69
def id_doubleOne : Nat := 51
def id_doublePut : Nat := 38
def id_doubleRunes : Nat := 61
def id_doubleTake : Nat := 41
def id_errorsNew : Nat := 89
def id_internalBytealgIndexByteString : Nat := 90
def id_internalStrconvAtoi : Nat := 65
def id_internalStrconvBool2Int : Nat := 84
def id_internalStrconvFormatBase10 : Nat := 73
def id_internalStrconvFormatBits : Nat := 74
def id_internalStrconvFormatInt : Nat := 58
def id_internalStrconvIsPowerOfTwo : Nat := 85
def id_internalStrconvItoa : Nat := 46
def id_internalStrconvLog10Pow2 : Nat := 82
def id_internalStrconvLower : Nat := 93
def id_internalStrconvNumDigits : Nat := 72
def id_internalStrconvParseInt : Nat := 76
def id_internalStrconvParseUint : Nat := 87
def id_internalStrconvSmall : Nat := 71
def id_internalStrconvUnderscoreOK : Nat := 94
def id_internalStringsliteClone : Nat := 88
def id_internalStringsliteCutPrefix : Nat := 53
def id_internalStringsliteHasPrefix : Nat := 64
def id_internalStringsliteIndexByte : Nat := 81
def id_keepSamePathStep : Nat := 14
def id_keepText : Nat := 20
def id_keepWithin : Nat := 17
def id_law20PathBack : Nat := 4
def id_law20Steps : Nat := 9
def id_law20Text : Nat := 15
def id_law20Wakes : Nat := 12
def id_mathBitsLen64 : Nat := 83
def id_mathBitsTrailingZeros : Nat := 86
def id_mathBitsTrailingZeros32 : Nat := 91
def id_mathBitsTrailingZeros64 : Nat := 92
def id_pathFirst : Nat := 25
def id_pathName : Nat := 42
def id_pathNumber : Nat := 40
def id_pathParse : Nat := 13
def id_pathParse1 : Nat := 28
def id_pathPrint : Nat := 10
def id_pathStep : Nat := 26
def id_pathText : Nat := 21
def id_ref01Digit : Nat := 45
def id_ref01Escape : Nat := 30
def id_ref01Hex : Nat := 32
def id_ref01Letter : Nat := 35
def id_ref01Name : Nat := 24
def id_ref01Printable : Nat := 31
def id_ref01PutDouble : Nat := 16
def id_ref01Rune : Nat := 29
def id_ref01Utf8 : Nat := 44
def id_slicesContainsFuncScholiumPathStepScholiumPathStep : Nat := 27
def id_slicesEqualScholiumPathStepScholiumPathStep : Nat := 22
def id_slicesIndexFuncScholiumPathStepScholiumPathStep : Nat := 43
def id_strconvAtoi : Nat := 55
def id_strconvBaseError : Nat := 79
def id_strconvBitSizeError : Nat := 80
def id_strconvItoa : Nat := 36
def id_strconvRangeError : Nat := 78
def id_strconvSyntaxError : Nat := 77
def id_strconvToError : Nat := 66
def id_stringsBuilderCopyCheckLow : Nat := 60
def id_stringsBuilderReset : Nat := 110
def id_stringsBuilderString : Nat := 52
def id_stringsBuilderWriteByte : Nat := 49
def id_stringsBuilderWriteString : Nat := 50
def id_stringsCutPrefix : Nat := 39
def id_stringsIndexByte : Nat := 67
def id_unicodeUtf8AppendRune : Nat := 57
def id_unicodeUtf8AppendRuneNonASCII : Nat := 70
def id_unicodeUtf8ValidString : Nat := 48
def id_unicodeUtf8WordString : Nat := 59
def asISIA {α : Type} (v : AV) (K : Int → List UInt8 → Int → Option α) : Option α :=
  asA v fun l1 => asC l1 fun x2 r2 => asI .i64 x2 fun a0 => asC r2 fun x3 r3 => asS x3 fun a1 => asC r3 fun x4 r4 => asI .i64 x4 fun a2 => asN r4 <| K a0 a1 a2
def asSBT {α : Type} (v : AV) (K : List UInt8 → Bool → Option α) : Option α :=
  asT v fun l1 => asC l1 fun x2 r2 => asS x2 fun a0 => asC r2 fun x3 r3 => asB x3 fun a1 => asN r3 <| K a0 a1
def asIVT {α : Type} (v : AV) (K : Int → AV → Option α) : Option α :=
  asT v fun l1 => asC l1 fun x2 r2 => asI .i64 x2 fun a0 => asC r2 fun x3 r3 => asN r3 <| K a0 x3
def asISBT {α : Type} (v : AV) (K : Int → List UInt8 → Bool → Option α) : Option α :=
  asT v fun l1 => asC l1 fun x2 r2 => asI .i64 x2 fun a0 => asC r2 fun x3 r3 => asS x3 fun a1 => asC r3 fun x4 r4 => asB x4 fun a2 => asN r4 <| K a0 a1 a2
def asJBT {α : Type} (v : AV) (K : Int → Bool → Option α) : Option α :=
  asT v fun l1 => asC l1 fun x2 r2 => asI .u32 x2 fun a0 => asC r2 fun x3 r3 => asB x3 fun a1 => asN r3 <| K a0 a1
def asJIBT {α : Type} (v : AV) (K : Int → Int → Bool → Option α) : Option α :=
  asT v fun l1 => asC l1 fun x2 r2 => asI .i32 x2 fun a0 => asC r2 fun x3 r3 => asI .i64 x3 fun a1 => asC r3 fun x4 r4 => asB x4 fun a2 => asN r4 <| K a0 a1 a2
def asSIBT {α : Type} (v : AV) (K : List UInt8 → Int → Bool → Option α) : Option α :=
  asT v fun l1 => asC l1 fun x2 r2 => asS x2 fun a0 => asC r2 fun x3 r3 => asI .i64 x3 fun a1 => asC r3 fun x4 r4 => asB x4 fun a2 => asN r4 <| K a0 a1 a2
def asSSBT {α : Type} (v : AV) (K : List UInt8 → List UInt8 → Bool → Option α) : Option α :=
  asT v fun l1 => asC l1 fun x2 r2 => asS x2 fun a0 => asC r2 fun x3 r3 => asS x3 fun a1 => asC r3 fun x4 r4 => asB x4 fun a2 => asN r4 <| K a0 a1 a2
def asRSBT {α : Type} (v : AV) (K : List AV → List UInt8 → Bool → Option α) : Option α :=
  asT v fun l1 => asC l1 fun x2 r2 => asR 3 x2 fun a0 => asC r2 fun x3 r3 => asS x3 fun a1 => asC r3 fun x4 r4 => asB x4 fun a2 => asN r4 <| K a0 a1 a2
def asASBT {α : Type} (v : AV) (K : Int → List UInt8 → Int → List UInt8 → Bool → Option α) : Option α :=
  asT v fun l1 => asC l1 fun x2 r2 => asA x2 fun l3 => asC l3 fun x4 r4 => asI .i64 x4 fun a0 => asC r4 fun x5 r5 => asS x5 fun a1 => asC r5 fun x6 r6 => asI .i64 x6 fun a2 => asN r6 <| asC r2 fun x7 r7 => asS x7 fun a3 => asC r7 fun x8 r8 => asB x8 fun a4 => asN r8 <| K a0 a1 a2 a3 a4
def asRIT {α : Type} (v : AV) (K : List AV → Int → Option α) : Option α :=
  asT v fun l1 => asC l1 fun x2 r2 => asR 3 x2 fun a0 => asC r2 fun x3 r3 => asI .i64 x3 fun a1 => asN r3 <| K a0 a1
def asSIT {α : Type} (v : AV) (K : List UInt8 → Int → Option α) : Option α :=
  asT v fun l1 => asC l1 fun x2 r2 => asS x2 fun a0 => asC r2 fun x3 r3 => asI .i64 x3 fun a1 => asN r3 <| K a0 a1

def keepWithin_c0 : AC := .seq (.region [.op (some 4) none (.mv (.k (AV.int .i64 0)))]) (.seq (.seq (.region [.op (some 6) none (.mv (.t 1)), .op (some 7) none (.bin .lss (.t 6) (.k (AV.int .i64 1)))]) (.cond (.t 7) (.seq (.region [.op (some 4) none (.mv (.k (AV.int .i64 0)))]) (.ret [4] [])) (.skip))) (.seq (.region [.op (some 8) none (.mv (.t 0)), .op (some 9) none (.mv (.t 1)), .op (some 10) none (.bin .rem (.t 8) (.t 9)), .op (some 5) none (.mv (.t 10))]) (.seq (.seq (.region [.op (some 11) none (.mv (.t 5)), .op (some 12) none (.bin .lss (.t 11) (.k (AV.int .i64 0)))]) (.cond (.t 12) (.region [.op (some 13) none (.mv (.t 5)), .op (some 14) none (.mv (.t 1)), .op (some 15) none (.bin .add (.t 13) (.t 14)), .op (some 5) none (.mv (.t 15))]) (.skip))) (.seq (.region [.op (some 16) none (.mv (.t 5)), .op (some 4) none (.mv (.t 16))]) (.ret [4] [])))))
def keepWithin : AFunc := ⟨2, 17, [.tmp 4], keepWithin_c0⟩
def keepWithinr (R : Nat → List AV → Option Res) (N : Nat) (i1 : Int) (i2 : Int) : Option Res :=
  bif decide ((i2 : Int) < 1) then
    (some ⟨AV.int .i64 0, false, []⟩)
  else
    need (!decide (i2 = 0)) <|
    bif decide (((Int.tmod i1 i2) : Int) < 0) then
    (some ⟨AV.int .i64 (IntKind.i64.wrap ((Int.tmod i1 i2) + i2)), false, []⟩)
    else
    some ⟨AV.int .i64 (Int.tmod i1 i2), false, []⟩
theorem keepWithin_eq (R : Nat → List AV → Option Res) (N : Nat) (i1 : Int) (i2 : Int) : runF gl R N keepWithin [AV.int .i64 i1, AV.int .i64 i2] = keepWithinr R N i1 i2 := by
  kernel_rfl
theorem keepWithin_fit : fitF Tryd.prog keepWithin Tryd.f17 = true := by
  kernel_rfl

def keepText_c0 : AC := .seq (.region [.op (some 4) none (.mv (.k (AV.str ([] : List UInt8))))]) (.seq (.region [.op (some 5) none (.mv (.t 0)), .op (some 6) none (.mv (.t 0)), .op (some 7) none (.len (.t 6) true), .op (some 8) none (.mv (.t 1)), .op (some 9) none (.mn [.t 7, .t 8]), .op (some 10) none (.sliceS (.t 5) none (some (.t 9))), .op (some 4) none (.mv (.t 10))]) (.ret [4] []))
def keepText : AFunc := ⟨2, 11, [.tmp 4], keepText_c0⟩
def keepTextr (R : Nat → List AV → Option Res) (N : Nat) (s1 : List UInt8) (i1 : Int) : Option Res :=
  need (decide (0 ≤ (if i1 < ((s1.length : Nat) : Int) then i1 else ((s1.length : Nat) : Int) : Int)) && decide ((if i1 < ((s1.length : Nat) : Int) then i1 else ((s1.length : Nat) : Int) : Int) ≤ ((s1.length : Nat) : Int))) <|
  some ⟨AV.str ((s1.take (Int.toNat (if i1 < ((s1.length : Nat) : Int) then i1 else ((s1.length : Nat) : Int)))).drop 0), false, []⟩
theorem keepText_eq (R : Nat → List AV → Option Res) (N : Nat) (s1 : List UInt8) (i1 : Int) : runF gl R N keepText [AV.str s1, AV.int .i64 i1] = keepTextr R N s1 i1 := by
  kernel_rfl
theorem keepText_fit : fitF Tryd.prog keepText Tryd.f20 = true := by
  kernel_rfl

def law20Steps_L1s (R : Nat → List AV → Option Res) (N : Nat) (go : List AV → Bool → Int → List AV → Option Res) (k0 : List AV → Option Res) (l2 : List AV) (b2 : Bool) (i1 : Int) (l3 : List AV) : Option Res :=
  bif decide ((i1 : Int) < ((l2.length : Nat) : Int)) then
    (bif decide ((i1 : Int) < 36) then
    (need (decide (0 ≤ (i1 : Int))) <|
    (l2[Int.toNat i1]?).bind fun e1 =>
    asISIA e1 fun i2 s1 i3 =>
    (R id_keepWithin [AV.int .i64 i2, AV.int .i64 5]).bind fun r1 =>
    asI .i64 r1.v fun i4 =>
    bif ((IntKind.i64.wrap (1 + i4)) : Int) == 1 then
    (bif decide ((i1 : Int) > 0) then
    (bif !b2 then
    (bif (4 : Int) == 2 then
    (need (decide (0 ≤ (i1 : Int))) <|
    (l2[Int.toNat i1]?).bind fun e2 =>
    asISIA e2 fun i5 s2 i6 =>
    (R id_keepText [AV.str s2, AV.int .i64 140]).bind fun r2 =>
    asS r2.v fun s3 =>
    bif b2 then
    (need (decide (0 ≤ (i1 : Int))) <|
    (l2[Int.toNat i1]?).bind fun e3 =>
    asISIA e3 fun i7 s4 i8 =>
    need (!decide (6 = 0)) <|
    bif ((Int.tmod i7 6) : Int) == 5 then
    (need (decide (0 ≤ (i1 : Int))) <|
    (l2[Int.toNat i1]?).bind fun e4 =>
    asISIA e4 fun i9 s5 i10 =>
    (R id_keepText [AV.str s5, AV.int .i64 140]).bind fun r3 =>
    asS r3.v fun s6 =>
    need (decide (((l3.drop 0).take l3.length).length + [AV.agg [AV.int .i64 i9, AV.str s6, AV.int .i64 i10]].length ≤ 1099511627776)) <|
    go l2 b2 (IntKind.i64.wrap (i1 + 1)) (((l3.drop 0).take l3.length) ++ [AV.agg [AV.int .i64 i9, AV.str s6, AV.int .i64 i10]]))
    else
    need (decide (((l3.drop 0).take l3.length).length + [AV.agg [AV.int .i64 4, AV.str s3, AV.int .i64 0]].length ≤ 1099511627776)) <|
    go l2 b2 (IntKind.i64.wrap (i1 + 1)) (((l3.drop 0).take l3.length) ++ [AV.agg [AV.int .i64 4, AV.str s3, AV.int .i64 0]]))
    else
    need (decide (((l3.drop 0).take l3.length).length + [AV.agg [AV.int .i64 4, AV.str s3, AV.int .i64 0]].length ≤ 1099511627776)) <|
    go l2 b2 (IntKind.i64.wrap (i1 + 1)) (((l3.drop 0).take l3.length) ++ [AV.agg [AV.int .i64 4, AV.str s3, AV.int .i64 0]]))
    else
    bif (4 : Int) == 3 then
    (bif (4 : Int) == 3 then
    (need (decide (0 ≤ (i1 : Int))) <|
    (l2[Int.toNat i1]?).bind fun e5 =>
    asISIA e5 fun i11 s7 i12 =>
    need (!decide (9 = 0)) <|
    bif ((Int.tmod i12 9) : Int) != 8 then
    ((R id_keepWithin [AV.int .i64 i12, AV.int .i64 1000000]).bind fun r4 =>
    asI .i64 r4.v fun i13 =>
    bif b2 then
    (need (decide (0 ≤ (i1 : Int))) <|
    (l2[Int.toNat i1]?).bind fun e6 =>
    asISIA e6 fun i14 s8 i15 =>
    need (!decide (6 = 0)) <|
    bif ((Int.tmod i14 6) : Int) == 5 then
    (need (decide (0 ≤ (i1 : Int))) <|
    (l2[Int.toNat i1]?).bind fun e7 =>
    asISIA e7 fun i16 s9 i17 =>
    (R id_keepText [AV.str s9, AV.int .i64 140]).bind fun r5 =>
    asS r5.v fun s10 =>
    need (decide (((l3.drop 0).take l3.length).length + [AV.agg [AV.int .i64 i16, AV.str s10, AV.int .i64 i17]].length ≤ 1099511627776)) <|
    go l2 b2 (IntKind.i64.wrap (i1 + 1)) (((l3.drop 0).take l3.length) ++ [AV.agg [AV.int .i64 i16, AV.str s10, AV.int .i64 i17]]))
    else
    need (decide (((l3.drop 0).take l3.length).length + [AV.agg [AV.int .i64 4, AV.str [], AV.int .i64 i13]].length ≤ 1099511627776)) <|
    go l2 b2 (IntKind.i64.wrap (i1 + 1)) (((l3.drop 0).take l3.length) ++ [AV.agg [AV.int .i64 4, AV.str [], AV.int .i64 i13]]))
    else
    need (decide (((l3.drop 0).take l3.length).length + [AV.agg [AV.int .i64 4, AV.str [], AV.int .i64 i13]].length ≤ 1099511627776)) <|
    go l2 b2 (IntKind.i64.wrap (i1 + 1)) (((l3.drop 0).take l3.length) ++ [AV.agg [AV.int .i64 4, AV.str [], AV.int .i64 i13]]))
    else
    bif b2 then
    (need (decide (0 ≤ (i1 : Int))) <|
    (l2[Int.toNat i1]?).bind fun e8 =>
    asISIA e8 fun i18 s11 i19 =>
    need (!decide (6 = 0)) <|
    bif ((Int.tmod i18 6) : Int) == 5 then
    (need (decide (0 ≤ (i1 : Int))) <|
    (l2[Int.toNat i1]?).bind fun e9 =>
    asISIA e9 fun i20 s12 i21 =>
    (R id_keepText [AV.str s12, AV.int .i64 140]).bind fun r6 =>
    asS r6.v fun s13 =>
    need (decide (((l3.drop 0).take l3.length).length + [AV.agg [AV.int .i64 i20, AV.str s13, AV.int .i64 i21]].length ≤ 1099511627776)) <|
    go l2 b2 (IntKind.i64.wrap (i1 + 1)) (((l3.drop 0).take l3.length) ++ [AV.agg [AV.int .i64 i20, AV.str s13, AV.int .i64 i21]]))
    else
    need (decide (((l3.drop 0).take l3.length).length + [AV.agg [AV.int .i64 4, AV.str [], AV.int .i64 i12]].length ≤ 1099511627776)) <|
    go l2 b2 (IntKind.i64.wrap (i1 + 1)) (((l3.drop 0).take l3.length) ++ [AV.agg [AV.int .i64 4, AV.str [], AV.int .i64 i12]]))
    else
    need (decide (((l3.drop 0).take l3.length).length + [AV.agg [AV.int .i64 4, AV.str [], AV.int .i64 i12]].length ≤ 1099511627776)) <|
    go l2 b2 (IntKind.i64.wrap (i1 + 1)) (((l3.drop 0).take l3.length) ++ [AV.agg [AV.int .i64 4, AV.str [], AV.int .i64 i12]]))
    else
    bif b2 then
    (need (decide (0 ≤ (i1 : Int))) <|
    (l2[Int.toNat i1]?).bind fun e10 =>
    asISIA e10 fun i22 s14 i23 =>
    need (!decide (6 = 0)) <|
    bif ((Int.tmod i22 6) : Int) == 5 then
    (need (decide (0 ≤ (i1 : Int))) <|
    (l2[Int.toNat i1]?).bind fun e11 =>
    asISIA e11 fun i24 s15 i25 =>
    (R id_keepText [AV.str s15, AV.int .i64 140]).bind fun r7 =>
    asS r7.v fun s16 =>
    need (decide (((l3.drop 0).take l3.length).length + [AV.agg [AV.int .i64 i24, AV.str s16, AV.int .i64 i25]].length ≤ 1099511627776)) <|
    go l2 b2 (IntKind.i64.wrap (i1 + 1)) (((l3.drop 0).take l3.length) ++ [AV.agg [AV.int .i64 i24, AV.str s16, AV.int .i64 i25]]))
    else
    need (decide (((l3.drop 0).take l3.length).length + [AV.agg [AV.int .i64 4, AV.str [], AV.int .i64 0]].length ≤ 1099511627776)) <|
    go l2 b2 (IntKind.i64.wrap (i1 + 1)) (((l3.drop 0).take l3.length) ++ [AV.agg [AV.int .i64 4, AV.str [], AV.int .i64 0]]))
    else
    need (decide (((l3.drop 0).take l3.length).length + [AV.agg [AV.int .i64 4, AV.str [], AV.int .i64 0]].length ≤ 1099511627776)) <|
    go l2 b2 (IntKind.i64.wrap (i1 + 1)) (((l3.drop 0).take l3.length) ++ [AV.agg [AV.int .i64 4, AV.str [], AV.int .i64 0]]))
    else
    bif (4 : Int) == 1 then
    (need (decide (0 ≤ (i1 : Int))) <|
    (l2[Int.toNat i1]?).bind fun e12 =>
    asISIA e12 fun i26 s17 i27 =>
    need (!decide (9 = 0)) <|
    bif ((Int.tmod i27 9) : Int) != 8 then
    ((R id_keepWithin [AV.int .i64 i27, AV.int .i64 1000000]).bind fun r8 =>
    asI .i64 r8.v fun i28 =>
    bif b2 then
    (need (decide (0 ≤ (i1 : Int))) <|
    (l2[Int.toNat i1]?).bind fun e13 =>
    asISIA e13 fun i29 s18 i30 =>
    need (!decide (6 = 0)) <|
    bif ((Int.tmod i29 6) : Int) == 5 then
    (need (decide (0 ≤ (i1 : Int))) <|
    (l2[Int.toNat i1]?).bind fun e14 =>
    asISIA e14 fun i31 s19 i32 =>
    (R id_keepText [AV.str s19, AV.int .i64 140]).bind fun r9 =>
    asS r9.v fun s20 =>
    need (decide (((l3.drop 0).take l3.length).length + [AV.agg [AV.int .i64 i31, AV.str s20, AV.int .i64 i32]].length ≤ 1099511627776)) <|
    go l2 b2 (IntKind.i64.wrap (i1 + 1)) (((l3.drop 0).take l3.length) ++ [AV.agg [AV.int .i64 i31, AV.str s20, AV.int .i64 i32]]))
    else
    need (decide (((l3.drop 0).take l3.length).length + [AV.agg [AV.int .i64 4, AV.str [], AV.int .i64 i28]].length ≤ 1099511627776)) <|
    go l2 b2 (IntKind.i64.wrap (i1 + 1)) (((l3.drop 0).take l3.length) ++ [AV.agg [AV.int .i64 4, AV.str [], AV.int .i64 i28]]))
    else
    need (decide (((l3.drop 0).take l3.length).length + [AV.agg [AV.int .i64 4, AV.str [], AV.int .i64 i28]].length ≤ 1099511627776)) <|
    go l2 b2 (IntKind.i64.wrap (i1 + 1)) (((l3.drop 0).take l3.length) ++ [AV.agg [AV.int .i64 4, AV.str [], AV.int .i64 i28]]))
    else
    bif b2 then
    (need (decide (0 ≤ (i1 : Int))) <|
    (l2[Int.toNat i1]?).bind fun e15 =>
    asISIA e15 fun i33 s21 i34 =>
    need (!decide (6 = 0)) <|
    bif ((Int.tmod i33 6) : Int) == 5 then
    (need (decide (0 ≤ (i1 : Int))) <|
    (l2[Int.toNat i1]?).bind fun e16 =>
    asISIA e16 fun i35 s22 i36 =>
    (R id_keepText [AV.str s22, AV.int .i64 140]).bind fun r10 =>
    asS r10.v fun s23 =>
    need (decide (((l3.drop 0).take l3.length).length + [AV.agg [AV.int .i64 i35, AV.str s23, AV.int .i64 i36]].length ≤ 1099511627776)) <|
    go l2 b2 (IntKind.i64.wrap (i1 + 1)) (((l3.drop 0).take l3.length) ++ [AV.agg [AV.int .i64 i35, AV.str s23, AV.int .i64 i36]]))
    else
    need (decide (((l3.drop 0).take l3.length).length + [AV.agg [AV.int .i64 4, AV.str [], AV.int .i64 i27]].length ≤ 1099511627776)) <|
    go l2 b2 (IntKind.i64.wrap (i1 + 1)) (((l3.drop 0).take l3.length) ++ [AV.agg [AV.int .i64 4, AV.str [], AV.int .i64 i27]]))
    else
    need (decide (((l3.drop 0).take l3.length).length + [AV.agg [AV.int .i64 4, AV.str [], AV.int .i64 i27]].length ≤ 1099511627776)) <|
    go l2 b2 (IntKind.i64.wrap (i1 + 1)) (((l3.drop 0).take l3.length) ++ [AV.agg [AV.int .i64 4, AV.str [], AV.int .i64 i27]]))
    else
    bif b2 then
    (need (decide (0 ≤ (i1 : Int))) <|
    (l2[Int.toNat i1]?).bind fun e17 =>
    asISIA e17 fun i37 s24 i38 =>
    need (!decide (6 = 0)) <|
    bif ((Int.tmod i37 6) : Int) == 5 then
    (need (decide (0 ≤ (i1 : Int))) <|
    (l2[Int.toNat i1]?).bind fun e18 =>
    asISIA e18 fun i39 s25 i40 =>
    (R id_keepText [AV.str s25, AV.int .i64 140]).bind fun r11 =>
    asS r11.v fun s26 =>
    need (decide (((l3.drop 0).take l3.length).length + [AV.agg [AV.int .i64 i39, AV.str s26, AV.int .i64 i40]].length ≤ 1099511627776)) <|
    go l2 b2 (IntKind.i64.wrap (i1 + 1)) (((l3.drop 0).take l3.length) ++ [AV.agg [AV.int .i64 i39, AV.str s26, AV.int .i64 i40]]))
    else
    need (decide (((l3.drop 0).take l3.length).length + [AV.agg [AV.int .i64 4, AV.str [], AV.int .i64 0]].length ≤ 1099511627776)) <|
    go l2 b2 (IntKind.i64.wrap (i1 + 1)) (((l3.drop 0).take l3.length) ++ [AV.agg [AV.int .i64 4, AV.str [], AV.int .i64 0]]))
    else
    need (decide (((l3.drop 0).take l3.length).length + [AV.agg [AV.int .i64 4, AV.str [], AV.int .i64 0]].length ≤ 1099511627776)) <|
    go l2 b2 (IntKind.i64.wrap (i1 + 1)) (((l3.drop 0).take l3.length) ++ [AV.agg [AV.int .i64 4, AV.str [], AV.int .i64 0]]))
    else
    bif ((IntKind.i64.wrap (1 + i4)) : Int) == 2 then
    (need (decide (0 ≤ (i1 : Int))) <|
    (l2[Int.toNat i1]?).bind fun e19 =>
    asISIA e19 fun i41 s27 i42 =>
    (R id_keepText [AV.str s27, AV.int .i64 140]).bind fun r12 =>
    asS r12.v fun s28 =>
    bif b2 then
    (need (decide (0 ≤ (i1 : Int))) <|
    (l2[Int.toNat i1]?).bind fun e20 =>
    asISIA e20 fun i43 s29 i44 =>
    need (!decide (6 = 0)) <|
    bif ((Int.tmod i43 6) : Int) == 5 then
    (need (decide (0 ≤ (i1 : Int))) <|
    (l2[Int.toNat i1]?).bind fun e21 =>
    asISIA e21 fun i45 s30 i46 =>
    (R id_keepText [AV.str s30, AV.int .i64 140]).bind fun r13 =>
    asS r13.v fun s31 =>
    need (decide (((l3.drop 0).take l3.length).length + [AV.agg [AV.int .i64 i45, AV.str s31, AV.int .i64 i46]].length ≤ 1099511627776)) <|
    go l2 b2 (IntKind.i64.wrap (i1 + 1)) (((l3.drop 0).take l3.length) ++ [AV.agg [AV.int .i64 i45, AV.str s31, AV.int .i64 i46]]))
    else
    need (decide (((l3.drop 0).take l3.length).length + [AV.agg [AV.int .i64 (IntKind.i64.wrap (1 + i4)), AV.str s28, AV.int .i64 0]].length ≤ 1099511627776)) <|
    go l2 b2 (IntKind.i64.wrap (i1 + 1)) (((l3.drop 0).take l3.length) ++ [AV.agg [AV.int .i64 (IntKind.i64.wrap (1 + i4)), AV.str s28, AV.int .i64 0]]))
    else
    need (decide (((l3.drop 0).take l3.length).length + [AV.agg [AV.int .i64 (IntKind.i64.wrap (1 + i4)), AV.str s28, AV.int .i64 0]].length ≤ 1099511627776)) <|
    go l2 b2 (IntKind.i64.wrap (i1 + 1)) (((l3.drop 0).take l3.length) ++ [AV.agg [AV.int .i64 (IntKind.i64.wrap (1 + i4)), AV.str s28, AV.int .i64 0]]))
    else
    bif ((IntKind.i64.wrap (1 + i4)) : Int) == 3 then
    (bif ((IntKind.i64.wrap (1 + i4)) : Int) == 3 then
    (need (decide (0 ≤ (i1 : Int))) <|
    (l2[Int.toNat i1]?).bind fun e22 =>
    asISIA e22 fun i47 s32 i48 =>
    need (!decide (9 = 0)) <|
    bif ((Int.tmod i48 9) : Int) != 8 then
    ((R id_keepWithin [AV.int .i64 i48, AV.int .i64 1000000]).bind fun r14 =>
    asI .i64 r14.v fun i49 =>
    bif b2 then
    (need (decide (0 ≤ (i1 : Int))) <|
    (l2[Int.toNat i1]?).bind fun e23 =>
    asISIA e23 fun i50 s33 i51 =>
    need (!decide (6 = 0)) <|
    bif ((Int.tmod i50 6) : Int) == 5 then
    (need (decide (0 ≤ (i1 : Int))) <|
    (l2[Int.toNat i1]?).bind fun e24 =>
    asISIA e24 fun i52 s34 i53 =>
    (R id_keepText [AV.str s34, AV.int .i64 140]).bind fun r15 =>
    asS r15.v fun s35 =>
    need (decide (((l3.drop 0).take l3.length).length + [AV.agg [AV.int .i64 i52, AV.str s35, AV.int .i64 i53]].length ≤ 1099511627776)) <|
    go l2 b2 (IntKind.i64.wrap (i1 + 1)) (((l3.drop 0).take l3.length) ++ [AV.agg [AV.int .i64 i52, AV.str s35, AV.int .i64 i53]]))
    else
    need (decide (((l3.drop 0).take l3.length).length + [AV.agg [AV.int .i64 (IntKind.i64.wrap (1 + i4)), AV.str [], AV.int .i64 i49]].length ≤ 1099511627776)) <|
    go l2 b2 (IntKind.i64.wrap (i1 + 1)) (((l3.drop 0).take l3.length) ++ [AV.agg [AV.int .i64 (IntKind.i64.wrap (1 + i4)), AV.str [], AV.int .i64 i49]]))
    else
    need (decide (((l3.drop 0).take l3.length).length + [AV.agg [AV.int .i64 (IntKind.i64.wrap (1 + i4)), AV.str [], AV.int .i64 i49]].length ≤ 1099511627776)) <|
    go l2 b2 (IntKind.i64.wrap (i1 + 1)) (((l3.drop 0).take l3.length) ++ [AV.agg [AV.int .i64 (IntKind.i64.wrap (1 + i4)), AV.str [], AV.int .i64 i49]]))
    else
    bif b2 then
    (need (decide (0 ≤ (i1 : Int))) <|
    (l2[Int.toNat i1]?).bind fun e25 =>
    asISIA e25 fun i54 s36 i55 =>
    need (!decide (6 = 0)) <|
    bif ((Int.tmod i54 6) : Int) == 5 then
    (need (decide (0 ≤ (i1 : Int))) <|
    (l2[Int.toNat i1]?).bind fun e26 =>
    asISIA e26 fun i56 s37 i57 =>
    (R id_keepText [AV.str s37, AV.int .i64 140]).bind fun r16 =>
    asS r16.v fun s38 =>
    need (decide (((l3.drop 0).take l3.length).length + [AV.agg [AV.int .i64 i56, AV.str s38, AV.int .i64 i57]].length ≤ 1099511627776)) <|
    go l2 b2 (IntKind.i64.wrap (i1 + 1)) (((l3.drop 0).take l3.length) ++ [AV.agg [AV.int .i64 i56, AV.str s38, AV.int .i64 i57]]))
    else
    need (decide (((l3.drop 0).take l3.length).length + [AV.agg [AV.int .i64 (IntKind.i64.wrap (1 + i4)), AV.str [], AV.int .i64 i48]].length ≤ 1099511627776)) <|
    go l2 b2 (IntKind.i64.wrap (i1 + 1)) (((l3.drop 0).take l3.length) ++ [AV.agg [AV.int .i64 (IntKind.i64.wrap (1 + i4)), AV.str [], AV.int .i64 i48]]))
    else
    need (decide (((l3.drop 0).take l3.length).length + [AV.agg [AV.int .i64 (IntKind.i64.wrap (1 + i4)), AV.str [], AV.int .i64 i48]].length ≤ 1099511627776)) <|
    go l2 b2 (IntKind.i64.wrap (i1 + 1)) (((l3.drop 0).take l3.length) ++ [AV.agg [AV.int .i64 (IntKind.i64.wrap (1 + i4)), AV.str [], AV.int .i64 i48]]))
    else
    bif b2 then
    (need (decide (0 ≤ (i1 : Int))) <|
    (l2[Int.toNat i1]?).bind fun e27 =>
    asISIA e27 fun i58 s39 i59 =>
    need (!decide (6 = 0)) <|
    bif ((Int.tmod i58 6) : Int) == 5 then
    (need (decide (0 ≤ (i1 : Int))) <|
    (l2[Int.toNat i1]?).bind fun e28 =>
    asISIA e28 fun i60 s40 i61 =>
    (R id_keepText [AV.str s40, AV.int .i64 140]).bind fun r17 =>
    asS r17.v fun s41 =>
    need (decide (((l3.drop 0).take l3.length).length + [AV.agg [AV.int .i64 i60, AV.str s41, AV.int .i64 i61]].length ≤ 1099511627776)) <|
    go l2 b2 (IntKind.i64.wrap (i1 + 1)) (((l3.drop 0).take l3.length) ++ [AV.agg [AV.int .i64 i60, AV.str s41, AV.int .i64 i61]]))
    else
    need (decide (((l3.drop 0).take l3.length).length + [AV.agg [AV.int .i64 (IntKind.i64.wrap (1 + i4)), AV.str [], AV.int .i64 0]].length ≤ 1099511627776)) <|
    go l2 b2 (IntKind.i64.wrap (i1 + 1)) (((l3.drop 0).take l3.length) ++ [AV.agg [AV.int .i64 (IntKind.i64.wrap (1 + i4)), AV.str [], AV.int .i64 0]]))
    else
    need (decide (((l3.drop 0).take l3.length).length + [AV.agg [AV.int .i64 (IntKind.i64.wrap (1 + i4)), AV.str [], AV.int .i64 0]].length ≤ 1099511627776)) <|
    go l2 b2 (IntKind.i64.wrap (i1 + 1)) (((l3.drop 0).take l3.length) ++ [AV.agg [AV.int .i64 (IntKind.i64.wrap (1 + i4)), AV.str [], AV.int .i64 0]]))
    else
    bif ((IntKind.i64.wrap (1 + i4)) : Int) == 1 then
    (need (decide (0 ≤ (i1 : Int))) <|
    (l2[Int.toNat i1]?).bind fun e29 =>
    asISIA e29 fun i62 s42 i63 =>
    need (!decide (9 = 0)) <|
    bif ((Int.tmod i63 9) : Int) != 8 then
    ((R id_keepWithin [AV.int .i64 i63, AV.int .i64 1000000]).bind fun r18 =>
    asI .i64 r18.v fun i64 =>
    bif b2 then
    (need (decide (0 ≤ (i1 : Int))) <|
    (l2[Int.toNat i1]?).bind fun e30 =>
    asISIA e30 fun i65 s43 i66 =>
    need (!decide (6 = 0)) <|
    bif ((Int.tmod i65 6) : Int) == 5 then
    (need (decide (0 ≤ (i1 : Int))) <|
    (l2[Int.toNat i1]?).bind fun e31 =>
    asISIA e31 fun i67 s44 i68 =>
    (R id_keepText [AV.str s44, AV.int .i64 140]).bind fun r19 =>
    asS r19.v fun s45 =>
    need (decide (((l3.drop 0).take l3.length).length + [AV.agg [AV.int .i64 i67, AV.str s45, AV.int .i64 i68]].length ≤ 1099511627776)) <|
    go l2 b2 (IntKind.i64.wrap (i1 + 1)) (((l3.drop 0).take l3.length) ++ [AV.agg [AV.int .i64 i67, AV.str s45, AV.int .i64 i68]]))
    else
    need (decide (((l3.drop 0).take l3.length).length + [AV.agg [AV.int .i64 (IntKind.i64.wrap (1 + i4)), AV.str [], AV.int .i64 i64]].length ≤ 1099511627776)) <|
    go l2 b2 (IntKind.i64.wrap (i1 + 1)) (((l3.drop 0).take l3.length) ++ [AV.agg [AV.int .i64 (IntKind.i64.wrap (1 + i4)), AV.str [], AV.int .i64 i64]]))
    else
    need (decide (((l3.drop 0).take l3.length).length + [AV.agg [AV.int .i64 (IntKind.i64.wrap (1 + i4)), AV.str [], AV.int .i64 i64]].length ≤ 1099511627776)) <|
    go l2 b2 (IntKind.i64.wrap (i1 + 1)) (((l3.drop 0).take l3.length) ++ [AV.agg [AV.int .i64 (IntKind.i64.wrap (1 + i4)), AV.str [], AV.int .i64 i64]]))
    else
    bif b2 then
    (need (decide (0 ≤ (i1 : Int))) <|
    (l2[Int.toNat i1]?).bind fun e32 =>
    asISIA e32 fun i69 s46 i70 =>
    need (!decide (6 = 0)) <|
    bif ((Int.tmod i69 6) : Int) == 5 then
    (need (decide (0 ≤ (i1 : Int))) <|
    (l2[Int.toNat i1]?).bind fun e33 =>
    asISIA e33 fun i71 s47 i72 =>
    (R id_keepText [AV.str s47, AV.int .i64 140]).bind fun r20 =>
    asS r20.v fun s48 =>
    need (decide (((l3.drop 0).take l3.length).length + [AV.agg [AV.int .i64 i71, AV.str s48, AV.int .i64 i72]].length ≤ 1099511627776)) <|
    go l2 b2 (IntKind.i64.wrap (i1 + 1)) (((l3.drop 0).take l3.length) ++ [AV.agg [AV.int .i64 i71, AV.str s48, AV.int .i64 i72]]))
    else
    need (decide (((l3.drop 0).take l3.length).length + [AV.agg [AV.int .i64 (IntKind.i64.wrap (1 + i4)), AV.str [], AV.int .i64 i63]].length ≤ 1099511627776)) <|
    go l2 b2 (IntKind.i64.wrap (i1 + 1)) (((l3.drop 0).take l3.length) ++ [AV.agg [AV.int .i64 (IntKind.i64.wrap (1 + i4)), AV.str [], AV.int .i64 i63]]))
    else
    need (decide (((l3.drop 0).take l3.length).length + [AV.agg [AV.int .i64 (IntKind.i64.wrap (1 + i4)), AV.str [], AV.int .i64 i63]].length ≤ 1099511627776)) <|
    go l2 b2 (IntKind.i64.wrap (i1 + 1)) (((l3.drop 0).take l3.length) ++ [AV.agg [AV.int .i64 (IntKind.i64.wrap (1 + i4)), AV.str [], AV.int .i64 i63]]))
    else
    bif b2 then
    (need (decide (0 ≤ (i1 : Int))) <|
    (l2[Int.toNat i1]?).bind fun e34 =>
    asISIA e34 fun i73 s49 i74 =>
    need (!decide (6 = 0)) <|
    bif ((Int.tmod i73 6) : Int) == 5 then
    (need (decide (0 ≤ (i1 : Int))) <|
    (l2[Int.toNat i1]?).bind fun e35 =>
    asISIA e35 fun i75 s50 i76 =>
    (R id_keepText [AV.str s50, AV.int .i64 140]).bind fun r21 =>
    asS r21.v fun s51 =>
    need (decide (((l3.drop 0).take l3.length).length + [AV.agg [AV.int .i64 i75, AV.str s51, AV.int .i64 i76]].length ≤ 1099511627776)) <|
    go l2 b2 (IntKind.i64.wrap (i1 + 1)) (((l3.drop 0).take l3.length) ++ [AV.agg [AV.int .i64 i75, AV.str s51, AV.int .i64 i76]]))
    else
    need (decide (((l3.drop 0).take l3.length).length + [AV.agg [AV.int .i64 (IntKind.i64.wrap (1 + i4)), AV.str [], AV.int .i64 0]].length ≤ 1099511627776)) <|
    go l2 b2 (IntKind.i64.wrap (i1 + 1)) (((l3.drop 0).take l3.length) ++ [AV.agg [AV.int .i64 (IntKind.i64.wrap (1 + i4)), AV.str [], AV.int .i64 0]]))
    else
    need (decide (((l3.drop 0).take l3.length).length + [AV.agg [AV.int .i64 (IntKind.i64.wrap (1 + i4)), AV.str [], AV.int .i64 0]].length ≤ 1099511627776)) <|
    go l2 b2 (IntKind.i64.wrap (i1 + 1)) (((l3.drop 0).take l3.length) ++ [AV.agg [AV.int .i64 (IntKind.i64.wrap (1 + i4)), AV.str [], AV.int .i64 0]]))
    else
    bif ((IntKind.i64.wrap (1 + i4)) : Int) == 2 then
    (need (decide (0 ≤ (i1 : Int))) <|
    (l2[Int.toNat i1]?).bind fun e36 =>
    asISIA e36 fun i77 s52 i78 =>
    (R id_keepText [AV.str s52, AV.int .i64 140]).bind fun r22 =>
    asS r22.v fun s53 =>
    bif b2 then
    (need (decide (0 ≤ (i1 : Int))) <|
    (l2[Int.toNat i1]?).bind fun e37 =>
    asISIA e37 fun i79 s54 i80 =>
    need (!decide (6 = 0)) <|
    bif ((Int.tmod i79 6) : Int) == 5 then
    (need (decide (0 ≤ (i1 : Int))) <|
    (l2[Int.toNat i1]?).bind fun e38 =>
    asISIA e38 fun i81 s55 i82 =>
    (R id_keepText [AV.str s55, AV.int .i64 140]).bind fun r23 =>
    asS r23.v fun s56 =>
    need (decide (((l3.drop 0).take l3.length).length + [AV.agg [AV.int .i64 i81, AV.str s56, AV.int .i64 i82]].length ≤ 1099511627776)) <|
    go l2 b2 (IntKind.i64.wrap (i1 + 1)) (((l3.drop 0).take l3.length) ++ [AV.agg [AV.int .i64 i81, AV.str s56, AV.int .i64 i82]]))
    else
    need (decide (((l3.drop 0).take l3.length).length + [AV.agg [AV.int .i64 (IntKind.i64.wrap (1 + i4)), AV.str s53, AV.int .i64 0]].length ≤ 1099511627776)) <|
    go l2 b2 (IntKind.i64.wrap (i1 + 1)) (((l3.drop 0).take l3.length) ++ [AV.agg [AV.int .i64 (IntKind.i64.wrap (1 + i4)), AV.str s53, AV.int .i64 0]]))
    else
    need (decide (((l3.drop 0).take l3.length).length + [AV.agg [AV.int .i64 (IntKind.i64.wrap (1 + i4)), AV.str s53, AV.int .i64 0]].length ≤ 1099511627776)) <|
    go l2 b2 (IntKind.i64.wrap (i1 + 1)) (((l3.drop 0).take l3.length) ++ [AV.agg [AV.int .i64 (IntKind.i64.wrap (1 + i4)), AV.str s53, AV.int .i64 0]]))
    else
    bif ((IntKind.i64.wrap (1 + i4)) : Int) == 3 then
    (bif ((IntKind.i64.wrap (1 + i4)) : Int) == 3 then
    (need (decide (0 ≤ (i1 : Int))) <|
    (l2[Int.toNat i1]?).bind fun e39 =>
    asISIA e39 fun i83 s57 i84 =>
    need (!decide (9 = 0)) <|
    bif ((Int.tmod i84 9) : Int) != 8 then
    ((R id_keepWithin [AV.int .i64 i84, AV.int .i64 1000000]).bind fun r24 =>
    asI .i64 r24.v fun i85 =>
    bif b2 then
    (need (decide (0 ≤ (i1 : Int))) <|
    (l2[Int.toNat i1]?).bind fun e40 =>
    asISIA e40 fun i86 s58 i87 =>
    need (!decide (6 = 0)) <|
    bif ((Int.tmod i86 6) : Int) == 5 then
    (need (decide (0 ≤ (i1 : Int))) <|
    (l2[Int.toNat i1]?).bind fun e41 =>
    asISIA e41 fun i88 s59 i89 =>
    (R id_keepText [AV.str s59, AV.int .i64 140]).bind fun r25 =>
    asS r25.v fun s60 =>
    need (decide (((l3.drop 0).take l3.length).length + [AV.agg [AV.int .i64 i88, AV.str s60, AV.int .i64 i89]].length ≤ 1099511627776)) <|
    go l2 b2 (IntKind.i64.wrap (i1 + 1)) (((l3.drop 0).take l3.length) ++ [AV.agg [AV.int .i64 i88, AV.str s60, AV.int .i64 i89]]))
    else
    need (decide (((l3.drop 0).take l3.length).length + [AV.agg [AV.int .i64 (IntKind.i64.wrap (1 + i4)), AV.str [], AV.int .i64 i85]].length ≤ 1099511627776)) <|
    go l2 b2 (IntKind.i64.wrap (i1 + 1)) (((l3.drop 0).take l3.length) ++ [AV.agg [AV.int .i64 (IntKind.i64.wrap (1 + i4)), AV.str [], AV.int .i64 i85]]))
    else
    need (decide (((l3.drop 0).take l3.length).length + [AV.agg [AV.int .i64 (IntKind.i64.wrap (1 + i4)), AV.str [], AV.int .i64 i85]].length ≤ 1099511627776)) <|
    go l2 b2 (IntKind.i64.wrap (i1 + 1)) (((l3.drop 0).take l3.length) ++ [AV.agg [AV.int .i64 (IntKind.i64.wrap (1 + i4)), AV.str [], AV.int .i64 i85]]))
    else
    bif b2 then
    (need (decide (0 ≤ (i1 : Int))) <|
    (l2[Int.toNat i1]?).bind fun e42 =>
    asISIA e42 fun i90 s61 i91 =>
    need (!decide (6 = 0)) <|
    bif ((Int.tmod i90 6) : Int) == 5 then
    (need (decide (0 ≤ (i1 : Int))) <|
    (l2[Int.toNat i1]?).bind fun e43 =>
    asISIA e43 fun i92 s62 i93 =>
    (R id_keepText [AV.str s62, AV.int .i64 140]).bind fun r26 =>
    asS r26.v fun s63 =>
    need (decide (((l3.drop 0).take l3.length).length + [AV.agg [AV.int .i64 i92, AV.str s63, AV.int .i64 i93]].length ≤ 1099511627776)) <|
    go l2 b2 (IntKind.i64.wrap (i1 + 1)) (((l3.drop 0).take l3.length) ++ [AV.agg [AV.int .i64 i92, AV.str s63, AV.int .i64 i93]]))
    else
    need (decide (((l3.drop 0).take l3.length).length + [AV.agg [AV.int .i64 (IntKind.i64.wrap (1 + i4)), AV.str [], AV.int .i64 i84]].length ≤ 1099511627776)) <|
    go l2 b2 (IntKind.i64.wrap (i1 + 1)) (((l3.drop 0).take l3.length) ++ [AV.agg [AV.int .i64 (IntKind.i64.wrap (1 + i4)), AV.str [], AV.int .i64 i84]]))
    else
    need (decide (((l3.drop 0).take l3.length).length + [AV.agg [AV.int .i64 (IntKind.i64.wrap (1 + i4)), AV.str [], AV.int .i64 i84]].length ≤ 1099511627776)) <|
    go l2 b2 (IntKind.i64.wrap (i1 + 1)) (((l3.drop 0).take l3.length) ++ [AV.agg [AV.int .i64 (IntKind.i64.wrap (1 + i4)), AV.str [], AV.int .i64 i84]]))
    else
    bif b2 then
    (need (decide (0 ≤ (i1 : Int))) <|
    (l2[Int.toNat i1]?).bind fun e44 =>
    asISIA e44 fun i94 s64 i95 =>
    need (!decide (6 = 0)) <|
    bif ((Int.tmod i94 6) : Int) == 5 then
    (need (decide (0 ≤ (i1 : Int))) <|
    (l2[Int.toNat i1]?).bind fun e45 =>
    asISIA e45 fun i96 s65 i97 =>
    (R id_keepText [AV.str s65, AV.int .i64 140]).bind fun r27 =>
    asS r27.v fun s66 =>
    need (decide (((l3.drop 0).take l3.length).length + [AV.agg [AV.int .i64 i96, AV.str s66, AV.int .i64 i97]].length ≤ 1099511627776)) <|
    go l2 b2 (IntKind.i64.wrap (i1 + 1)) (((l3.drop 0).take l3.length) ++ [AV.agg [AV.int .i64 i96, AV.str s66, AV.int .i64 i97]]))
    else
    need (decide (((l3.drop 0).take l3.length).length + [AV.agg [AV.int .i64 (IntKind.i64.wrap (1 + i4)), AV.str [], AV.int .i64 0]].length ≤ 1099511627776)) <|
    go l2 b2 (IntKind.i64.wrap (i1 + 1)) (((l3.drop 0).take l3.length) ++ [AV.agg [AV.int .i64 (IntKind.i64.wrap (1 + i4)), AV.str [], AV.int .i64 0]]))
    else
    need (decide (((l3.drop 0).take l3.length).length + [AV.agg [AV.int .i64 (IntKind.i64.wrap (1 + i4)), AV.str [], AV.int .i64 0]].length ≤ 1099511627776)) <|
    go l2 b2 (IntKind.i64.wrap (i1 + 1)) (((l3.drop 0).take l3.length) ++ [AV.agg [AV.int .i64 (IntKind.i64.wrap (1 + i4)), AV.str [], AV.int .i64 0]]))
    else
    bif ((IntKind.i64.wrap (1 + i4)) : Int) == 1 then
    (need (decide (0 ≤ (i1 : Int))) <|
    (l2[Int.toNat i1]?).bind fun e46 =>
    asISIA e46 fun i98 s67 i99 =>
    need (!decide (9 = 0)) <|
    bif ((Int.tmod i99 9) : Int) != 8 then
    ((R id_keepWithin [AV.int .i64 i99, AV.int .i64 1000000]).bind fun r28 =>
    asI .i64 r28.v fun i100 =>
    bif b2 then
    (need (decide (0 ≤ (i1 : Int))) <|
    (l2[Int.toNat i1]?).bind fun e47 =>
    asISIA e47 fun i101 s68 i102 =>
    need (!decide (6 = 0)) <|
    bif ((Int.tmod i101 6) : Int) == 5 then
    (need (decide (0 ≤ (i1 : Int))) <|
    (l2[Int.toNat i1]?).bind fun e48 =>
    asISIA e48 fun i103 s69 i104 =>
    (R id_keepText [AV.str s69, AV.int .i64 140]).bind fun r29 =>
    asS r29.v fun s70 =>
    need (decide (((l3.drop 0).take l3.length).length + [AV.agg [AV.int .i64 i103, AV.str s70, AV.int .i64 i104]].length ≤ 1099511627776)) <|
    go l2 b2 (IntKind.i64.wrap (i1 + 1)) (((l3.drop 0).take l3.length) ++ [AV.agg [AV.int .i64 i103, AV.str s70, AV.int .i64 i104]]))
    else
    need (decide (((l3.drop 0).take l3.length).length + [AV.agg [AV.int .i64 (IntKind.i64.wrap (1 + i4)), AV.str [], AV.int .i64 i100]].length ≤ 1099511627776)) <|
    go l2 b2 (IntKind.i64.wrap (i1 + 1)) (((l3.drop 0).take l3.length) ++ [AV.agg [AV.int .i64 (IntKind.i64.wrap (1 + i4)), AV.str [], AV.int .i64 i100]]))
    else
    need (decide (((l3.drop 0).take l3.length).length + [AV.agg [AV.int .i64 (IntKind.i64.wrap (1 + i4)), AV.str [], AV.int .i64 i100]].length ≤ 1099511627776)) <|
    go l2 b2 (IntKind.i64.wrap (i1 + 1)) (((l3.drop 0).take l3.length) ++ [AV.agg [AV.int .i64 (IntKind.i64.wrap (1 + i4)), AV.str [], AV.int .i64 i100]]))
    else
    bif b2 then
    (need (decide (0 ≤ (i1 : Int))) <|
    (l2[Int.toNat i1]?).bind fun e49 =>
    asISIA e49 fun i105 s71 i106 =>
    need (!decide (6 = 0)) <|
    bif ((Int.tmod i105 6) : Int) == 5 then
    (need (decide (0 ≤ (i1 : Int))) <|
    (l2[Int.toNat i1]?).bind fun e50 =>
    asISIA e50 fun i107 s72 i108 =>
    (R id_keepText [AV.str s72, AV.int .i64 140]).bind fun r30 =>
    asS r30.v fun s73 =>
    need (decide (((l3.drop 0).take l3.length).length + [AV.agg [AV.int .i64 i107, AV.str s73, AV.int .i64 i108]].length ≤ 1099511627776)) <|
    go l2 b2 (IntKind.i64.wrap (i1 + 1)) (((l3.drop 0).take l3.length) ++ [AV.agg [AV.int .i64 i107, AV.str s73, AV.int .i64 i108]]))
    else
    need (decide (((l3.drop 0).take l3.length).length + [AV.agg [AV.int .i64 (IntKind.i64.wrap (1 + i4)), AV.str [], AV.int .i64 i99]].length ≤ 1099511627776)) <|
    go l2 b2 (IntKind.i64.wrap (i1 + 1)) (((l3.drop 0).take l3.length) ++ [AV.agg [AV.int .i64 (IntKind.i64.wrap (1 + i4)), AV.str [], AV.int .i64 i99]]))
    else
    need (decide (((l3.drop 0).take l3.length).length + [AV.agg [AV.int .i64 (IntKind.i64.wrap (1 + i4)), AV.str [], AV.int .i64 i99]].length ≤ 1099511627776)) <|
    go l2 b2 (IntKind.i64.wrap (i1 + 1)) (((l3.drop 0).take l3.length) ++ [AV.agg [AV.int .i64 (IntKind.i64.wrap (1 + i4)), AV.str [], AV.int .i64 i99]]))
    else
    bif b2 then
    (need (decide (0 ≤ (i1 : Int))) <|
    (l2[Int.toNat i1]?).bind fun e51 =>
    asISIA e51 fun i109 s74 i110 =>
    need (!decide (6 = 0)) <|
    bif ((Int.tmod i109 6) : Int) == 5 then
    (need (decide (0 ≤ (i1 : Int))) <|
    (l2[Int.toNat i1]?).bind fun e52 =>
    asISIA e52 fun i111 s75 i112 =>
    (R id_keepText [AV.str s75, AV.int .i64 140]).bind fun r31 =>
    asS r31.v fun s76 =>
    need (decide (((l3.drop 0).take l3.length).length + [AV.agg [AV.int .i64 i111, AV.str s76, AV.int .i64 i112]].length ≤ 1099511627776)) <|
    go l2 b2 (IntKind.i64.wrap (i1 + 1)) (((l3.drop 0).take l3.length) ++ [AV.agg [AV.int .i64 i111, AV.str s76, AV.int .i64 i112]]))
    else
    need (decide (((l3.drop 0).take l3.length).length + [AV.agg [AV.int .i64 (IntKind.i64.wrap (1 + i4)), AV.str [], AV.int .i64 0]].length ≤ 1099511627776)) <|
    go l2 b2 (IntKind.i64.wrap (i1 + 1)) (((l3.drop 0).take l3.length) ++ [AV.agg [AV.int .i64 (IntKind.i64.wrap (1 + i4)), AV.str [], AV.int .i64 0]]))
    else
    need (decide (((l3.drop 0).take l3.length).length + [AV.agg [AV.int .i64 (IntKind.i64.wrap (1 + i4)), AV.str [], AV.int .i64 0]].length ≤ 1099511627776)) <|
    go l2 b2 (IntKind.i64.wrap (i1 + 1)) (((l3.drop 0).take l3.length) ++ [AV.agg [AV.int .i64 (IntKind.i64.wrap (1 + i4)), AV.str [], AV.int .i64 0]]))
    else
    bif ((IntKind.i64.wrap (1 + i4)) : Int) == 2 then
    (need (decide (0 ≤ (i1 : Int))) <|
    (l2[Int.toNat i1]?).bind fun e53 =>
    asISIA e53 fun i113 s77 i114 =>
    (R id_keepText [AV.str s77, AV.int .i64 140]).bind fun r32 =>
    asS r32.v fun s78 =>
    bif b2 then
    (need (decide (0 ≤ (i1 : Int))) <|
    (l2[Int.toNat i1]?).bind fun e54 =>
    asISIA e54 fun i115 s79 i116 =>
    need (!decide (6 = 0)) <|
    bif ((Int.tmod i115 6) : Int) == 5 then
    (need (decide (0 ≤ (i1 : Int))) <|
    (l2[Int.toNat i1]?).bind fun e55 =>
    asISIA e55 fun i117 s80 i118 =>
    (R id_keepText [AV.str s80, AV.int .i64 140]).bind fun r33 =>
    asS r33.v fun s81 =>
    need (decide (((l3.drop 0).take l3.length).length + [AV.agg [AV.int .i64 i117, AV.str s81, AV.int .i64 i118]].length ≤ 1099511627776)) <|
    go l2 b2 (IntKind.i64.wrap (i1 + 1)) (((l3.drop 0).take l3.length) ++ [AV.agg [AV.int .i64 i117, AV.str s81, AV.int .i64 i118]]))
    else
    need (decide (((l3.drop 0).take l3.length).length + [AV.agg [AV.int .i64 (IntKind.i64.wrap (1 + i4)), AV.str s78, AV.int .i64 0]].length ≤ 1099511627776)) <|
    go l2 b2 (IntKind.i64.wrap (i1 + 1)) (((l3.drop 0).take l3.length) ++ [AV.agg [AV.int .i64 (IntKind.i64.wrap (1 + i4)), AV.str s78, AV.int .i64 0]]))
    else
    need (decide (((l3.drop 0).take l3.length).length + [AV.agg [AV.int .i64 (IntKind.i64.wrap (1 + i4)), AV.str s78, AV.int .i64 0]].length ≤ 1099511627776)) <|
    go l2 b2 (IntKind.i64.wrap (i1 + 1)) (((l3.drop 0).take l3.length) ++ [AV.agg [AV.int .i64 (IntKind.i64.wrap (1 + i4)), AV.str s78, AV.int .i64 0]]))
    else
    bif ((IntKind.i64.wrap (1 + i4)) : Int) == 3 then
    (bif ((IntKind.i64.wrap (1 + i4)) : Int) == 3 then
    (need (decide (0 ≤ (i1 : Int))) <|
    (l2[Int.toNat i1]?).bind fun e56 =>
    asISIA e56 fun i119 s82 i120 =>
    need (!decide (9 = 0)) <|
    bif ((Int.tmod i120 9) : Int) != 8 then
    ((R id_keepWithin [AV.int .i64 i120, AV.int .i64 1000000]).bind fun r34 =>
    asI .i64 r34.v fun i121 =>
    bif b2 then
    (need (decide (0 ≤ (i1 : Int))) <|
    (l2[Int.toNat i1]?).bind fun e57 =>
    asISIA e57 fun i122 s83 i123 =>
    need (!decide (6 = 0)) <|
    bif ((Int.tmod i122 6) : Int) == 5 then
    (need (decide (0 ≤ (i1 : Int))) <|
    (l2[Int.toNat i1]?).bind fun e58 =>
    asISIA e58 fun i124 s84 i125 =>
    (R id_keepText [AV.str s84, AV.int .i64 140]).bind fun r35 =>
    asS r35.v fun s85 =>
    need (decide (((l3.drop 0).take l3.length).length + [AV.agg [AV.int .i64 i124, AV.str s85, AV.int .i64 i125]].length ≤ 1099511627776)) <|
    go l2 b2 (IntKind.i64.wrap (i1 + 1)) (((l3.drop 0).take l3.length) ++ [AV.agg [AV.int .i64 i124, AV.str s85, AV.int .i64 i125]]))
    else
    need (decide (((l3.drop 0).take l3.length).length + [AV.agg [AV.int .i64 (IntKind.i64.wrap (1 + i4)), AV.str [], AV.int .i64 i121]].length ≤ 1099511627776)) <|
    go l2 b2 (IntKind.i64.wrap (i1 + 1)) (((l3.drop 0).take l3.length) ++ [AV.agg [AV.int .i64 (IntKind.i64.wrap (1 + i4)), AV.str [], AV.int .i64 i121]]))
    else
    need (decide (((l3.drop 0).take l3.length).length + [AV.agg [AV.int .i64 (IntKind.i64.wrap (1 + i4)), AV.str [], AV.int .i64 i121]].length ≤ 1099511627776)) <|
    go l2 b2 (IntKind.i64.wrap (i1 + 1)) (((l3.drop 0).take l3.length) ++ [AV.agg [AV.int .i64 (IntKind.i64.wrap (1 + i4)), AV.str [], AV.int .i64 i121]]))
    else
    bif b2 then
    (need (decide (0 ≤ (i1 : Int))) <|
    (l2[Int.toNat i1]?).bind fun e59 =>
    asISIA e59 fun i126 s86 i127 =>
    need (!decide (6 = 0)) <|
    bif ((Int.tmod i126 6) : Int) == 5 then
    (need (decide (0 ≤ (i1 : Int))) <|
    (l2[Int.toNat i1]?).bind fun e60 =>
    asISIA e60 fun i128 s87 i129 =>
    (R id_keepText [AV.str s87, AV.int .i64 140]).bind fun r36 =>
    asS r36.v fun s88 =>
    need (decide (((l3.drop 0).take l3.length).length + [AV.agg [AV.int .i64 i128, AV.str s88, AV.int .i64 i129]].length ≤ 1099511627776)) <|
    go l2 b2 (IntKind.i64.wrap (i1 + 1)) (((l3.drop 0).take l3.length) ++ [AV.agg [AV.int .i64 i128, AV.str s88, AV.int .i64 i129]]))
    else
    need (decide (((l3.drop 0).take l3.length).length + [AV.agg [AV.int .i64 (IntKind.i64.wrap (1 + i4)), AV.str [], AV.int .i64 i120]].length ≤ 1099511627776)) <|
    go l2 b2 (IntKind.i64.wrap (i1 + 1)) (((l3.drop 0).take l3.length) ++ [AV.agg [AV.int .i64 (IntKind.i64.wrap (1 + i4)), AV.str [], AV.int .i64 i120]]))
    else
    need (decide (((l3.drop 0).take l3.length).length + [AV.agg [AV.int .i64 (IntKind.i64.wrap (1 + i4)), AV.str [], AV.int .i64 i120]].length ≤ 1099511627776)) <|
    go l2 b2 (IntKind.i64.wrap (i1 + 1)) (((l3.drop 0).take l3.length) ++ [AV.agg [AV.int .i64 (IntKind.i64.wrap (1 + i4)), AV.str [], AV.int .i64 i120]]))
    else
    bif b2 then
    (need (decide (0 ≤ (i1 : Int))) <|
    (l2[Int.toNat i1]?).bind fun e61 =>
    asISIA e61 fun i130 s89 i131 =>
    need (!decide (6 = 0)) <|
    bif ((Int.tmod i130 6) : Int) == 5 then
    (need (decide (0 ≤ (i1 : Int))) <|
    (l2[Int.toNat i1]?).bind fun e62 =>
    asISIA e62 fun i132 s90 i133 =>
    (R id_keepText [AV.str s90, AV.int .i64 140]).bind fun r37 =>
    asS r37.v fun s91 =>
    need (decide (((l3.drop 0).take l3.length).length + [AV.agg [AV.int .i64 i132, AV.str s91, AV.int .i64 i133]].length ≤ 1099511627776)) <|
    go l2 b2 (IntKind.i64.wrap (i1 + 1)) (((l3.drop 0).take l3.length) ++ [AV.agg [AV.int .i64 i132, AV.str s91, AV.int .i64 i133]]))
    else
    need (decide (((l3.drop 0).take l3.length).length + [AV.agg [AV.int .i64 (IntKind.i64.wrap (1 + i4)), AV.str [], AV.int .i64 0]].length ≤ 1099511627776)) <|
    go l2 b2 (IntKind.i64.wrap (i1 + 1)) (((l3.drop 0).take l3.length) ++ [AV.agg [AV.int .i64 (IntKind.i64.wrap (1 + i4)), AV.str [], AV.int .i64 0]]))
    else
    need (decide (((l3.drop 0).take l3.length).length + [AV.agg [AV.int .i64 (IntKind.i64.wrap (1 + i4)), AV.str [], AV.int .i64 0]].length ≤ 1099511627776)) <|
    go l2 b2 (IntKind.i64.wrap (i1 + 1)) (((l3.drop 0).take l3.length) ++ [AV.agg [AV.int .i64 (IntKind.i64.wrap (1 + i4)), AV.str [], AV.int .i64 0]]))
    else
    bif ((IntKind.i64.wrap (1 + i4)) : Int) == 1 then
    (need (decide (0 ≤ (i1 : Int))) <|
    (l2[Int.toNat i1]?).bind fun e63 =>
    asISIA e63 fun i134 s92 i135 =>
    need (!decide (9 = 0)) <|
    bif ((Int.tmod i135 9) : Int) != 8 then
    ((R id_keepWithin [AV.int .i64 i135, AV.int .i64 1000000]).bind fun r38 =>
    asI .i64 r38.v fun i136 =>
    bif b2 then
    (need (decide (0 ≤ (i1 : Int))) <|
    (l2[Int.toNat i1]?).bind fun e64 =>
    asISIA e64 fun i137 s93 i138 =>
    need (!decide (6 = 0)) <|
    bif ((Int.tmod i137 6) : Int) == 5 then
    (need (decide (0 ≤ (i1 : Int))) <|
    (l2[Int.toNat i1]?).bind fun e65 =>
    asISIA e65 fun i139 s94 i140 =>
    (R id_keepText [AV.str s94, AV.int .i64 140]).bind fun r39 =>
    asS r39.v fun s95 =>
    need (decide (((l3.drop 0).take l3.length).length + [AV.agg [AV.int .i64 i139, AV.str s95, AV.int .i64 i140]].length ≤ 1099511627776)) <|
    go l2 b2 (IntKind.i64.wrap (i1 + 1)) (((l3.drop 0).take l3.length) ++ [AV.agg [AV.int .i64 i139, AV.str s95, AV.int .i64 i140]]))
    else
    need (decide (((l3.drop 0).take l3.length).length + [AV.agg [AV.int .i64 (IntKind.i64.wrap (1 + i4)), AV.str [], AV.int .i64 i136]].length ≤ 1099511627776)) <|
    go l2 b2 (IntKind.i64.wrap (i1 + 1)) (((l3.drop 0).take l3.length) ++ [AV.agg [AV.int .i64 (IntKind.i64.wrap (1 + i4)), AV.str [], AV.int .i64 i136]]))
    else
    need (decide (((l3.drop 0).take l3.length).length + [AV.agg [AV.int .i64 (IntKind.i64.wrap (1 + i4)), AV.str [], AV.int .i64 i136]].length ≤ 1099511627776)) <|
    go l2 b2 (IntKind.i64.wrap (i1 + 1)) (((l3.drop 0).take l3.length) ++ [AV.agg [AV.int .i64 (IntKind.i64.wrap (1 + i4)), AV.str [], AV.int .i64 i136]]))
    else
    bif b2 then
    (need (decide (0 ≤ (i1 : Int))) <|
    (l2[Int.toNat i1]?).bind fun e66 =>
    asISIA e66 fun i141 s96 i142 =>
    need (!decide (6 = 0)) <|
    bif ((Int.tmod i141 6) : Int) == 5 then
    (need (decide (0 ≤ (i1 : Int))) <|
    (l2[Int.toNat i1]?).bind fun e67 =>
    asISIA e67 fun i143 s97 i144 =>
    (R id_keepText [AV.str s97, AV.int .i64 140]).bind fun r40 =>
    asS r40.v fun s98 =>
    need (decide (((l3.drop 0).take l3.length).length + [AV.agg [AV.int .i64 i143, AV.str s98, AV.int .i64 i144]].length ≤ 1099511627776)) <|
    go l2 b2 (IntKind.i64.wrap (i1 + 1)) (((l3.drop 0).take l3.length) ++ [AV.agg [AV.int .i64 i143, AV.str s98, AV.int .i64 i144]]))
    else
    need (decide (((l3.drop 0).take l3.length).length + [AV.agg [AV.int .i64 (IntKind.i64.wrap (1 + i4)), AV.str [], AV.int .i64 i135]].length ≤ 1099511627776)) <|
    go l2 b2 (IntKind.i64.wrap (i1 + 1)) (((l3.drop 0).take l3.length) ++ [AV.agg [AV.int .i64 (IntKind.i64.wrap (1 + i4)), AV.str [], AV.int .i64 i135]]))
    else
    need (decide (((l3.drop 0).take l3.length).length + [AV.agg [AV.int .i64 (IntKind.i64.wrap (1 + i4)), AV.str [], AV.int .i64 i135]].length ≤ 1099511627776)) <|
    go l2 b2 (IntKind.i64.wrap (i1 + 1)) (((l3.drop 0).take l3.length) ++ [AV.agg [AV.int .i64 (IntKind.i64.wrap (1 + i4)), AV.str [], AV.int .i64 i135]]))
    else
    bif b2 then
    (need (decide (0 ≤ (i1 : Int))) <|
    (l2[Int.toNat i1]?).bind fun e68 =>
    asISIA e68 fun i145 s99 i146 =>
    need (!decide (6 = 0)) <|
    bif ((Int.tmod i145 6) : Int) == 5 then
    (need (decide (0 ≤ (i1 : Int))) <|
    (l2[Int.toNat i1]?).bind fun e69 =>
    asISIA e69 fun i147 s100 i148 =>
    (R id_keepText [AV.str s100, AV.int .i64 140]).bind fun r41 =>
    asS r41.v fun s101 =>
    need (decide (((l3.drop 0).take l3.length).length + [AV.agg [AV.int .i64 i147, AV.str s101, AV.int .i64 i148]].length ≤ 1099511627776)) <|
    go l2 b2 (IntKind.i64.wrap (i1 + 1)) (((l3.drop 0).take l3.length) ++ [AV.agg [AV.int .i64 i147, AV.str s101, AV.int .i64 i148]]))
    else
    need (decide (((l3.drop 0).take l3.length).length + [AV.agg [AV.int .i64 (IntKind.i64.wrap (1 + i4)), AV.str [], AV.int .i64 0]].length ≤ 1099511627776)) <|
    go l2 b2 (IntKind.i64.wrap (i1 + 1)) (((l3.drop 0).take l3.length) ++ [AV.agg [AV.int .i64 (IntKind.i64.wrap (1 + i4)), AV.str [], AV.int .i64 0]]))
    else
    need (decide (((l3.drop 0).take l3.length).length + [AV.agg [AV.int .i64 (IntKind.i64.wrap (1 + i4)), AV.str [], AV.int .i64 0]].length ≤ 1099511627776)) <|
    go l2 b2 (IntKind.i64.wrap (i1 + 1)) (((l3.drop 0).take l3.length) ++ [AV.agg [AV.int .i64 (IntKind.i64.wrap (1 + i4)), AV.str [], AV.int .i64 0]]))
    else
    k0 l3)
  else
    k0 l3
def law20Steps_L1 (R : Nat → List AV → Option Res) (N : Nat) (k0 : List AV → Option Res) : Nat → List AV → Bool → Int → List AV → Option Res
  | 0, _, _, _, _ => none
  | n + 1, l2, b2, i1, l3 => law20Steps_L1s R N (law20Steps_L1 R N k0 n) k0 l2 b2 i1 l3
def law20Steps_c0 : AC := .seq (.seq (.region [.op (some 8) none (.mv (.t 6)), .op (some 9) none (.mv (.t 0)), .op (some 10) none (.len (.t 9) false), .op (some 11) none (.bin .lss (.t 8) (.t 10)), .op (some 12) none (.mv (.t 11)), .split 12, .op (some 13) (some (12, true)) (.mv (.t 6)), .op (some 14) (some (12, true)) (.bin .lss (.t 13) (.k (AV.int .i64 36))), .op (some 15) none (.pick (.t 12) (.t 14) (.k (AV.bool false)))]) (.cond (.t 15) (.skip) (.exit 0 [5] [5]))) (.seq (.block 1 (.seq (.region [.op (some 18) none (.mv (.t 0)), .op (some 19) none (.mv (.t 6)), .op (some 20) none (.iaddr (.t 18) (.t 19) 3 (.agg [.int .i64, .str, .int .i64])), .op (some 21) none (.faddr (.t 20) 0), .op (some 22) none (.load (.t 21) none (.int .i64)), .op (some 23) none (.call id_keepWithin [.t 22, .k (AV.int .i64 5)] (.int .i64)), .op (some 24) none (.bin .add (.k (AV.int .i64 1)) (.t 23)), .op (some 25) none (.build [AV.int .i64 0, AV.str [], AV.int .i64 0] [(0, 1, .t 24)]), .op (some 7) none (.alloc 1007 [AV.int .i64 0, AV.str [], AV.int .i64 0]), .op none none (.store (.t 7) (.t 25) 3)]) (.seq (.seq (.region [.op (some 26) none (.faddr (.t 7) 0), .op (some 27) none (.load (.t 26) none (.int .i64)), .op (some 28) none (.bin .eql (.t 27) (.k (AV.int .i64 1))), .op (some 29) none (.mv (.t 28)), .split 29, .op (some 30) (some (29, true)) (.mv (.t 6)), .op (some 31) (some (29, true)) (.bin .gtr (.t 30) (.k (AV.int .i64 0))), .op (some 32) none (.pick (.t 29) (.t 31) (.k (AV.bool false))), .op (some 33) none (.mv (.t 32)), .split 33, .op (some 34) (some (33, true)) (.mv (.t 1)), .op (some 35) (some (33, true)) (.un .not (.t 34)), .op (some 36) none (.pick (.t 33) (.t 35) (.k (AV.bool false)))]) (.cond (.t 36) (.region [.op (some 37) none (.faddr (.t 7) 0), .op none none (.store (.t 37) (.k (AV.int .i64 4)) 1)]) (.skip))) (.seq (.seq (.region [.op (some 38) none (.faddr (.t 7) 0), .op (some 39) none (.load (.t 38) none (.int .i64))]) (.block 2 (.seq (.region [.op (some 41) none (.bin .eql (.t 39) (.k (AV.int .i64 2))), .op (some 40) none (.mv (.t 41))]) (.cond (.t 40) (.region [.op (some 42) none (.mv (.t 0)), .op (some 43) none (.mv (.t 6)), .op (some 44) none (.iaddr (.t 42) (.t 43) 3 (.agg [.int .i64, .str, .int .i64])), .op (some 45) none (.faddr (.t 44) 1), .op (some 46) none (.load (.t 45) none (.str)), .op (some 47) none (.call id_keepText [.t 46, .k (AV.int .i64 140)] (.str)), .op (some 48) none (.faddr (.t 7) 1), .op none none (.store (.t 48) (.t 47) 1)]) (.seq (.seq (.region [.op (some 50) none (.bin .eql (.t 39) (.k (AV.int .i64 3))), .op (some 49) none (.mv (.t 50))]) (.cond (.t 49) (.skip) (.region [.op (some 51) none (.bin .eql (.t 39) (.k (AV.int .i64 1))), .op (some 49) none (.mv (.t 51))]))) (.cond (.t 49) (.seq (.region [.op (some 52) none (.mv (.t 0)), .op (some 53) none (.mv (.t 6)), .op (some 54) none (.iaddr (.t 52) (.t 53) 3 (.agg [.int .i64, .str, .int .i64])), .op (some 55) none (.faddr (.t 54) 2), .op (some 56) none (.load (.t 55) none (.int .i64)), .op (some 57) none (.faddr (.t 7) 2), .op none none (.store (.t 57) (.t 56) 1)]) (.seq (.region [.op (some 58) none (.faddr (.t 7) 2), .op (some 59) none (.load (.t 58) none (.int .i64)), .op (some 60) none (.bin .rem (.t 59) (.k (AV.int .i64 9))), .op (some 61) none (.bin .neq (.t 60) (.k (AV.int .i64 8)))]) (.cond (.t 61) (.region [.op (some 62) none (.faddr (.t 7) 2), .op (some 63) none (.load (.t 62) none (.int .i64)), .op (some 64) none (.call id_keepWithin [.t 63, .k (AV.int .i64 1000000)] (.int .i64)), .op (some 65) none (.faddr (.t 7) 2), .op none none (.store (.t 65) (.t 64) 1)]) (.skip)))) (.skip))))))) (.seq (.seq (.region [.op (some 66) none (.mv (.t 1)), .op (some 67) none (.mv (.t 66)), .split 67, .op (some 68) (some (67, true)) (.mv (.t 0)), .op (some 69) (some (67, true)) (.mv (.t 6)), .op (some 70) (some (67, true)) (.iaddr (.t 68) (.t 69) 3 (.agg [.int .i64, .str, .int .i64])), .op (some 71) (some (67, true)) (.faddr (.t 70) 0), .op (some 72) (some (67, true)) (.load (.t 71) none (.int .i64)), .op (some 73) (some (67, true)) (.bin .rem (.t 72) (.k (AV.int .i64 6))), .op (some 74) (some (67, true)) (.bin .eql (.t 73) (.k (AV.int .i64 5))), .op (some 75) none (.pick (.t 67) (.t 74) (.k (AV.bool false)))]) (.cond (.t 75) (.seq (.region [.op (some 76) none (.mv (.t 0)), .op (some 77) none (.mv (.t 6)), .op (some 78) none (.iaddr (.t 76) (.t 77) 3 (.agg [.int .i64, .str, .int .i64])), .op (some 79) none (.load (.t 78) (some 3) (.agg [.int .i64, .str, .int .i64])), .op none none (.store (.t 7) (.t 79) 3)]) (.region [.op (some 80) none (.faddr (.t 7) 1), .op (some 81) none (.load (.t 80) none (.str)), .op (some 82) none (.call id_keepText [.t 81, .k (AV.int .i64 140)] (.str)), .op (some 83) none (.faddr (.t 7) 1), .op none none (.store (.t 83) (.t 82) 1)])) (.skip))) (.region [.op (some 84) none (.mv (.t 5)), .op (some 85) none (.load (.t 7) (some 3) (.agg [.int .i64, .str, .int .i64])), .op (some 86) none (.bslice [.t 85] 3 false), .op (some 87) none (.app 5 (.t 84) (.t 86) 3 .any false), .op (some 5) none (.mv (.t 87))])))))) (.region [.op (some 16) none (.mv (.t 6)), .op (some 17) none (.bin .add (.t 16) (.k (AV.int .i64 1))), .op (some 6) none (.mv (.t 17))]))
theorem law20Steps_L1s_eq (R : Nat → List AV → Option Res) (N : Nat) (K : Ex → St → Option Res) (W : St → Option Res) (l2 : List AV) (b2 : Bool) (i1 : Int) (l3 : List AV) :
    evC gl R N law20Steps_c0 (Kseq (fun st' => W (prune [0, 1, 5, 6] [5] st')) K) ⟨[(0, .imm (AV.row 3 l2)), (1, .imm (AV.bool b2)), (5, .own 5 0 l3.length none), (6, .imm (AV.int .i64 i1))], [(5, .row 3 l3 false)]⟩ =
    law20Steps_L1s R N (fun (l2 : List AV) (b2 : Bool) (i1 : Int) (l3 : List AV) => W ⟨[(0, .imm (AV.row 3 l2)), (1, .imm (AV.bool b2)), (5, .own 5 0 l3.length none), (6, .imm (AV.int .i64 i1))], [(5, .row 3 l3 false)]⟩) (fun (l4 : List AV) => K (.exit 0) ⟨[(5, .own 5 0 l4.length none)], [(5, .row 3 l4 false)]⟩) l2 b2 i1 l3 := by
  kernel_rfl
theorem law20Steps_L1_eq (R : Nat → List AV → Option Res) (N : Nat) (K : Ex → St → Option Res) : ∀ (n : Nat) (l2 : List AV) (b2 : Bool) (i1 : Int) (l3 : List AV),
    rounds [0, 1, 5, 6] [5] (evC gl R N law20Steps_c0) K n ⟨[(0, .imm (AV.row 3 l2)), (1, .imm (AV.bool b2)), (5, .own 5 0 l3.length none), (6, .imm (AV.int .i64 i1))], [(5, .row 3 l3 false)]⟩ = law20Steps_L1 R N (fun (l4 : List AV) => K (.exit 0) ⟨[(5, .own 5 0 l4.length none)], [(5, .row 3 l4 false)]⟩) n l2 b2 i1 l3
  | 0, _, _, _, _ => rfl
  | n + 1, l2, b2, i1, l3 => (law20Steps_L1s_eq R N K (rounds [0, 1, 5, 6] [5] (evC gl R N law20Steps_c0) K n) l2 b2 i1 l3).trans
      (congrArg (fun go => law20Steps_L1s R N go (fun (l4 : List AV) => K (.exit 0) ⟨[(5, .own 5 0 l4.length none)], [(5, .row 3 l4 false)]⟩) l2 b2 i1 l3) (funext fun l2 => funext fun b2 => funext fun i1 => funext fun l3 => law20Steps_L1_eq R N K n l2 b2 i1 l3))
def law20Steps_c1 : AC := .seq (.region [.op (some 88) none (.mv (.t 5)), .op (some 4) none (.mv (.t 88))]) (.ret [4] [5])
def law20Steps_c2 : AC := .seq (.region [.op (some 4) none (.nilOwn 5 (some (3, .any)))]) (.seq (.region [.op (some 5) none (.nilOwn 5 (some (3, .any)))]) (.seq (.seq (.region [.op (some 6) none (.mv (.k (AV.int .i64 0)))]) (.block 0 (.loop [0, 1, 5, 6] [5] (law20Steps_c0)))) (law20Steps_c1)))
def law20Steps : AFunc := ⟨2, 89, [.tmp 4], law20Steps_c2⟩
def law20Stepsr (R : Nat → List AV → Option Res) (N : Nat) (l1 : List AV) (b1 : Bool) : Option Res :=
  law20Steps_L1 R N
    (fun l6 =>
    some ⟨AV.row 3 ((l6.drop 0).take l6.length), true, []⟩)
    N l1 b1 0 []
theorem law20Steps_eq (R : Nat → List AV → Option Res) (N : Nat) (l1 : List AV) (b1 : Bool) : runF gl R N law20Steps [AV.row 3 l1, AV.bool b1] = law20Stepsr R N l1 b1 := by
  refine Eq.trans (b :=
    rounds [0, 1, 5, 6] [5] (evC gl R N law20Steps_c0) (Kblock 0 (Kthen gl R N law20Steps_c1 (Kret law20Steps.rets []))) N ⟨[(0, .imm (AV.row 3 l1)), (1, .imm (AV.bool b1)), (5, .own 5 0 (([] : List AV).length) none), (6, .imm (AV.int .i64 0))], [(5, .row 3 [] false)]⟩) (by kernel_rfl) ?_
  simp (config := { maxSteps := 100000000 }) only [law20Steps_L1_eq]
  kernel_rfl
theorem law20Steps_fit : fitF Tryd.prog law20Steps Tryd.f9 = true := by
  kernel_rfl

def internalStringsliteHasPrefix_c0 : AC := .seq (.region [.op (some 4) none (.mv (.k (AV.bool false)))]) (.seq (.region [.op (some 5) none (.mv (.t 0)), .op (some 6) none (.len (.t 5) true), .op (some 7) none (.mv (.t 1)), .op (some 8) none (.len (.t 7) true), .op (some 9) none (.bin .geq (.t 6) (.t 8)), .op (some 10) none (.mv (.t 9)), .split 10, .op (some 11) (some (10, true)) (.mv (.t 0)), .op (some 12) (some (10, true)) (.mv (.t 1)), .op (some 13) (some (10, true)) (.len (.t 12) true), .op (some 14) (some (10, true)) (.sliceS (.t 11) none (some (.t 13))), .op (some 15) (some (10, true)) (.mv (.t 1)), .op (some 16) (some (10, true)) (.bin .eql (.t 14) (.t 15)), .op (some 17) none (.pick (.t 10) (.t 16) (.k (AV.bool false))), .op (some 4) none (.mv (.t 17))]) (.ret [4] []))
def internalStringsliteHasPrefix : AFunc := ⟨2, 18, [.tmp 4], internalStringsliteHasPrefix_c0⟩
def internalStringsliteHasPrefixr (R : Nat → List AV → Option Res) (N : Nat) (s1 : List UInt8) (s2 : List UInt8) : Option Res :=
  bif decide ((((s1.length : Nat) : Int) : Int) ≥ ((s2.length : Nat) : Int)) then
    (need (decide (0 ≤ (((s2.length : Nat) : Int) : Int)) && decide ((((s2.length : Nat) : Int) : Int) ≤ ((s1.length : Nat) : Int))) <|
    some ⟨AV.bool (((s1.take (Int.toNat ((s2.length : Nat) : Int))).drop 0) == s2), false, []⟩)
  else
    some ⟨AV.bool false, false, []⟩
theorem internalStringsliteHasPrefix_eq (R : Nat → List AV → Option Res) (N : Nat) (s1 : List UInt8) (s2 : List UInt8) : runF gl R N internalStringsliteHasPrefix [AV.str s1, AV.str s2] = internalStringsliteHasPrefixr R N s1 s2 := by
  kernel_rfl
theorem internalStringsliteHasPrefix_fit : fitF Tryd.prog internalStringsliteHasPrefix Tryd.f64 = true := by
  kernel_rfl

def internalStringsliteCutPrefix_c0 : AC := .seq (.region [.op (some 4) none (.mv (.k (AV.str ([] : List UInt8)))), .op (some 5) none (.mv (.k (AV.bool false)))]) (.seq (.seq (.region [.op (some 6) none (.mv (.t 0)), .op (some 7) none (.mv (.t 1)), .op (some 8) none (.call id_internalStringsliteHasPrefix [.t 6, .t 7] (.bool)), .op (some 9) none (.un .not (.t 8))]) (.cond (.t 9) (.seq (.region [.op (some 10) none (.mv (.t 0)), .op (some 4) none (.mv (.t 10)), .op (some 5) none (.mv (.k (AV.bool false)))]) (.ret [4, 5] [])) (.skip))) (.seq (.region [.op (some 11) none (.mv (.t 0)), .op (some 12) none (.mv (.t 1)), .op (some 13) none (.len (.t 12) true), .op (some 14) none (.sliceS (.t 11) (some (.t 13)) none), .op (some 4) none (.mv (.t 14)), .op (some 5) none (.mv (.k (AV.bool true)))]) (.ret [4, 5] [])))
def internalStringsliteCutPrefix : AFunc := ⟨2, 15, [.tmp 4, .tmp 5], internalStringsliteCutPrefix_c0⟩
def internalStringsliteCutPrefixr (R : Nat → List AV → Option Res) (N : Nat) (s1 : List UInt8) (s2 : List UInt8) : Option Res :=
  (R id_internalStringsliteHasPrefix [AV.str s1, AV.str s2]).bind fun r1 =>
  asB r1.v fun b1 =>
  bif !b1 then
    (some ⟨AV.tup [AV.str s1, AV.bool false], false, []⟩)
  else
    need (decide (0 ≤ (((s2.length : Nat) : Int) : Int)) && decide ((((s2.length : Nat) : Int) : Int) ≤ ((s1.length : Nat) : Int))) <|
    some ⟨AV.tup [AV.str ((s1.take s1.length).drop (Int.toNat ((s2.length : Nat) : Int))), AV.bool true], false, []⟩
theorem internalStringsliteCutPrefix_eq (R : Nat → List AV → Option Res) (N : Nat) (s1 : List UInt8) (s2 : List UInt8) : runF gl R N internalStringsliteCutPrefix [AV.str s1, AV.str s2] = internalStringsliteCutPrefixr R N s1 s2 := by
  kernel_rfl
theorem internalStringsliteCutPrefix_fit : fitF Tryd.prog internalStringsliteCutPrefix Tryd.f53 = true := by
  kernel_rfl

def stringsCutPrefix_c0 : AC := .seq (.region [.op (some 4) none (.mv (.k (AV.str ([] : List UInt8)))), .op (some 5) none (.mv (.k (AV.bool false)))]) (.seq (.region [.op (some 6) none (.mv (.t 0)), .op (some 7) none (.mv (.t 1)), .op (some 8) none (.call id_internalStringsliteCutPrefix [.t 6, .t 7] (.tup [.str, .bool])), .op (some 9) none (.extract (.t 8) 0), .op (some 10) none (.extract (.t 8) 1), .op (some 4) none (.mv (.t 9)), .op (some 5) none (.mv (.t 10))]) (.ret [4, 5] []))
def stringsCutPrefix : AFunc := ⟨2, 11, [.tmp 4, .tmp 5], stringsCutPrefix_c0⟩
def stringsCutPrefixr (R : Nat → List AV → Option Res) (N : Nat) (s1 : List UInt8) (s2 : List UInt8) : Option Res :=
  (R id_internalStringsliteCutPrefix [AV.str s1, AV.str s2]).bind fun r1 =>
  asSBT r1.v fun s3 b1 =>
  some ⟨AV.tup [AV.str s3, AV.bool b1], false, []⟩
theorem stringsCutPrefix_eq (R : Nat → List AV → Option Res) (N : Nat) (s1 : List UInt8) (s2 : List UInt8) : runF gl R N stringsCutPrefix [AV.str s1, AV.str s2] = stringsCutPrefixr R N s1 s2 := by
  kernel_rfl
theorem stringsCutPrefix_fit : fitF Tryd.prog stringsCutPrefix Tryd.f39 = true := by
  kernel_rfl

def charsDigit_c0 : AC := .seq (.region [.op (some 2) none (.mv (.k (AV.bool false)))]) (.seq (.region [.op (some 3) none (.mv (.t 0)), .op (some 4) none (.bin .geq (.t 3) (.k (AV.int .u8 48))), .op (some 5) none (.mv (.t 4)), .split 5, .op (some 6) (some (5, true)) (.mv (.t 0)), .op (some 7) (some (5, true)) (.bin .leq (.t 6) (.k (AV.int .u8 57))), .op (some 8) none (.pick (.t 5) (.t 7) (.k (AV.bool false))), .op (some 2) none (.mv (.t 8))]) (.ret [2] []))
def charsDigit : AFunc := ⟨1, 9, [.tmp 2], charsDigit_c0⟩
def charsDigitr (R : Nat → List AV → Option Res) (N : Nat) (i1 : Int) : Option Res :=
  bif decide ((i1 : Int) ≥ 48) then
    (some ⟨AV.bool (decide ((i1 : Int) ≤ 57)), false, []⟩)
  else
    some ⟨AV.bool false, false, []⟩
theorem charsDigit_eq (R : Nat → List AV → Option Res) (N : Nat) (i1 : Int) : runF gl R N charsDigit [AV.int .u8 i1] = charsDigitr R N i1 := by
  kernel_rfl
theorem charsDigit_fit : fitF Tryd.prog charsDigit Tryd.f54 = true := by
  kernel_rfl

def pathNumber_L1s (R : Nat → List AV → Option Res) (N : Nat) (go : List UInt8 → Int → Option Res) (k0 : List UInt8 → Int → Option Res) (s2 : List UInt8) (i1 : Int) : Option Res :=
  bif decide ((i1 : Int) < ((s2.length : Nat) : Int)) then
    (need (decide (0 ≤ (i1 : Int))) <|
    (s2[Int.toNat i1]?).bind fun c1 =>
    (R id_charsDigit [AV.int .u8 (c1.toNat : Int)]).bind fun r1 =>
    asB r1.v fun b1 =>
    bif b1 then
    (go s2 (IntKind.i64.wrap (i1 + 1)))
    else
    k0 s2 i1)
  else
    k0 s2 i1
def pathNumber_L1 (R : Nat → List AV → Option Res) (N : Nat) (k0 : List UInt8 → Int → Option Res) : Nat → List UInt8 → Int → Option Res
  | 0, _, _ => none
  | n + 1, s2, i1 => pathNumber_L1s R N (pathNumber_L1 R N k0 n) k0 s2 i1
def pathNumber_c0 : AC := .seq (.seq (.region [.op (some 8) none (.mv (.t 5)), .op (some 9) none (.mv (.t 0)), .op (some 10) none (.len (.t 9) true), .op (some 11) none (.bin .lss (.t 8) (.t 10)), .op (some 12) none (.mv (.t 11)), .split 12, .op (some 13) (some (12, true)) (.mv (.t 0)), .op (some 14) (some (12, true)) (.mv (.t 5)), .op (some 15) (some (12, true)) (.index (.t 13) (.t 14)), .op (some 16) (some (12, true)) (.call id_charsDigit [.t 15] (.bool)), .op (some 17) none (.pick (.t 12) (.t 16) (.k (AV.bool false)))]) (.cond (.t 17) (.skip) (.exit 0 [0, 5] []))) (.block 1 (.region [.op (some 18) none (.mv (.t 5)), .op (some 19) none (.bin .add (.t 18) (.k (AV.int .i64 1))), .op (some 5) none (.mv (.t 19))]))
theorem pathNumber_L1s_eq (R : Nat → List AV → Option Res) (N : Nat) (K : Ex → St → Option Res) (W : St → Option Res) (s2 : List UInt8) (i1 : Int) :
    evC gl R N pathNumber_c0 (Kseq (fun st' => W (prune [0, 5] [] st')) K) ⟨[(0, .imm (AV.str s2)), (5, .imm (AV.int .i64 i1))], []⟩ =
    pathNumber_L1s R N (fun (s2 : List UInt8) (i1 : Int) => W ⟨[(0, .imm (AV.str s2)), (5, .imm (AV.int .i64 i1))], []⟩) (fun (s3 : List UInt8) (i2 : Int) => K (.exit 0) ⟨[(0, .imm (AV.str s3)), (5, .imm (AV.int .i64 i2))], []⟩) s2 i1 := by
  kernel_rfl
theorem pathNumber_L1_eq (R : Nat → List AV → Option Res) (N : Nat) (K : Ex → St → Option Res) : ∀ (n : Nat) (s2 : List UInt8) (i1 : Int),
    rounds [0, 5] [] (evC gl R N pathNumber_c0) K n ⟨[(0, .imm (AV.str s2)), (5, .imm (AV.int .i64 i1))], []⟩ = pathNumber_L1 R N (fun (s3 : List UInt8) (i2 : Int) => K (.exit 0) ⟨[(0, .imm (AV.str s3)), (5, .imm (AV.int .i64 i2))], []⟩) n s2 i1
  | 0, _, _ => rfl
  | n + 1, s2, i1 => (pathNumber_L1s_eq R N K (rounds [0, 5] [] (evC gl R N pathNumber_c0) K n) s2 i1).trans
      (congrArg (fun go => pathNumber_L1s R N go (fun (s3 : List UInt8) (i2 : Int) => K (.exit 0) ⟨[(0, .imm (AV.str s3)), (5, .imm (AV.int .i64 i2))], []⟩) s2 i1) (funext fun s2 => funext fun i1 => pathNumber_L1_eq R N K n s2 i1))
def pathNumber_c1 : AC := .seq (.seq (.region [.op (some 20) none (.mv (.t 5)), .op (some 21) none (.bin .lss (.t 20) (.k (AV.int .i64 1))), .op (some 22) none (.mv (.t 21)), .split 22, .op (some 23) (some (22, false)) (.mv (.t 5)), .op (some 24) (some (22, false)) (.bin .gtr (.t 23) (.k (AV.int .i64 6))), .op (some 25) none (.pick (.t 22) (.k (AV.bool true)) (.t 24)), .op (some 26) none (.mv (.t 25)), .split 26, .op (some 27) (some (26, false)) (.mv (.t 5)), .op (some 28) (some (26, false)) (.bin .gtr (.t 27) (.k (AV.int .i64 1))), .op (some 29) (some (26, false)) (.mv (.t 28)), .split 29, .op (some 30) (some (29, true)) (.mv (.t 0)), .op (some 31) (some (29, true)) (.index (.t 30) (.k (AV.int .i64 0))), .op (some 32) (some (29, true)) (.bin .eql (.t 31) (.k (AV.int .u8 48))), .op (some 33) (some (26, false)) (.pick (.t 29) (.t 32) (.k (AV.bool false))), .op (some 34) none (.pick (.t 26) (.k (AV.bool true)) (.t 33))]) (.cond (.t 34) (.seq (.region [.op (some 2) none (.mv (.k (AV.int .i64 0))), .op (some 3) none (.mv (.k (AV.str ([] : List UInt8)))), .op (some 4) none (.mv (.k (AV.bool false)))]) (.ret [2, 3, 4] [])) (.skip))) (.seq (.region [.op (some 36) none (.mv (.t 0)), .op (some 37) none (.mv (.t 5)), .op (some 38) none (.sliceS (.t 36) none (some (.t 37))), .op (some 39) none (.call id_strconvAtoi [.t 38] (.tup [.int .i64, .any])), .op (some 35) none (.mv (.t 39)), .op (some 40) none (.extract (.t 35) 0), .op (some 41) none (.extract (.t 35) 1), .op (some 6) none (.mv (.t 40)), .op (some 7) none (.mv (.t 41))]) (.seq (.regionD [2, 3, 4] [] [.op (some 42) none (.mv (.t 6)), .op (some 43) none (.mv (.t 0)), .op (some 44) none (.mv (.t 5)), .op (some 45) none (.sliceS (.t 43) (some (.t 44)) none), .op (some 46) none (.mv (.t 7)), .op (some 47) none (.isNil false (.t 46) true), .op (some 2) none (.mv (.t 42)), .op (some 3) none (.mv (.t 45)), .op (some 4) none (.mv (.t 47))] []) (.ret [2, 3, 4] [])))
def pathNumber_c2 : AC := .seq (.region [.op (some 2) none (.mv (.k (AV.int .i64 0))), .op (some 3) none (.mv (.k (AV.str ([] : List UInt8)))), .op (some 4) none (.mv (.k (AV.bool false)))]) (.seq (.region [.op (some 5) none (.mv (.k (AV.int .i64 0)))]) (.seq (.block 0 (.loop [0, 5] [] (pathNumber_c0))) (pathNumber_c1)))
def pathNumber : AFunc := ⟨1, 48, [.tmp 2, .tmp 3, .tmp 4], pathNumber_c2⟩
def pathNumberr (R : Nat → List AV → Option Res) (N : Nat) (s1 : List UInt8) : Option Res :=
  pathNumber_L1 R N
    (fun s5 i4 =>
    bif decide ((i4 : Int) < 1) then
    (some ⟨AV.tup [AV.int .i64 0, AV.str ([] : List UInt8), AV.bool false], false, []⟩)
    else
    bif decide ((i4 : Int) > 6) then
    (some ⟨AV.tup [AV.int .i64 0, AV.str ([] : List UInt8), AV.bool false], false, []⟩)
    else
    bif decide ((i4 : Int) > 1) then
    (need (decide (0 ≤ (0 : Int))) <|
    (s5[Int.toNat 0]?).bind fun c2 =>
    bif ((c2.toNat : Int) : Int) == 48 then
    (some ⟨AV.tup [AV.int .i64 0, AV.str ([] : List UInt8), AV.bool false], false, []⟩)
    else
    need (decide (0 ≤ (i4 : Int)) && decide ((i4 : Int) ≤ ((s5.length : Nat) : Int))) <|
    (R id_strconvAtoi [AV.str ((s5.take (Int.toNat i4)).drop 0)]).bind fun r2 =>
    asIVT r2.v fun i5 v1 =>
    need (decide (0 ≤ (i4 : Int)) && decide ((i4 : Int) ≤ ((s5.length : Nat) : Int))) <|
    asNil v1 <|
    some ⟨AV.tup [AV.int .i64 i5, AV.str ((s5.take s5.length).drop (Int.toNat i4)), AV.bool true], false, []⟩)
    else
    need (decide (0 ≤ (i4 : Int)) && decide ((i4 : Int) ≤ ((s5.length : Nat) : Int))) <|
    (R id_strconvAtoi [AV.str ((s5.take (Int.toNat i4)).drop 0)]).bind fun r3 =>
    asIVT r3.v fun i6 v2 =>
    need (decide (0 ≤ (i4 : Int)) && decide ((i4 : Int) ≤ ((s5.length : Nat) : Int))) <|
    asNil v2 <|
    some ⟨AV.tup [AV.int .i64 i6, AV.str ((s5.take s5.length).drop (Int.toNat i4)), AV.bool true], false, []⟩)
    N s1 0
theorem pathNumber_eq (R : Nat → List AV → Option Res) (N : Nat) (s1 : List UInt8) : runF gl R N pathNumber [AV.str s1] = pathNumberr R N s1 := by
  refine Eq.trans (b :=
    rounds [0, 5] [] (evC gl R N pathNumber_c0) (Kblock 0 (Kthen gl R N pathNumber_c1 (Kret pathNumber.rets []))) N ⟨[(0, .imm (AV.str s1)), (5, .imm (AV.int .i64 0))], []⟩) (by kernel_rfl) ?_
  simp (config := { maxSteps := 100000000 }) only [pathNumber_L1_eq]
  kernel_rfl
theorem pathNumber_fit : fitF Tryd.prog pathNumber Tryd.f40 = true := by
  kernel_rfl

def pathFirst_c0 : AC := .seq (.region [.op (some 2) none (.nilOwn 36 (some (3, .any))), .op (some 3) none (.mv (.k (AV.str ([] : List UInt8)))), .op (some 4) none (.mv (.k (AV.bool false)))]) (.seq (.region [.op (some 12) none (.mv (.t 0)), .op (some 13) none (.call id_stringsCutPrefix [.t 12, .k (AV.str ([64] : List UInt8))] (.tup [.str, .bool])), .op (some 11) none (.mv (.t 13)), .op (some 14) none (.extract (.t 11) 0), .op (some 15) none (.extract (.t 11) 1), .op (some 5) none (.mv (.t 14)), .op (some 6) none (.mv (.t 15))]) (.seq (.seq (.region [.op (some 16) none (.mv (.t 6)), .op (some 17) none (.un .not (.t 16))]) (.cond (.t 17) (.seq (.region [.op (some 18) none (.mv (.t 0)), .op (some 2) none (.nilOwn 36 (some (3, .any))), .op (some 3) none (.mv (.t 18)), .op (some 4) none (.mv (.k (AV.bool true)))]) (.ret [2, 3, 4] [36])) (.skip))) (.seq (.seq (.region [.op (some 20) none (.mv (.t 5)), .op (some 21) none (.call id_stringsCutPrefix [.t 20, .k (AV.str ([42] : List UInt8))] (.tup [.str, .bool])), .op (some 19) none (.mv (.t 21)), .op (some 22) none (.extract (.t 19) 0), .op (some 23) none (.extract (.t 19) 1), .op (some 7) none (.mv (.t 22)), .op (some 8) none (.mv (.t 23))]) (.seq (.region [.op (some 24) none (.mv (.t 8))]) (.cond (.t 24) (.seq (.region [.op (some 25) none (.build [AV.int .i64 0, AV.str [], AV.int .i64 0] [(0, 1, .k (AV.int .i64 1)), (2, 1, .k (AV.int .i64 (-1)))]), .op (some 26) none (.bsliceOwn 36 [.t 25] 3 .any false), .op (some 27) none (.mv (.t 7)), .op (some 2) none (.mv (.t 26)), .op (some 3) none (.mv (.t 27)), .op (some 4) none (.mv (.k (AV.bool true)))]) (.ret [2, 3, 4] [36])) (.skip)))) (.seq (.region [.op (some 29) none (.mv (.t 5)), .op (some 30) none (.call id_pathNumber [.t 29] (.tup [.int .i64, .str, .bool])), .op (some 28) none (.mv (.t 30)), .op (some 31) none (.extract (.t 28) 0), .op (some 32) none (.extract (.t 28) 1), .op (some 33) none (.extract (.t 28) 2), .op (some 9) none (.mv (.t 31)), .op (some 5) none (.mv (.t 32)), .op (some 10) none (.mv (.t 33))]) (.seq (.region [.op (some 34) none (.mv (.t 9)), .op (some 35) none (.build [AV.int .i64 0, AV.str [], AV.int .i64 0] [(0, 1, .k (AV.int .i64 1)), (2, 1, .t 34)]), .op (some 36) none (.bsliceOwn 36 [.t 35] 3 .any false), .op (some 37) none (.mv (.t 5)), .op (some 38) none (.mv (.t 10)), .op (some 2) none (.mv (.t 36)), .op (some 3) none (.mv (.t 37)), .op (some 4) none (.mv (.t 38))]) (.ret [2, 3, 4] [36]))))))
def pathFirst : AFunc := ⟨1, 39, [.own 2, .tmp 3, .tmp 4], pathFirst_c0⟩
def pathFirstr (R : Nat → List AV → Option Res) (N : Nat) (s1 : List UInt8) : Option Res :=
  (R id_stringsCutPrefix [AV.str s1, AV.str ([64] : List UInt8)]).bind fun r1 =>
  asSBT r1.v fun s2 b1 =>
  bif !b1 then
    (some ⟨AV.tup [AV.row 3 ((([] : List AV).drop 0).take 0), AV.str s1, AV.bool true], true, []⟩)
  else
    (R id_stringsCutPrefix [AV.str s2, AV.str ([42] : List UInt8)]).bind fun r2 =>
    asSBT r2.v fun s3 b2 =>
    bif b2 then
    (some ⟨AV.tup [AV.row 3 ((([AV.agg [AV.int .i64 1, AV.str [], AV.int .i64 (-1)]] : List AV).drop 0).take 1), AV.str s3, AV.bool true], true, []⟩)
    else
    (R id_pathNumber [AV.str s2]).bind fun r3 =>
    asISBT r3.v fun i1 s4 b3 =>
    some ⟨AV.tup [AV.row 3 ((([AV.agg [AV.int .i64 1, AV.str [], AV.int .i64 i1]] : List AV).drop 0).take 1), AV.str s4, AV.bool b3], true, []⟩
theorem pathFirst_eq (R : Nat → List AV → Option Res) (N : Nat) (s1 : List UInt8) : runF gl R N pathFirst [AV.str s1] = pathFirstr R N s1 := by
  kernel_rfl
theorem pathFirst_fit : fitF Tryd.prog pathFirst Tryd.f25 = true := by
  kernel_rfl

def doubleRunes_c0 : AC := .seq (.region [.op (some 0) none (.mv (.k (AV.row 1 [])))]) (.seq (.region [.op (some 1) none (.bslice [.k (AV.int .i32 0), .k (AV.int .i32 7), .k (AV.int .i32 8), .k (AV.int .i32 9), .k (AV.int .i32 10), .k (AV.int .i32 11), .k (AV.int .i32 12), .k (AV.int .i32 13), .k (AV.int .i32 27), .k (AV.int .i32 133), .k (AV.int .i32 160), .k (AV.int .i32 8232), .k (AV.int .i32 8233)] 1 false), .op (some 0) none (.mv (.t 1))]) (.ret [0] []))
def doubleRunes : AFunc := ⟨0, 2, [.tmp 0], doubleRunes_c0⟩
def doubleRunesr (R : Nat → List AV → Option Res) (N : Nat) : Option Res :=
  some ⟨AV.row 1 [AV.int .i32 0, AV.int .i32 7, AV.int .i32 8, AV.int .i32 9, AV.int .i32 10, AV.int .i32 11, AV.int .i32 12, AV.int .i32 13, AV.int .i32 27, AV.int .i32 133, AV.int .i32 160, AV.int .i32 8232, AV.int .i32 8233], false, []⟩
theorem doubleRunes_eq (R : Nat → List AV → Option Res) (N : Nat) : runF gl R N doubleRunes [] = doubleRunesr R N := by
  kernel_rfl
theorem doubleRunes_fit : fitF Tryd.prog doubleRunes Tryd.f61 = true := by
  kernel_rfl

def internalStringsliteIndexByte_c0 : AC := .seq (.region [.op (some 4) none (.mv (.k (AV.int .i64 0)))]) (.seq (.region [.op (some 5) none (.mv (.t 0)), .op (some 6) none (.mv (.t 1)), .op (some 7) none (.call id_internalBytealgIndexByteString [.t 5, .t 6] (.int .i64)), .op (some 4) none (.mv (.t 7))]) (.ret [4] []))
def internalStringsliteIndexByte : AFunc := ⟨2, 8, [.tmp 4], internalStringsliteIndexByte_c0⟩
def internalStringsliteIndexByter (R : Nat → List AV → Option Res) (N : Nat) (s1 : List UInt8) (i1 : Int) : Option Res :=
  (R id_internalBytealgIndexByteString [AV.str s1, AV.int .u8 i1]).bind fun r1 =>
  asI .i64 r1.v fun i2 =>
  some ⟨AV.int .i64 i2, false, []⟩
theorem internalStringsliteIndexByte_eq (R : Nat → List AV → Option Res) (N : Nat) (s1 : List UInt8) (i1 : Int) : runF gl R N internalStringsliteIndexByte [AV.str s1, AV.int .u8 i1] = internalStringsliteIndexByter R N s1 i1 := by
  kernel_rfl
theorem internalStringsliteIndexByte_fit : fitF Tryd.prog internalStringsliteIndexByte Tryd.f81 = true := by
  kernel_rfl

def stringsIndexByte_c0 : AC := .seq (.region [.op (some 4) none (.mv (.k (AV.int .i64 0)))]) (.seq (.region [.op (some 5) none (.mv (.t 0)), .op (some 6) none (.mv (.t 1)), .op (some 7) none (.call id_internalStringsliteIndexByte [.t 5, .t 6] (.int .i64)), .op (some 4) none (.mv (.t 7))]) (.ret [4] []))
def stringsIndexByte : AFunc := ⟨2, 8, [.tmp 4], stringsIndexByte_c0⟩
def stringsIndexByter (R : Nat → List AV → Option Res) (N : Nat) (s1 : List UInt8) (i1 : Int) : Option Res :=
  (R id_internalStringsliteIndexByte [AV.str s1, AV.int .u8 i1]).bind fun r1 =>
  asI .i64 r1.v fun i2 =>
  some ⟨AV.int .i64 i2, false, []⟩
theorem stringsIndexByte_eq (R : Nat → List AV → Option Res) (N : Nat) (s1 : List UInt8) (i1 : Int) : runF gl R N stringsIndexByte [AV.str s1, AV.int .u8 i1] = stringsIndexByter R N s1 i1 := by
  kernel_rfl
theorem stringsIndexByte_fit : fitF Tryd.prog stringsIndexByte Tryd.f67 = true := by
  kernel_rfl

def doubleDigits_c0 : AC := .seq (.region [.op (some 2) none (.mv (.k (AV.int .i64 0)))]) (.seq (.seq (.region [.op (some 3) none (.mv (.t 0))]) (.block 0 (.seq (.region [.op (some 5) none (.bin .eql (.t 3) (.k (AV.int .u8 120))), .op (some 4) none (.mv (.t 5))]) (.cond (.t 4) (.seq (.region [.op (some 2) none (.mv (.k (AV.int .i64 2)))]) (.ret [2] [])) (.seq (.region [.op (some 7) none (.bin .eql (.t 3) (.k (AV.int .u8 117))), .op (some 6) none (.mv (.t 7))]) (.cond (.t 6) (.seq (.region [.op (some 2) none (.mv (.k (AV.int .i64 4)))]) (.ret [2] [])) (.seq (.region [.op (some 9) none (.bin .eql (.t 3) (.k (AV.int .u8 85))), .op (some 8) none (.mv (.t 9))]) (.cond (.t 8) (.seq (.region [.op (some 2) none (.mv (.k (AV.int .i64 8)))]) (.ret [2] [])) (.skip))))))))) (.seq (.region [.op (some 2) none (.mv (.k (AV.int .i64 0)))]) (.ret [2] [])))
def doubleDigits : AFunc := ⟨1, 10, [.tmp 2], doubleDigits_c0⟩
def doubleDigitsr (R : Nat → List AV → Option Res) (N : Nat) (i1 : Int) : Option Res :=
  bif (i1 : Int) == 120 then
    (some ⟨AV.int .i64 2, false, []⟩)
  else
    bif (i1 : Int) == 117 then
    (some ⟨AV.int .i64 4, false, []⟩)
    else
    bif (i1 : Int) == 85 then
    (some ⟨AV.int .i64 8, false, []⟩)
    else
    some ⟨AV.int .i64 0, false, []⟩
theorem doubleDigits_eq (R : Nat → List AV → Option Res) (N : Nat) (i1 : Int) : runF gl R N doubleDigits [AV.int .u8 i1] = doubleDigitsr R N i1 := by
  kernel_rfl
theorem doubleDigits_fit : fitF Tryd.prog doubleDigits Tryd.f68 = true := by
  kernel_rfl

def doubleNumber_L1s (R : Nat → List AV → Option Res) (N : Nat) (go : Int → List UInt8 → Int → Int → Option Res) (k0 : Int → Bool → Option Res) (k1 : Int → Option Res) (i2 : Int) (s2 : List UInt8) (i3 : Int) (i4 : Int) : Option Res :=
  bif decide ((i4 : Int) < i3) then
    (need (decide (0 ≤ (i4 : Int))) <|
    (s2[Int.toNat i4]?).bind fun c1 =>
    bif decide (((c1.toNat : Int) : Int) ≥ 97) then
    (bif decide (((c1.toNat : Int) : Int) ≤ 102) then
    ((R id_stringsIndexByte [AV.str ([48, 49, 50, 51, 52, 53, 54, 55, 56, 57, 65, 66, 67, 68, 69, 70] : List UInt8), AV.int .u8 (IntKind.u8.wrap ((IntKind.u8.wrap ((c1.toNat : Int) - 97)) + 65))]).bind fun r1 =>
    asI .i64 r1.v fun i5 =>
    bif decide ((i5 : Int) < 0) then
    (k0 0 false)
    else
    need (!decide (4 < 0)) <|
    go (IntKind.u32.wrap (BitVec.ofInt IntKind.u32.bits (IntKind.u32.wrap (i2 * 2 ^ (min (Int.toNat 4) IntKind.u32.bits))) ||| BitVec.ofInt IntKind.u32.bits (IntKind.u32.wrap i5)).toNat) s2 i3 (IntKind.i64.wrap (i4 + 1)))
    else
    (R id_stringsIndexByte [AV.str ([48, 49, 50, 51, 52, 53, 54, 55, 56, 57, 65, 66, 67, 68, 69, 70] : List UInt8), AV.int .u8 (c1.toNat : Int)]).bind fun r2 =>
    asI .i64 r2.v fun i6 =>
    bif decide ((i6 : Int) < 0) then
    (k0 0 false)
    else
    need (!decide (4 < 0)) <|
    go (IntKind.u32.wrap (BitVec.ofInt IntKind.u32.bits (IntKind.u32.wrap (i2 * 2 ^ (min (Int.toNat 4) IntKind.u32.bits))) ||| BitVec.ofInt IntKind.u32.bits (IntKind.u32.wrap i6)).toNat) s2 i3 (IntKind.i64.wrap (i4 + 1)))
    else
    (R id_stringsIndexByte [AV.str ([48, 49, 50, 51, 52, 53, 54, 55, 56, 57, 65, 66, 67, 68, 69, 70] : List UInt8), AV.int .u8 (c1.toNat : Int)]).bind fun r3 =>
    asI .i64 r3.v fun i7 =>
    bif decide ((i7 : Int) < 0) then
    (k0 0 false)
    else
    need (!decide (4 < 0)) <|
    go (IntKind.u32.wrap (BitVec.ofInt IntKind.u32.bits (IntKind.u32.wrap (i2 * 2 ^ (min (Int.toNat 4) IntKind.u32.bits))) ||| BitVec.ofInt IntKind.u32.bits (IntKind.u32.wrap i7)).toNat) s2 i3 (IntKind.i64.wrap (i4 + 1)))
  else
    k1 i2
def doubleNumber_L1 (R : Nat → List AV → Option Res) (N : Nat) (k0 : Int → Bool → Option Res) (k1 : Int → Option Res) : Nat → Int → List UInt8 → Int → Int → Option Res
  | 0, _, _, _, _ => none
  | n + 1, i2, s2, i3, i4 => doubleNumber_L1s R N (doubleNumber_L1 R N k0 k1 n) k0 k1 i2 s2 i3 i4
def doubleNumber_c0 : AC := .seq (.region [.op (some 19) none (.bin .lss (.t 18) (.t 17))]) (.seq (.cond (.t 19) (.skip) (.exit 0 [6] [])) (.seq (.block 1 (.seq (.region [.op (some 20) none (.iaddr (.t 16) (.t 18) 1 (.int .u8)), .op (some 21) none (.load (.t 20) none (.int .u8)), .op (some 8) none (.mv (.t 21))]) (.seq (.seq (.region [.op (some 22) none (.mv (.t 8)), .op (some 23) none (.bin .geq (.t 22) (.k (AV.int .u8 97))), .op (some 24) none (.mv (.t 23)), .split 24, .op (some 25) (some (24, true)) (.mv (.t 8)), .op (some 26) (some (24, true)) (.bin .leq (.t 25) (.k (AV.int .u8 102))), .op (some 27) none (.pick (.t 24) (.t 26) (.k (AV.bool false)))]) (.cond (.t 27) (.region [.op (some 28) none (.mv (.t 8)), .op (some 29) none (.bin .sub (.t 28) (.k (AV.int .u8 97))), .op (some 30) none (.bin .add (.t 29) (.k (AV.int .u8 65))), .op (some 8) none (.mv (.t 30))]) (.skip))) (.seq (.region [.op (some 31) none (.mv (.t 8)), .op (some 32) none (.call id_stringsIndexByte [.k (AV.str ([48, 49, 50, 51, 52, 53, 54, 55, 56, 57, 65, 66, 67, 68, 69, 70] : List UInt8)), .t 31] (.int .i64)), .op (some 9) none (.mv (.t 32))]) (.seq (.seq (.region [.op (some 33) none (.mv (.t 9)), .op (some 34) none (.bin .lss (.t 33) (.k (AV.int .i64 0)))]) (.cond (.t 34) (.seq (.region [.op (some 4) none (.mv (.k (AV.int .u32 0))), .op (some 5) none (.mv (.k (AV.bool false)))]) (.ret [4, 5] [])) (.skip))) (.region [.op (some 35) none (.mv (.t 6)), .op (some 36) none (.bin .shl (.t 35) (.k (AV.int .u64 4))), .op (some 37) none (.mv (.t 9)), .op (some 38) none (.cvInt .u32 (.t 37)), .op (some 39) none (.bin .or (.t 36) (.t 38)), .op (some 6) none (.mv (.t 39))])))))) (.region [.op (some 40) none (.bin .add (.t 18) (.k (AV.int .i64 1))), .op (some 18) none (.mv (.t 40))])))
theorem doubleNumber_L1s_eq (R : Nat → List AV → Option Res) (N : Nat) (K : Ex → St → Option Res) (W : St → Option Res) (i2 : Int) (s2 : List UInt8) (i3 : Int) (i4 : Int) :
    evC gl R N doubleNumber_c0 (Kseq (fun st' => W (prune [6, 16, 17, 18] [] st')) K) ⟨[(6, .imm (AV.int .u32 i2)), (16, .imm (AV.bytes s2)), (17, .imm (AV.int .i64 i3)), (18, .imm (AV.int .i64 i4))], []⟩ =
    doubleNumber_L1s R N (fun (i2 : Int) (s2 : List UInt8) (i3 : Int) (i4 : Int) => W ⟨[(6, .imm (AV.int .u32 i2)), (16, .imm (AV.bytes s2)), (17, .imm (AV.int .i64 i3)), (18, .imm (AV.int .i64 i4))], []⟩) (fun (i8 : Int) (b1 : Bool) => K .ret ⟨[(4, .imm (AV.int .u32 i8)), (5, .imm (AV.bool b1))], []⟩) (fun (i9 : Int) => K (.exit 0) ⟨[(6, .imm (AV.int .u32 i9))], []⟩) i2 s2 i3 i4 := by
  kernel_rfl
theorem doubleNumber_L1_eq (R : Nat → List AV → Option Res) (N : Nat) (K : Ex → St → Option Res) : ∀ (n : Nat) (i2 : Int) (s2 : List UInt8) (i3 : Int) (i4 : Int),
    rounds [6, 16, 17, 18] [] (evC gl R N doubleNumber_c0) K n ⟨[(6, .imm (AV.int .u32 i2)), (16, .imm (AV.bytes s2)), (17, .imm (AV.int .i64 i3)), (18, .imm (AV.int .i64 i4))], []⟩ = doubleNumber_L1 R N (fun (i8 : Int) (b1 : Bool) => K .ret ⟨[(4, .imm (AV.int .u32 i8)), (5, .imm (AV.bool b1))], []⟩) (fun (i9 : Int) => K (.exit 0) ⟨[(6, .imm (AV.int .u32 i9))], []⟩) n i2 s2 i3 i4
  | 0, _, _, _, _ => rfl
  | n + 1, i2, s2, i3, i4 => (doubleNumber_L1s_eq R N K (rounds [6, 16, 17, 18] [] (evC gl R N doubleNumber_c0) K n) i2 s2 i3 i4).trans
      (congrArg (fun go => doubleNumber_L1s R N go (fun (i8 : Int) (b1 : Bool) => K .ret ⟨[(4, .imm (AV.int .u32 i8)), (5, .imm (AV.bool b1))], []⟩) (fun (i9 : Int) => K (.exit 0) ⟨[(6, .imm (AV.int .u32 i9))], []⟩) i2 s2 i3 i4) (funext fun i2 => funext fun s2 => funext fun i3 => funext fun i4 => doubleNumber_L1_eq R N K n i2 s2 i3 i4))
def doubleNumber_c1 : AC := .seq (.region [.op (some 41) none (.mv (.t 6)), .op (some 4) none (.mv (.t 41)), .op (some 5) none (.mv (.k (AV.bool true)))]) (.ret [4, 5] [])
def doubleNumber_c2 : AC := .seq (.region [.op (some 4) none (.mv (.k (AV.int .u32 0))), .op (some 5) none (.mv (.k (AV.bool false)))]) (.seq (.seq (.region [.op (some 10) none (.mv (.t 0)), .op (some 11) none (.len (.t 10) false), .op (some 12) none (.mv (.t 1)), .op (some 13) none (.bin .lss (.t 11) (.t 12))]) (.cond (.t 13) (.seq (.region [.op (some 4) none (.mv (.k (AV.int .u32 0))), .op (some 5) none (.mv (.k (AV.bool false)))]) (.ret [4, 5] [])) (.skip))) (.seq (.region [.op (some 6) none (.mv (.k (AV.int .u32 0)))]) (.seq (.seq (.region [.op (some 14) none (.mv (.t 0)), .op (some 15) none (.mv (.t 1)), .op (some 16) none (.slice (.t 14) none (some (.t 15)) 1), .op (some 17) none (.len (.t 16) false), .op (some 18) none (.mv (.k (AV.int .i64 0)))]) (.block 0 (.loop [6, 16, 17, 18] [] (doubleNumber_c0)))) (doubleNumber_c1))))
def doubleNumber : AFunc := ⟨2, 42, [.tmp 4, .tmp 5], doubleNumber_c2⟩
def doubleNumberr (R : Nat → List AV → Option Res) (N : Nat) (s1 : List UInt8) (i1 : Int) : Option Res :=
  bif decide ((((s1.length : Nat) : Int) : Int) < i1) then
    (some ⟨AV.tup [AV.int .u32 0, AV.bool false], false, []⟩)
  else
    need (decide (0 ≤ (i1 : Int)) && decide ((i1 : Int) ≤ ((s1.length : Nat) : Int))) <|
    doubleNumber_L1 R N
      (fun i12 b3 =>
    some ⟨AV.tup [AV.int .u32 i12, AV.bool b3], false, []⟩)
      (fun i13 =>
    some ⟨AV.tup [AV.int .u32 i13, AV.bool true], false, []⟩)
      N 0 ((s1.take (Int.toNat i1)).drop 0) ((((s1.take (Int.toNat i1)).drop 0).length : Nat) : Int) 0
theorem doubleNumber_eq (R : Nat → List AV → Option Res) (N : Nat) (s1 : List UInt8) (i1 : Int) : runF gl R N doubleNumber [AV.bytes s1, AV.int .i64 i1] = doubleNumberr R N s1 i1 := by
  refine Eq.trans (b :=
    bif decide ((((s1.length : Nat) : Int) : Int) < i1) then
    (some ⟨AV.tup [AV.int .u32 0, AV.bool false], false, []⟩)
    else
    need (decide (0 ≤ (i1 : Int)) && decide ((i1 : Int) ≤ ((s1.length : Nat) : Int))) <|
    rounds [6, 16, 17, 18] [] (evC gl R N doubleNumber_c0) (Kblock 0 (Kthen gl R N doubleNumber_c1 (Kret doubleNumber.rets []))) N ⟨[(6, .imm (AV.int .u32 0)), (16, .imm (AV.bytes ((s1.take (Int.toNat i1)).drop 0))), (17, .imm (AV.int .i64 ((((s1.take (Int.toNat i1)).drop 0).length : Nat) : Int))), (18, .imm (AV.int .i64 0))], []⟩) (by kernel_rfl) ?_
  simp (config := { maxSteps := 100000000 }) only [doubleNumber_L1_eq]
  kernel_rfl
theorem doubleNumber_fit : fitF Tryd.prog doubleNumber Tryd.f69 = true := by
  kernel_rfl

def doubleEscape_c0 : AC := .seq (.region [.op (some 2) none (.mv (.k (AV.int .i32 0))), .op (some 3) none (.mv (.k (AV.int .i64 0))), .op (some 4) none (.mv (.k (AV.bool false)))]) (.seq (.seq (.region [.op (some 9) none (.mv (.t 0)), .op (some 10) none (.len (.t 9) false), .op (some 11) none (.bin .eql (.t 10) (.k (AV.int .i64 0)))]) (.cond (.t 11) (.seq (.region [.op (some 2) none (.mv (.k (AV.int .i32 0))), .op (some 3) none (.mv (.k (AV.int .i64 0))), .op (some 4) none (.mv (.k (AV.bool false)))]) (.ret [2, 3, 4] [])) (.skip))) (.seq (.seq (.region [.op (some 12) none (.mv (.t 0)), .op (some 13) none (.iaddr (.t 12) (.k (AV.int .i64 0)) 1 (.int .u8)), .op (some 14) none (.load (.t 13) none (.int .u8)), .op (some 15) none (.call id_stringsIndexByte [.k (AV.str ([48, 97, 98, 116, 110, 118, 102, 114, 101, 78, 95, 76, 80] : List UInt8)), .t 14] (.int .i64)), .op (some 5) none (.mv (.t 15))]) (.seq (.region [.op (some 16) none (.mv (.t 5)), .op (some 17) none (.bin .geq (.t 16) (.k (AV.int .i64 0)))]) (.cond (.t 17) (.seq (.region [.op (some 18) none (.call id_doubleRunes [] (.row 1)), .op (some 19) none (.mv (.t 5)), .op (some 20) none (.iaddr (.t 18) (.t 19) 1 (.int .i32)), .op (some 21) none (.load (.t 20) none (.int .i32)), .op (some 2) none (.mv (.t 21)), .op (some 3) none (.mv (.k (AV.int .i64 1))), .op (some 4) none (.mv (.k (AV.bool true)))]) (.ret [2, 3, 4] [])) (.skip)))) (.seq (.seq (.region [.op (some 22) none (.mv (.t 0)), .op (some 23) none (.iaddr (.t 22) (.k (AV.int .i64 0)) 1 (.int .u8)), .op (some 24) none (.load (.t 23) none (.int .u8)), .op (some 25) none (.call id_stringsIndexByte [.k (AV.str ([34, 47, 92, 32] : List UInt8)), .t 24] (.int .i64)), .op (some 26) none (.bin .geq (.t 25) (.k (AV.int .i64 0)))]) (.cond (.t 26) (.seq (.region [.op (some 27) none (.mv (.t 0)), .op (some 28) none (.iaddr (.t 27) (.k (AV.int .i64 0)) 1 (.int .u8)), .op (some 29) none (.load (.t 28) none (.int .u8)), .op (some 30) none (.cvInt .i32 (.t 29)), .op (some 2) none (.mv (.t 30)), .op (some 3) none (.mv (.k (AV.int .i64 1))), .op (some 4) none (.mv (.k (AV.bool true)))]) (.ret [2, 3, 4] [])) (.skip))) (.seq (.region [.op (some 31) none (.mv (.t 0)), .op (some 32) none (.iaddr (.t 31) (.k (AV.int .i64 0)) 1 (.int .u8)), .op (some 33) none (.load (.t 32) none (.int .u8)), .op (some 34) none (.call id_doubleDigits [.t 33] (.int .i64)), .op (some 6) none (.mv (.t 34))]) (.seq (.seq (.region [.op (some 35) none (.mv (.t 6)), .op (some 36) none (.bin .eql (.t 35) (.k (AV.int .i64 0)))]) (.cond (.t 36) (.seq (.region [.op (some 2) none (.mv (.k (AV.int .i32 0))), .op (some 3) none (.mv (.k (AV.int .i64 0))), .op (some 4) none (.mv (.k (AV.bool false)))]) (.ret [2, 3, 4] [])) (.skip))) (.seq (.region [.op (some 38) none (.mv (.t 0)), .op (some 39) none (.slice (.t 38) (some (.k (AV.int .i64 1))) none 1), .op (some 40) none (.mv (.t 6)), .op (some 41) none (.call id_doubleNumber [.t 39, .t 40] (.tup [.int .u32, .bool])), .op (some 37) none (.mv (.t 41)), .op (some 42) none (.extract (.t 37) 0), .op (some 43) none (.extract (.t 37) 1), .op (some 7) none (.mv (.t 42)), .op (some 8) none (.mv (.t 43))]) (.seq (.seq (.region [.op (some 44) none (.mv (.t 8)), .op (some 45) none (.un .not (.t 44)), .op (some 46) none (.mv (.t 45)), .split 46, .op (some 47) (some (46, false)) (.mv (.t 7)), .op (some 48) (some (46, false)) (.bin .gtr (.t 47) (.k (AV.int .u32 1114111))), .op (some 49) none (.pick (.t 46) (.k (AV.bool true)) (.t 48)), .op (some 50) none (.mv (.t 49)), .split 50, .op (some 51) (some (50, false)) (.mv (.t 7)), .op (some 52) (some (50, false)) (.bin .geq (.t 51) (.k (AV.int .u32 55296))), .op (some 53) (some (50, false)) (.mv (.t 52)), .split 53, .op (some 54) (some (53, true)) (.mv (.t 7)), .op (some 55) (some (53, true)) (.bin .leq (.t 54) (.k (AV.int .u32 57343))), .op (some 56) (some (50, false)) (.pick (.t 53) (.t 55) (.k (AV.bool false))), .op (some 57) none (.pick (.t 50) (.k (AV.bool true)) (.t 56))]) (.cond (.t 57) (.seq (.region [.op (some 2) none (.mv (.k (AV.int .i32 0))), .op (some 3) none (.mv (.k (AV.int .i64 0))), .op (some 4) none (.mv (.k (AV.bool false)))]) (.ret [2, 3, 4] [])) (.skip))) (.seq (.region [.op (some 58) none (.mv (.t 7)), .op (some 59) none (.cvInt .i32 (.t 58)), .op (some 60) none (.mv (.t 6)), .op (some 61) none (.bin .add (.t 60) (.k (AV.int .i64 1))), .op (some 2) none (.mv (.t 59)), .op (some 3) none (.mv (.t 61)), .op (some 4) none (.mv (.k (AV.bool true)))]) (.ret [2, 3, 4] [])))))))))
def doubleEscape : AFunc := ⟨1, 62, [.tmp 2, .tmp 3, .tmp 4], doubleEscape_c0⟩
def doubleEscaper (R : Nat → List AV → Option Res) (N : Nat) (s1 : List UInt8) : Option Res :=
  bif (((s1.length : Nat) : Int) : Int) == 0 then
    (some ⟨AV.tup [AV.int .i32 0, AV.int .i64 0, AV.bool false], false, []⟩)
  else
    need (decide (0 ≤ (0 : Int))) <|
    (s1[Int.toNat 0]?).bind fun c1 =>
    (R id_stringsIndexByte [AV.str ([48, 97, 98, 116, 110, 118, 102, 114, 101, 78, 95, 76, 80] : List UInt8), AV.int .u8 (c1.toNat : Int)]).bind fun r1 =>
    asI .i64 r1.v fun i1 =>
    bif decide ((i1 : Int) ≥ 0) then
    ((R id_doubleRunes []).bind fun r2 =>
    asR 1 r2.v fun l1 =>
    need (decide (0 ≤ (i1 : Int))) <|
    (l1[Int.toNat i1]?).bind fun e1 =>
    asI .i32 e1 fun i2 =>
    some ⟨AV.tup [AV.int .i32 i2, AV.int .i64 1, AV.bool true], false, []⟩)
    else
    need (decide (0 ≤ (0 : Int))) <|
    (s1[Int.toNat 0]?).bind fun c2 =>
    (R id_stringsIndexByte [AV.str ([34, 47, 92, 32] : List UInt8), AV.int .u8 (c2.toNat : Int)]).bind fun r3 =>
    asI .i64 r3.v fun i3 =>
    bif decide ((i3 : Int) ≥ 0) then
    (need (decide (0 ≤ (0 : Int))) <|
    (s1[Int.toNat 0]?).bind fun c3 =>
    some ⟨AV.tup [AV.int .i32 (IntKind.i32.wrap (c3.toNat : Int)), AV.int .i64 1, AV.bool true], false, []⟩)
    else
    need (decide (0 ≤ (0 : Int))) <|
    (s1[Int.toNat 0]?).bind fun c4 =>
    (R id_doubleDigits [AV.int .u8 (c4.toNat : Int)]).bind fun r4 =>
    asI .i64 r4.v fun i4 =>
    bif (i4 : Int) == 0 then
    (some ⟨AV.tup [AV.int .i32 0, AV.int .i64 0, AV.bool false], false, []⟩)
    else
    need (decide (0 ≤ (1 : Int)) && decide ((1 : Int) ≤ ((s1.length : Nat) : Int))) <|
    (R id_doubleNumber [AV.bytes ((s1.take s1.length).drop (Int.toNat 1)), AV.int .i64 i4]).bind fun r5 =>
    asJBT r5.v fun i5 b1 =>
    bif !b1 then
    (some ⟨AV.tup [AV.int .i32 0, AV.int .i64 0, AV.bool false], false, []⟩)
    else
    bif decide ((i5 : Int) > 1114111) then
    (some ⟨AV.tup [AV.int .i32 0, AV.int .i64 0, AV.bool false], false, []⟩)
    else
    bif decide ((i5 : Int) ≥ 55296) then
    (bif decide ((i5 : Int) ≤ 57343) then
    (some ⟨AV.tup [AV.int .i32 0, AV.int .i64 0, AV.bool false], false, []⟩)
    else
    some ⟨AV.tup [AV.int .i32 (IntKind.i32.wrap i5), AV.int .i64 (IntKind.i64.wrap (i4 + 1)), AV.bool true], false, []⟩)
    else
    some ⟨AV.tup [AV.int .i32 (IntKind.i32.wrap i5), AV.int .i64 (IntKind.i64.wrap (i4 + 1)), AV.bool true], false, []⟩
theorem doubleEscape_eq (R : Nat → List AV → Option Res) (N : Nat) (s1 : List UInt8) : runF gl R N doubleEscape [AV.bytes s1] = doubleEscaper R N s1 := by
  kernel_rfl
theorem doubleEscape_fit : fitF Tryd.prog doubleEscape Tryd.f56 = true := by
  kernel_rfl

def unicodeUtf8AppendRuneNonASCII_c0 : AC := .seq (.region [.op (some 4) none (.nilOwn 0 none)]) (.seq (.region [.op (some 6) none (.mv (.t 1)), .op (some 7) none (.cvInt .u32 (.t 6)), .op (some 5) none (.mv (.t 7))]) (.block 0 (.seq (.region [.op (some 12) none (.mv (.t 5)), .op (some 13) none (.bin .leq (.t 12) (.k (AV.int .u32 2047))), .op (some 11) none (.mv (.t 13))]) (.cond (.t 11) (.seq (.region [.op (some 14) none (.mv (.t 0)), .op (some 15) none (.mv (.t 1)), .op (some 16) none (.bin .shr (.t 15) (.k (AV.int .u64 6))), .op (some 17) none (.cvInt .u8 (.t 16)), .op (some 18) none (.bin .or (.k (AV.int .u8 192)) (.t 17)), .op (some 19) none (.mv (.t 1)), .op (some 20) none (.cvInt .u8 (.t 19)), .op (some 21) none (.bin .and (.t 20) (.k (AV.int .u8 63))), .op (some 22) none (.bin .or (.k (AV.int .u8 128)) (.t 21)), .op (some 23) none (.bslice [.t 18, .t 22] 1 true), .op (some 24) none (.app 0 (.t 14) (.t 23) 1 .any true), .op (some 4) none (.mv (.t 24))]) (.ret [4] [0])) (.seq (.seq (.region [.op (some 26) none (.mv (.t 5)), .op (some 27) none (.bin .lss (.t 26) (.k (AV.int .u32 55296))), .op (some 25) none (.mv (.t 27))]) (.cond (.t 25) (.skip) (.region [.op (some 28) none (.mv (.t 5)), .op (some 29) none (.bin .lss (.k (AV.int .u32 57343)) (.t 28)), .op (some 30) none (.mv (.t 29)), .split 30, .op (some 31) (some (30, true)) (.mv (.t 5)), .op (some 32) (some (30, true)) (.bin .leq (.t 31) (.k (AV.int .u32 65535))), .op (some 33) none (.pick (.t 30) (.t 32) (.k (AV.bool false))), .op (some 25) none (.mv (.t 33))]))) (.cond (.t 25) (.seq (.region [.op (some 34) none (.mv (.t 0)), .op (some 35) none (.mv (.t 1)), .op (some 36) none (.bin .shr (.t 35) (.k (AV.int .u64 12))), .op (some 37) none (.cvInt .u8 (.t 36)), .op (some 38) none (.bin .or (.k (AV.int .u8 224)) (.t 37)), .op (some 39) none (.mv (.t 1)), .op (some 40) none (.bin .shr (.t 39) (.k (AV.int .u64 6))), .op (some 41) none (.cvInt .u8 (.t 40)), .op (some 42) none (.bin .and (.t 41) (.k (AV.int .u8 63))), .op (some 43) none (.bin .or (.k (AV.int .u8 128)) (.t 42)), .op (some 44) none (.mv (.t 1)), .op (some 45) none (.cvInt .u8 (.t 44)), .op (some 46) none (.bin .and (.t 45) (.k (AV.int .u8 63))), .op (some 47) none (.bin .or (.k (AV.int .u8 128)) (.t 46)), .op (some 48) none (.bslice [.t 38, .t 43, .t 47] 1 true), .op (some 49) none (.app 0 (.t 34) (.t 48) 1 .any true), .op (some 4) none (.mv (.t 49))]) (.ret [4] [0])) (.seq (.region [.op (some 51) none (.mv (.t 5)), .op (some 52) none (.bin .gtr (.t 51) (.k (AV.int .u32 65535))), .op (some 53) none (.mv (.t 52)), .split 53, .op (some 54) (some (53, true)) (.mv (.t 5)), .op (some 55) (some (53, true)) (.bin .leq (.t 54) (.k (AV.int .u32 1114111))), .op (some 56) none (.pick (.t 53) (.t 55) (.k (AV.bool false))), .op (some 50) none (.mv (.t 56))]) (.cond (.t 50) (.seq (.region [.op (some 57) none (.mv (.t 0)), .op (some 58) none (.mv (.t 1)), .op (some 59) none (.bin .shr (.t 58) (.k (AV.int .u64 18))), .op (some 60) none (.cvInt .u8 (.t 59)), .op (some 61) none (.bin .or (.k (AV.int .u8 240)) (.t 60)), .op (some 62) none (.mv (.t 1)), .op (some 63) none (.bin .shr (.t 62) (.k (AV.int .u64 12))), .op (some 64) none (.cvInt .u8 (.t 63)), .op (some 65) none (.bin .and (.t 64) (.k (AV.int .u8 63))), .op (some 66) none (.bin .or (.k (AV.int .u8 128)) (.t 65)), .op (some 67) none (.mv (.t 1)), .op (some 68) none (.bin .shr (.t 67) (.k (AV.int .u64 6))), .op (some 69) none (.cvInt .u8 (.t 68)), .op (some 70) none (.bin .and (.t 69) (.k (AV.int .u8 63))), .op (some 71) none (.bin .or (.k (AV.int .u8 128)) (.t 70)), .op (some 72) none (.mv (.t 1)), .op (some 73) none (.cvInt .u8 (.t 72)), .op (some 74) none (.bin .and (.t 73) (.k (AV.int .u8 63))), .op (some 75) none (.bin .or (.k (AV.int .u8 128)) (.t 74)), .op (some 76) none (.bslice [.t 61, .t 66, .t 71, .t 75] 1 true), .op (some 77) none (.app 0 (.t 57) (.t 76) 1 .any true), .op (some 4) none (.mv (.t 77))]) (.ret [4] [0])) (.seq (.region [.op (some 8) none (.mv (.t 0)), .op (some 9) none (.bslice [.k (AV.int .u8 239), .k (AV.int .u8 191), .k (AV.int .u8 189)] 1 true), .op (some 10) none (.app 0 (.t 8) (.t 9) 1 .any true), .op (some 4) none (.mv (.t 10))]) (.ret [4] [0]))))))))))
def unicodeUtf8AppendRuneNonASCII : AFunc := ⟨2, 78, [.tmp 4], unicodeUtf8AppendRuneNonASCII_c0⟩
def unicodeUtf8AppendRuneNonASCIIr (R : Nat → List AV → Option Res) (N : Nat) (s1 : List UInt8) (i1 : Int) : Option Res :=
  bif decide (((IntKind.u32.wrap i1) : Int) ≤ 2047) then
    (need (!decide (6 < 0)) <|
    need (decide (0 ≤ (IntKind.u8.wrap (BitVec.ofInt IntKind.u8.bits 192 ||| BitVec.ofInt IntKind.u8.bits (IntKind.u8.wrap (Int.fdiv i1 (2 ^ (min (Int.toNat 6) IntKind.i32.bits))))).toNat : Int)) && decide ((IntKind.u8.wrap (BitVec.ofInt IntKind.u8.bits 192 ||| BitVec.ofInt IntKind.u8.bits (IntKind.u8.wrap (Int.fdiv i1 (2 ^ (min (Int.toNat 6) IntKind.i32.bits))))).toNat : Int) < 256)) <|
    need (decide (0 ≤ (IntKind.u8.wrap (BitVec.ofInt IntKind.u8.bits 128 ||| BitVec.ofInt IntKind.u8.bits (IntKind.u8.wrap (BitVec.ofInt IntKind.u8.bits (IntKind.u8.wrap i1) &&& BitVec.ofInt IntKind.u8.bits 63).toNat)).toNat : Int)) && decide ((IntKind.u8.wrap (BitVec.ofInt IntKind.u8.bits 128 ||| BitVec.ofInt IntKind.u8.bits (IntKind.u8.wrap (BitVec.ofInt IntKind.u8.bits (IntKind.u8.wrap i1) &&& BitVec.ofInt IntKind.u8.bits 63).toNat)).toNat : Int) < 256)) <|
    need (decide (((s1.drop 0).take s1.length).length + ([UInt8.ofNat (Int.toNat (IntKind.u8.wrap (BitVec.ofInt IntKind.u8.bits 192 ||| BitVec.ofInt IntKind.u8.bits (IntKind.u8.wrap (Int.fdiv i1 (2 ^ (min (Int.toNat 6) IntKind.i32.bits))))).toNat)), UInt8.ofNat (Int.toNat (IntKind.u8.wrap (BitVec.ofInt IntKind.u8.bits 128 ||| BitVec.ofInt IntKind.u8.bits (IntKind.u8.wrap (BitVec.ofInt IntKind.u8.bits (IntKind.u8.wrap i1) &&& BitVec.ofInt IntKind.u8.bits 63).toNat)).toNat))] : List UInt8).length ≤ 1099511627776)) <|
    some ⟨AV.bytes (((((s1.drop 0).take s1.length) ++ [UInt8.ofNat (Int.toNat (IntKind.u8.wrap (BitVec.ofInt IntKind.u8.bits 192 ||| BitVec.ofInt IntKind.u8.bits (IntKind.u8.wrap (Int.fdiv i1 (2 ^ (min (Int.toNat 6) IntKind.i32.bits))))).toNat)), UInt8.ofNat (Int.toNat (IntKind.u8.wrap (BitVec.ofInt IntKind.u8.bits 128 ||| BitVec.ofInt IntKind.u8.bits (IntKind.u8.wrap (BitVec.ofInt IntKind.u8.bits (IntKind.u8.wrap i1) &&& BitVec.ofInt IntKind.u8.bits 63).toNat)).toNat))]).drop 0).take ((((s1.drop 0).take s1.length) ++ [UInt8.ofNat (Int.toNat (IntKind.u8.wrap (BitVec.ofInt IntKind.u8.bits 192 ||| BitVec.ofInt IntKind.u8.bits (IntKind.u8.wrap (Int.fdiv i1 (2 ^ (min (Int.toNat 6) IntKind.i32.bits))))).toNat)), UInt8.ofNat (Int.toNat (IntKind.u8.wrap (BitVec.ofInt IntKind.u8.bits 128 ||| BitVec.ofInt IntKind.u8.bits (IntKind.u8.wrap (BitVec.ofInt IntKind.u8.bits (IntKind.u8.wrap i1) &&& BitVec.ofInt IntKind.u8.bits 63).toNat)).toNat))]).length)), true, [AV.nilI]⟩)
  else
    bif decide (((IntKind.u32.wrap i1) : Int) < 55296) then
    (bif decide (((IntKind.u32.wrap i1) : Int) < 55296) then
    (need (!decide (12 < 0)) <|
    need (!decide (6 < 0)) <|
    need (decide (0 ≤ (IntKind.u8.wrap (BitVec.ofInt IntKind.u8.bits 224 ||| BitVec.ofInt IntKind.u8.bits (IntKind.u8.wrap (Int.fdiv i1 (2 ^ (min (Int.toNat 12) IntKind.i32.bits))))).toNat : Int)) && decide ((IntKind.u8.wrap (BitVec.ofInt IntKind.u8.bits 224 ||| BitVec.ofInt IntKind.u8.bits (IntKind.u8.wrap (Int.fdiv i1 (2 ^ (min (Int.toNat 12) IntKind.i32.bits))))).toNat : Int) < 256)) <|
    need (decide (0 ≤ (IntKind.u8.wrap (BitVec.ofInt IntKind.u8.bits 128 ||| BitVec.ofInt IntKind.u8.bits (IntKind.u8.wrap (BitVec.ofInt IntKind.u8.bits (IntKind.u8.wrap (Int.fdiv i1 (2 ^ (min (Int.toNat 6) IntKind.i32.bits)))) &&& BitVec.ofInt IntKind.u8.bits 63).toNat)).toNat : Int)) && decide ((IntKind.u8.wrap (BitVec.ofInt IntKind.u8.bits 128 ||| BitVec.ofInt IntKind.u8.bits (IntKind.u8.wrap (BitVec.ofInt IntKind.u8.bits (IntKind.u8.wrap (Int.fdiv i1 (2 ^ (min (Int.toNat 6) IntKind.i32.bits)))) &&& BitVec.ofInt IntKind.u8.bits 63).toNat)).toNat : Int) < 256)) <|
    need (decide (0 ≤ (IntKind.u8.wrap (BitVec.ofInt IntKind.u8.bits 128 ||| BitVec.ofInt IntKind.u8.bits (IntKind.u8.wrap (BitVec.ofInt IntKind.u8.bits (IntKind.u8.wrap i1) &&& BitVec.ofInt IntKind.u8.bits 63).toNat)).toNat : Int)) && decide ((IntKind.u8.wrap (BitVec.ofInt IntKind.u8.bits 128 ||| BitVec.ofInt IntKind.u8.bits (IntKind.u8.wrap (BitVec.ofInt IntKind.u8.bits (IntKind.u8.wrap i1) &&& BitVec.ofInt IntKind.u8.bits 63).toNat)).toNat : Int) < 256)) <|
    need (decide (((s1.drop 0).take s1.length).length + ([UInt8.ofNat (Int.toNat (IntKind.u8.wrap (BitVec.ofInt IntKind.u8.bits 224 ||| BitVec.ofInt IntKind.u8.bits (IntKind.u8.wrap (Int.fdiv i1 (2 ^ (min (Int.toNat 12) IntKind.i32.bits))))).toNat)), UInt8.ofNat (Int.toNat (IntKind.u8.wrap (BitVec.ofInt IntKind.u8.bits 128 ||| BitVec.ofInt IntKind.u8.bits (IntKind.u8.wrap (BitVec.ofInt IntKind.u8.bits (IntKind.u8.wrap (Int.fdiv i1 (2 ^ (min (Int.toNat 6) IntKind.i32.bits)))) &&& BitVec.ofInt IntKind.u8.bits 63).toNat)).toNat)), UInt8.ofNat (Int.toNat (IntKind.u8.wrap (BitVec.ofInt IntKind.u8.bits 128 ||| BitVec.ofInt IntKind.u8.bits (IntKind.u8.wrap (BitVec.ofInt IntKind.u8.bits (IntKind.u8.wrap i1) &&& BitVec.ofInt IntKind.u8.bits 63).toNat)).toNat))] : List UInt8).length ≤ 1099511627776)) <|
    some ⟨AV.bytes (((((s1.drop 0).take s1.length) ++ [UInt8.ofNat (Int.toNat (IntKind.u8.wrap (BitVec.ofInt IntKind.u8.bits 224 ||| BitVec.ofInt IntKind.u8.bits (IntKind.u8.wrap (Int.fdiv i1 (2 ^ (min (Int.toNat 12) IntKind.i32.bits))))).toNat)), UInt8.ofNat (Int.toNat (IntKind.u8.wrap (BitVec.ofInt IntKind.u8.bits 128 ||| BitVec.ofInt IntKind.u8.bits (IntKind.u8.wrap (BitVec.ofInt IntKind.u8.bits (IntKind.u8.wrap (Int.fdiv i1 (2 ^ (min (Int.toNat 6) IntKind.i32.bits)))) &&& BitVec.ofInt IntKind.u8.bits 63).toNat)).toNat)), UInt8.ofNat (Int.toNat (IntKind.u8.wrap (BitVec.ofInt IntKind.u8.bits 128 ||| BitVec.ofInt IntKind.u8.bits (IntKind.u8.wrap (BitVec.ofInt IntKind.u8.bits (IntKind.u8.wrap i1) &&& BitVec.ofInt IntKind.u8.bits 63).toNat)).toNat))]).drop 0).take ((((s1.drop 0).take s1.length) ++ [UInt8.ofNat (Int.toNat (IntKind.u8.wrap (BitVec.ofInt IntKind.u8.bits 224 ||| BitVec.ofInt IntKind.u8.bits (IntKind.u8.wrap (Int.fdiv i1 (2 ^ (min (Int.toNat 12) IntKind.i32.bits))))).toNat)), UInt8.ofNat (Int.toNat (IntKind.u8.wrap (BitVec.ofInt IntKind.u8.bits 128 ||| BitVec.ofInt IntKind.u8.bits (IntKind.u8.wrap (BitVec.ofInt IntKind.u8.bits (IntKind.u8.wrap (Int.fdiv i1 (2 ^ (min (Int.toNat 6) IntKind.i32.bits)))) &&& BitVec.ofInt IntKind.u8.bits 63).toNat)).toNat)), UInt8.ofNat (Int.toNat (IntKind.u8.wrap (BitVec.ofInt IntKind.u8.bits 128 ||| BitVec.ofInt IntKind.u8.bits (IntKind.u8.wrap (BitVec.ofInt IntKind.u8.bits (IntKind.u8.wrap i1) &&& BitVec.ofInt IntKind.u8.bits 63).toNat)).toNat))]).length)), true, [AV.nilI]⟩)
    else
    bif decide (((IntKind.u32.wrap i1) : Int) > 65535) then
    (bif decide (((IntKind.u32.wrap i1) : Int) ≤ 1114111) then
    (need (!decide (18 < 0)) <|
    need (!decide (12 < 0)) <|
    need (!decide (6 < 0)) <|
    need (decide (0 ≤ (IntKind.u8.wrap (BitVec.ofInt IntKind.u8.bits 240 ||| BitVec.ofInt IntKind.u8.bits (IntKind.u8.wrap (Int.fdiv i1 (2 ^ (min (Int.toNat 18) IntKind.i32.bits))))).toNat : Int)) && decide ((IntKind.u8.wrap (BitVec.ofInt IntKind.u8.bits 240 ||| BitVec.ofInt IntKind.u8.bits (IntKind.u8.wrap (Int.fdiv i1 (2 ^ (min (Int.toNat 18) IntKind.i32.bits))))).toNat : Int) < 256)) <|
    need (decide (0 ≤ (IntKind.u8.wrap (BitVec.ofInt IntKind.u8.bits 128 ||| BitVec.ofInt IntKind.u8.bits (IntKind.u8.wrap (BitVec.ofInt IntKind.u8.bits (IntKind.u8.wrap (Int.fdiv i1 (2 ^ (min (Int.toNat 12) IntKind.i32.bits)))) &&& BitVec.ofInt IntKind.u8.bits 63).toNat)).toNat : Int)) && decide ((IntKind.u8.wrap (BitVec.ofInt IntKind.u8.bits 128 ||| BitVec.ofInt IntKind.u8.bits (IntKind.u8.wrap (BitVec.ofInt IntKind.u8.bits (IntKind.u8.wrap (Int.fdiv i1 (2 ^ (min (Int.toNat 12) IntKind.i32.bits)))) &&& BitVec.ofInt IntKind.u8.bits 63).toNat)).toNat : Int) < 256)) <|
    need (decide (0 ≤ (IntKind.u8.wrap (BitVec.ofInt IntKind.u8.bits 128 ||| BitVec.ofInt IntKind.u8.bits (IntKind.u8.wrap (BitVec.ofInt IntKind.u8.bits (IntKind.u8.wrap (Int.fdiv i1 (2 ^ (min (Int.toNat 6) IntKind.i32.bits)))) &&& BitVec.ofInt IntKind.u8.bits 63).toNat)).toNat : Int)) && decide ((IntKind.u8.wrap (BitVec.ofInt IntKind.u8.bits 128 ||| BitVec.ofInt IntKind.u8.bits (IntKind.u8.wrap (BitVec.ofInt IntKind.u8.bits (IntKind.u8.wrap (Int.fdiv i1 (2 ^ (min (Int.toNat 6) IntKind.i32.bits)))) &&& BitVec.ofInt IntKind.u8.bits 63).toNat)).toNat : Int) < 256)) <|
    need (decide (0 ≤ (IntKind.u8.wrap (BitVec.ofInt IntKind.u8.bits 128 ||| BitVec.ofInt IntKind.u8.bits (IntKind.u8.wrap (BitVec.ofInt IntKind.u8.bits (IntKind.u8.wrap i1) &&& BitVec.ofInt IntKind.u8.bits 63).toNat)).toNat : Int)) && decide ((IntKind.u8.wrap (BitVec.ofInt IntKind.u8.bits 128 ||| BitVec.ofInt IntKind.u8.bits (IntKind.u8.wrap (BitVec.ofInt IntKind.u8.bits (IntKind.u8.wrap i1) &&& BitVec.ofInt IntKind.u8.bits 63).toNat)).toNat : Int) < 256)) <|
    need (decide (((s1.drop 0).take s1.length).length + ([UInt8.ofNat (Int.toNat (IntKind.u8.wrap (BitVec.ofInt IntKind.u8.bits 240 ||| BitVec.ofInt IntKind.u8.bits (IntKind.u8.wrap (Int.fdiv i1 (2 ^ (min (Int.toNat 18) IntKind.i32.bits))))).toNat)), UInt8.ofNat (Int.toNat (IntKind.u8.wrap (BitVec.ofInt IntKind.u8.bits 128 ||| BitVec.ofInt IntKind.u8.bits (IntKind.u8.wrap (BitVec.ofInt IntKind.u8.bits (IntKind.u8.wrap (Int.fdiv i1 (2 ^ (min (Int.toNat 12) IntKind.i32.bits)))) &&& BitVec.ofInt IntKind.u8.bits 63).toNat)).toNat)), UInt8.ofNat (Int.toNat (IntKind.u8.wrap (BitVec.ofInt IntKind.u8.bits 128 ||| BitVec.ofInt IntKind.u8.bits (IntKind.u8.wrap (BitVec.ofInt IntKind.u8.bits (IntKind.u8.wrap (Int.fdiv i1 (2 ^ (min (Int.toNat 6) IntKind.i32.bits)))) &&& BitVec.ofInt IntKind.u8.bits 63).toNat)).toNat)), UInt8.ofNat (Int.toNat (IntKind.u8.wrap (BitVec.ofInt IntKind.u8.bits 128 ||| BitVec.ofInt IntKind.u8.bits (IntKind.u8.wrap (BitVec.ofInt IntKind.u8.bits (IntKind.u8.wrap i1) &&& BitVec.ofInt IntKind.u8.bits 63).toNat)).toNat))] : List UInt8).length ≤ 1099511627776)) <|
    some ⟨AV.bytes (((((s1.drop 0).take s1.length) ++ [UInt8.ofNat (Int.toNat (IntKind.u8.wrap (BitVec.ofInt IntKind.u8.bits 240 ||| BitVec.ofInt IntKind.u8.bits (IntKind.u8.wrap (Int.fdiv i1 (2 ^ (min (Int.toNat 18) IntKind.i32.bits))))).toNat)), UInt8.ofNat (Int.toNat (IntKind.u8.wrap (BitVec.ofInt IntKind.u8.bits 128 ||| BitVec.ofInt IntKind.u8.bits (IntKind.u8.wrap (BitVec.ofInt IntKind.u8.bits (IntKind.u8.wrap (Int.fdiv i1 (2 ^ (min (Int.toNat 12) IntKind.i32.bits)))) &&& BitVec.ofInt IntKind.u8.bits 63).toNat)).toNat)), UInt8.ofNat (Int.toNat (IntKind.u8.wrap (BitVec.ofInt IntKind.u8.bits 128 ||| BitVec.ofInt IntKind.u8.bits (IntKind.u8.wrap (BitVec.ofInt IntKind.u8.bits (IntKind.u8.wrap (Int.fdiv i1 (2 ^ (min (Int.toNat 6) IntKind.i32.bits)))) &&& BitVec.ofInt IntKind.u8.bits 63).toNat)).toNat)), UInt8.ofNat (Int.toNat (IntKind.u8.wrap (BitVec.ofInt IntKind.u8.bits 128 ||| BitVec.ofInt IntKind.u8.bits (IntKind.u8.wrap (BitVec.ofInt IntKind.u8.bits (IntKind.u8.wrap i1) &&& BitVec.ofInt IntKind.u8.bits 63).toNat)).toNat))]).drop 0).take ((((s1.drop 0).take s1.length) ++ [UInt8.ofNat (Int.toNat (IntKind.u8.wrap (BitVec.ofInt IntKind.u8.bits 240 ||| BitVec.ofInt IntKind.u8.bits (IntKind.u8.wrap (Int.fdiv i1 (2 ^ (min (Int.toNat 18) IntKind.i32.bits))))).toNat)), UInt8.ofNat (Int.toNat (IntKind.u8.wrap (BitVec.ofInt IntKind.u8.bits 128 ||| BitVec.ofInt IntKind.u8.bits (IntKind.u8.wrap (BitVec.ofInt IntKind.u8.bits (IntKind.u8.wrap (Int.fdiv i1 (2 ^ (min (Int.toNat 12) IntKind.i32.bits)))) &&& BitVec.ofInt IntKind.u8.bits 63).toNat)).toNat)), UInt8.ofNat (Int.toNat (IntKind.u8.wrap (BitVec.ofInt IntKind.u8.bits 128 ||| BitVec.ofInt IntKind.u8.bits (IntKind.u8.wrap (BitVec.ofInt IntKind.u8.bits (IntKind.u8.wrap (Int.fdiv i1 (2 ^ (min (Int.toNat 6) IntKind.i32.bits)))) &&& BitVec.ofInt IntKind.u8.bits 63).toNat)).toNat)), UInt8.ofNat (Int.toNat (IntKind.u8.wrap (BitVec.ofInt IntKind.u8.bits 128 ||| BitVec.ofInt IntKind.u8.bits (IntKind.u8.wrap (BitVec.ofInt IntKind.u8.bits (IntKind.u8.wrap i1) &&& BitVec.ofInt IntKind.u8.bits 63).toNat)).toNat))]).length)), true, [AV.nilI]⟩)
    else
    need (decide (((s1.drop 0).take s1.length).length + ([239, 191, 189] : List UInt8).length ≤ 1099511627776)) <|
    some ⟨AV.bytes (((((s1.drop 0).take s1.length) ++ [239, 191, 189]).drop 0).take ((((s1.drop 0).take s1.length) ++ [239, 191, 189]).length)), true, [AV.nilI]⟩)
    else
    need (decide (((s1.drop 0).take s1.length).length + ([239, 191, 189] : List UInt8).length ≤ 1099511627776)) <|
    some ⟨AV.bytes (((((s1.drop 0).take s1.length) ++ [239, 191, 189]).drop 0).take ((((s1.drop 0).take s1.length) ++ [239, 191, 189]).length)), true, [AV.nilI]⟩)
    else
    bif decide ((57343 : Int) < (IntKind.u32.wrap i1)) then
    (bif decide (((IntKind.u32.wrap i1) : Int) ≤ 65535) then
    (need (!decide (12 < 0)) <|
    need (!decide (6 < 0)) <|
    need (decide (0 ≤ (IntKind.u8.wrap (BitVec.ofInt IntKind.u8.bits 224 ||| BitVec.ofInt IntKind.u8.bits (IntKind.u8.wrap (Int.fdiv i1 (2 ^ (min (Int.toNat 12) IntKind.i32.bits))))).toNat : Int)) && decide ((IntKind.u8.wrap (BitVec.ofInt IntKind.u8.bits 224 ||| BitVec.ofInt IntKind.u8.bits (IntKind.u8.wrap (Int.fdiv i1 (2 ^ (min (Int.toNat 12) IntKind.i32.bits))))).toNat : Int) < 256)) <|
    need (decide (0 ≤ (IntKind.u8.wrap (BitVec.ofInt IntKind.u8.bits 128 ||| BitVec.ofInt IntKind.u8.bits (IntKind.u8.wrap (BitVec.ofInt IntKind.u8.bits (IntKind.u8.wrap (Int.fdiv i1 (2 ^ (min (Int.toNat 6) IntKind.i32.bits)))) &&& BitVec.ofInt IntKind.u8.bits 63).toNat)).toNat : Int)) && decide ((IntKind.u8.wrap (BitVec.ofInt IntKind.u8.bits 128 ||| BitVec.ofInt IntKind.u8.bits (IntKind.u8.wrap (BitVec.ofInt IntKind.u8.bits (IntKind.u8.wrap (Int.fdiv i1 (2 ^ (min (Int.toNat 6) IntKind.i32.bits)))) &&& BitVec.ofInt IntKind.u8.bits 63).toNat)).toNat : Int) < 256)) <|
    need (decide (0 ≤ (IntKind.u8.wrap (BitVec.ofInt IntKind.u8.bits 128 ||| BitVec.ofInt IntKind.u8.bits (IntKind.u8.wrap (BitVec.ofInt IntKind.u8.bits (IntKind.u8.wrap i1) &&& BitVec.ofInt IntKind.u8.bits 63).toNat)).toNat : Int)) && decide ((IntKind.u8.wrap (BitVec.ofInt IntKind.u8.bits 128 ||| BitVec.ofInt IntKind.u8.bits (IntKind.u8.wrap (BitVec.ofInt IntKind.u8.bits (IntKind.u8.wrap i1) &&& BitVec.ofInt IntKind.u8.bits 63).toNat)).toNat : Int) < 256)) <|
    need (decide (((s1.drop 0).take s1.length).length + ([UInt8.ofNat (Int.toNat (IntKind.u8.wrap (BitVec.ofInt IntKind.u8.bits 224 ||| BitVec.ofInt IntKind.u8.bits (IntKind.u8.wrap (Int.fdiv i1 (2 ^ (min (Int.toNat 12) IntKind.i32.bits))))).toNat)), UInt8.ofNat (Int.toNat (IntKind.u8.wrap (BitVec.ofInt IntKind.u8.bits 128 ||| BitVec.ofInt IntKind.u8.bits (IntKind.u8.wrap (BitVec.ofInt IntKind.u8.bits (IntKind.u8.wrap (Int.fdiv i1 (2 ^ (min (Int.toNat 6) IntKind.i32.bits)))) &&& BitVec.ofInt IntKind.u8.bits 63).toNat)).toNat)), UInt8.ofNat (Int.toNat (IntKind.u8.wrap (BitVec.ofInt IntKind.u8.bits 128 ||| BitVec.ofInt IntKind.u8.bits (IntKind.u8.wrap (BitVec.ofInt IntKind.u8.bits (IntKind.u8.wrap i1) &&& BitVec.ofInt IntKind.u8.bits 63).toNat)).toNat))] : List UInt8).length ≤ 1099511627776)) <|
    some ⟨AV.bytes (((((s1.drop 0).take s1.length) ++ [UInt8.ofNat (Int.toNat (IntKind.u8.wrap (BitVec.ofInt IntKind.u8.bits 224 ||| BitVec.ofInt IntKind.u8.bits (IntKind.u8.wrap (Int.fdiv i1 (2 ^ (min (Int.toNat 12) IntKind.i32.bits))))).toNat)), UInt8.ofNat (Int.toNat (IntKind.u8.wrap (BitVec.ofInt IntKind.u8.bits 128 ||| BitVec.ofInt IntKind.u8.bits (IntKind.u8.wrap (BitVec.ofInt IntKind.u8.bits (IntKind.u8.wrap (Int.fdiv i1 (2 ^ (min (Int.toNat 6) IntKind.i32.bits)))) &&& BitVec.ofInt IntKind.u8.bits 63).toNat)).toNat)), UInt8.ofNat (Int.toNat (IntKind.u8.wrap (BitVec.ofInt IntKind.u8.bits 128 ||| BitVec.ofInt IntKind.u8.bits (IntKind.u8.wrap (BitVec.ofInt IntKind.u8.bits (IntKind.u8.wrap i1) &&& BitVec.ofInt IntKind.u8.bits 63).toNat)).toNat))]).drop 0).take ((((s1.drop 0).take s1.length) ++ [UInt8.ofNat (Int.toNat (IntKind.u8.wrap (BitVec.ofInt IntKind.u8.bits 224 ||| BitVec.ofInt IntKind.u8.bits (IntKind.u8.wrap (Int.fdiv i1 (2 ^ (min (Int.toNat 12) IntKind.i32.bits))))).toNat)), UInt8.ofNat (Int.toNat (IntKind.u8.wrap (BitVec.ofInt IntKind.u8.bits 128 ||| BitVec.ofInt IntKind.u8.bits (IntKind.u8.wrap (BitVec.ofInt IntKind.u8.bits (IntKind.u8.wrap (Int.fdiv i1 (2 ^ (min (Int.toNat 6) IntKind.i32.bits)))) &&& BitVec.ofInt IntKind.u8.bits 63).toNat)).toNat)), UInt8.ofNat (Int.toNat (IntKind.u8.wrap (BitVec.ofInt IntKind.u8.bits 128 ||| BitVec.ofInt IntKind.u8.bits (IntKind.u8.wrap (BitVec.ofInt IntKind.u8.bits (IntKind.u8.wrap i1) &&& BitVec.ofInt IntKind.u8.bits 63).toNat)).toNat))]).length)), true, [AV.nilI]⟩)
    else
    bif decide (((IntKind.u32.wrap i1) : Int) > 65535) then
    (bif decide (((IntKind.u32.wrap i1) : Int) ≤ 1114111) then
    (need (!decide (18 < 0)) <|
    need (!decide (12 < 0)) <|
    need (!decide (6 < 0)) <|
    need (decide (0 ≤ (IntKind.u8.wrap (BitVec.ofInt IntKind.u8.bits 240 ||| BitVec.ofInt IntKind.u8.bits (IntKind.u8.wrap (Int.fdiv i1 (2 ^ (min (Int.toNat 18) IntKind.i32.bits))))).toNat : Int)) && decide ((IntKind.u8.wrap (BitVec.ofInt IntKind.u8.bits 240 ||| BitVec.ofInt IntKind.u8.bits (IntKind.u8.wrap (Int.fdiv i1 (2 ^ (min (Int.toNat 18) IntKind.i32.bits))))).toNat : Int) < 256)) <|
    need (decide (0 ≤ (IntKind.u8.wrap (BitVec.ofInt IntKind.u8.bits 128 ||| BitVec.ofInt IntKind.u8.bits (IntKind.u8.wrap (BitVec.ofInt IntKind.u8.bits (IntKind.u8.wrap (Int.fdiv i1 (2 ^ (min (Int.toNat 12) IntKind.i32.bits)))) &&& BitVec.ofInt IntKind.u8.bits 63).toNat)).toNat : Int)) && decide ((IntKind.u8.wrap (BitVec.ofInt IntKind.u8.bits 128 ||| BitVec.ofInt IntKind.u8.bits (IntKind.u8.wrap (BitVec.ofInt IntKind.u8.bits (IntKind.u8.wrap (Int.fdiv i1 (2 ^ (min (Int.toNat 12) IntKind.i32.bits)))) &&& BitVec.ofInt IntKind.u8.bits 63).toNat)).toNat : Int) < 256)) <|
    need (decide (0 ≤ (IntKind.u8.wrap (BitVec.ofInt IntKind.u8.bits 128 ||| BitVec.ofInt IntKind.u8.bits (IntKind.u8.wrap (BitVec.ofInt IntKind.u8.bits (IntKind.u8.wrap (Int.fdiv i1 (2 ^ (min (Int.toNat 6) IntKind.i32.bits)))) &&& BitVec.ofInt IntKind.u8.bits 63).toNat)).toNat : Int)) && decide ((IntKind.u8.wrap (BitVec.ofInt IntKind.u8.bits 128 ||| BitVec.ofInt IntKind.u8.bits (IntKind.u8.wrap (BitVec.ofInt IntKind.u8.bits (IntKind.u8.wrap (Int.fdiv i1 (2 ^ (min (Int.toNat 6) IntKind.i32.bits)))) &&& BitVec.ofInt IntKind.u8.bits 63).toNat)).toNat : Int) < 256)) <|
    need (decide (0 ≤ (IntKind.u8.wrap (BitVec.ofInt IntKind.u8.bits 128 ||| BitVec.ofInt IntKind.u8.bits (IntKind.u8.wrap (BitVec.ofInt IntKind.u8.bits (IntKind.u8.wrap i1) &&& BitVec.ofInt IntKind.u8.bits 63).toNat)).toNat : Int)) && decide ((IntKind.u8.wrap (BitVec.ofInt IntKind.u8.bits 128 ||| BitVec.ofInt IntKind.u8.bits (IntKind.u8.wrap (BitVec.ofInt IntKind.u8.bits (IntKind.u8.wrap i1) &&& BitVec.ofInt IntKind.u8.bits 63).toNat)).toNat : Int) < 256)) <|
    need (decide (((s1.drop 0).take s1.length).length + ([UInt8.ofNat (Int.toNat (IntKind.u8.wrap (BitVec.ofInt IntKind.u8.bits 240 ||| BitVec.ofInt IntKind.u8.bits (IntKind.u8.wrap (Int.fdiv i1 (2 ^ (min (Int.toNat 18) IntKind.i32.bits))))).toNat)), UInt8.ofNat (Int.toNat (IntKind.u8.wrap (BitVec.ofInt IntKind.u8.bits 128 ||| BitVec.ofInt IntKind.u8.bits (IntKind.u8.wrap (BitVec.ofInt IntKind.u8.bits (IntKind.u8.wrap (Int.fdiv i1 (2 ^ (min (Int.toNat 12) IntKind.i32.bits)))) &&& BitVec.ofInt IntKind.u8.bits 63).toNat)).toNat)), UInt8.ofNat (Int.toNat (IntKind.u8.wrap (BitVec.ofInt IntKind.u8.bits 128 ||| BitVec.ofInt IntKind.u8.bits (IntKind.u8.wrap (BitVec.ofInt IntKind.u8.bits (IntKind.u8.wrap (Int.fdiv i1 (2 ^ (min (Int.toNat 6) IntKind.i32.bits)))) &&& BitVec.ofInt IntKind.u8.bits 63).toNat)).toNat)), UInt8.ofNat (Int.toNat (IntKind.u8.wrap (BitVec.ofInt IntKind.u8.bits 128 ||| BitVec.ofInt IntKind.u8.bits (IntKind.u8.wrap (BitVec.ofInt IntKind.u8.bits (IntKind.u8.wrap i1) &&& BitVec.ofInt IntKind.u8.bits 63).toNat)).toNat))] : List UInt8).length ≤ 1099511627776)) <|
    some ⟨AV.bytes (((((s1.drop 0).take s1.length) ++ [UInt8.ofNat (Int.toNat (IntKind.u8.wrap (BitVec.ofInt IntKind.u8.bits 240 ||| BitVec.ofInt IntKind.u8.bits (IntKind.u8.wrap (Int.fdiv i1 (2 ^ (min (Int.toNat 18) IntKind.i32.bits))))).toNat)), UInt8.ofNat (Int.toNat (IntKind.u8.wrap (BitVec.ofInt IntKind.u8.bits 128 ||| BitVec.ofInt IntKind.u8.bits (IntKind.u8.wrap (BitVec.ofInt IntKind.u8.bits (IntKind.u8.wrap (Int.fdiv i1 (2 ^ (min (Int.toNat 12) IntKind.i32.bits)))) &&& BitVec.ofInt IntKind.u8.bits 63).toNat)).toNat)), UInt8.ofNat (Int.toNat (IntKind.u8.wrap (BitVec.ofInt IntKind.u8.bits 128 ||| BitVec.ofInt IntKind.u8.bits (IntKind.u8.wrap (BitVec.ofInt IntKind.u8.bits (IntKind.u8.wrap (Int.fdiv i1 (2 ^ (min (Int.toNat 6) IntKind.i32.bits)))) &&& BitVec.ofInt IntKind.u8.bits 63).toNat)).toNat)), UInt8.ofNat (Int.toNat (IntKind.u8.wrap (BitVec.ofInt IntKind.u8.bits 128 ||| BitVec.ofInt IntKind.u8.bits (IntKind.u8.wrap (BitVec.ofInt IntKind.u8.bits (IntKind.u8.wrap i1) &&& BitVec.ofInt IntKind.u8.bits 63).toNat)).toNat))]).drop 0).take ((((s1.drop 0).take s1.length) ++ [UInt8.ofNat (Int.toNat (IntKind.u8.wrap (BitVec.ofInt IntKind.u8.bits 240 ||| BitVec.ofInt IntKind.u8.bits (IntKind.u8.wrap (Int.fdiv i1 (2 ^ (min (Int.toNat 18) IntKind.i32.bits))))).toNat)), UInt8.ofNat (Int.toNat (IntKind.u8.wrap (BitVec.ofInt IntKind.u8.bits 128 ||| BitVec.ofInt IntKind.u8.bits (IntKind.u8.wrap (BitVec.ofInt IntKind.u8.bits (IntKind.u8.wrap (Int.fdiv i1 (2 ^ (min (Int.toNat 12) IntKind.i32.bits)))) &&& BitVec.ofInt IntKind.u8.bits 63).toNat)).toNat)), UInt8.ofNat (Int.toNat (IntKind.u8.wrap (BitVec.ofInt IntKind.u8.bits 128 ||| BitVec.ofInt IntKind.u8.bits (IntKind.u8.wrap (BitVec.ofInt IntKind.u8.bits (IntKind.u8.wrap (Int.fdiv i1 (2 ^ (min (Int.toNat 6) IntKind.i32.bits)))) &&& BitVec.ofInt IntKind.u8.bits 63).toNat)).toNat)), UInt8.ofNat (Int.toNat (IntKind.u8.wrap (BitVec.ofInt IntKind.u8.bits 128 ||| BitVec.ofInt IntKind.u8.bits (IntKind.u8.wrap (BitVec.ofInt IntKind.u8.bits (IntKind.u8.wrap i1) &&& BitVec.ofInt IntKind.u8.bits 63).toNat)).toNat))]).length)), true, [AV.nilI]⟩)
    else
    need (decide (((s1.drop 0).take s1.length).length + ([239, 191, 189] : List UInt8).length ≤ 1099511627776)) <|
    some ⟨AV.bytes (((((s1.drop 0).take s1.length) ++ [239, 191, 189]).drop 0).take ((((s1.drop 0).take s1.length) ++ [239, 191, 189]).length)), true, [AV.nilI]⟩)
    else
    need (decide (((s1.drop 0).take s1.length).length + ([239, 191, 189] : List UInt8).length ≤ 1099511627776)) <|
    some ⟨AV.bytes (((((s1.drop 0).take s1.length) ++ [239, 191, 189]).drop 0).take ((((s1.drop 0).take s1.length) ++ [239, 191, 189]).length)), true, [AV.nilI]⟩)
    else
    bif decide (((IntKind.u32.wrap i1) : Int) > 65535) then
    (bif decide (((IntKind.u32.wrap i1) : Int) ≤ 1114111) then
    (need (!decide (18 < 0)) <|
    need (!decide (12 < 0)) <|
    need (!decide (6 < 0)) <|
    need (decide (0 ≤ (IntKind.u8.wrap (BitVec.ofInt IntKind.u8.bits 240 ||| BitVec.ofInt IntKind.u8.bits (IntKind.u8.wrap (Int.fdiv i1 (2 ^ (min (Int.toNat 18) IntKind.i32.bits))))).toNat : Int)) && decide ((IntKind.u8.wrap (BitVec.ofInt IntKind.u8.bits 240 ||| BitVec.ofInt IntKind.u8.bits (IntKind.u8.wrap (Int.fdiv i1 (2 ^ (min (Int.toNat 18) IntKind.i32.bits))))).toNat : Int) < 256)) <|
    need (decide (0 ≤ (IntKind.u8.wrap (BitVec.ofInt IntKind.u8.bits 128 ||| BitVec.ofInt IntKind.u8.bits (IntKind.u8.wrap (BitVec.ofInt IntKind.u8.bits (IntKind.u8.wrap (Int.fdiv i1 (2 ^ (min (Int.toNat 12) IntKind.i32.bits)))) &&& BitVec.ofInt IntKind.u8.bits 63).toNat)).toNat : Int)) && decide ((IntKind.u8.wrap (BitVec.ofInt IntKind.u8.bits 128 ||| BitVec.ofInt IntKind.u8.bits (IntKind.u8.wrap (BitVec.ofInt IntKind.u8.bits (IntKind.u8.wrap (Int.fdiv i1 (2 ^ (min (Int.toNat 12) IntKind.i32.bits)))) &&& BitVec.ofInt IntKind.u8.bits 63).toNat)).toNat : Int) < 256)) <|
    need (decide (0 ≤ (IntKind.u8.wrap (BitVec.ofInt IntKind.u8.bits 128 ||| BitVec.ofInt IntKind.u8.bits (IntKind.u8.wrap (BitVec.ofInt IntKind.u8.bits (IntKind.u8.wrap (Int.fdiv i1 (2 ^ (min (Int.toNat 6) IntKind.i32.bits)))) &&& BitVec.ofInt IntKind.u8.bits 63).toNat)).toNat : Int)) && decide ((IntKind.u8.wrap (BitVec.ofInt IntKind.u8.bits 128 ||| BitVec.ofInt IntKind.u8.bits (IntKind.u8.wrap (BitVec.ofInt IntKind.u8.bits (IntKind.u8.wrap (Int.fdiv i1 (2 ^ (min (Int.toNat 6) IntKind.i32.bits)))) &&& BitVec.ofInt IntKind.u8.bits 63).toNat)).toNat : Int) < 256)) <|
    need (decide (0 ≤ (IntKind.u8.wrap (BitVec.ofInt IntKind.u8.bits 128 ||| BitVec.ofInt IntKind.u8.bits (IntKind.u8.wrap (BitVec.ofInt IntKind.u8.bits (IntKind.u8.wrap i1) &&& BitVec.ofInt IntKind.u8.bits 63).toNat)).toNat : Int)) && decide ((IntKind.u8.wrap (BitVec.ofInt IntKind.u8.bits 128 ||| BitVec.ofInt IntKind.u8.bits (IntKind.u8.wrap (BitVec.ofInt IntKind.u8.bits (IntKind.u8.wrap i1) &&& BitVec.ofInt IntKind.u8.bits 63).toNat)).toNat : Int) < 256)) <|
    need (decide (((s1.drop 0).take s1.length).length + ([UInt8.ofNat (Int.toNat (IntKind.u8.wrap (BitVec.ofInt IntKind.u8.bits 240 ||| BitVec.ofInt IntKind.u8.bits (IntKind.u8.wrap (Int.fdiv i1 (2 ^ (min (Int.toNat 18) IntKind.i32.bits))))).toNat)), UInt8.ofNat (Int.toNat (IntKind.u8.wrap (BitVec.ofInt IntKind.u8.bits 128 ||| BitVec.ofInt IntKind.u8.bits (IntKind.u8.wrap (BitVec.ofInt IntKind.u8.bits (IntKind.u8.wrap (Int.fdiv i1 (2 ^ (min (Int.toNat 12) IntKind.i32.bits)))) &&& BitVec.ofInt IntKind.u8.bits 63).toNat)).toNat)), UInt8.ofNat (Int.toNat (IntKind.u8.wrap (BitVec.ofInt IntKind.u8.bits 128 ||| BitVec.ofInt IntKind.u8.bits (IntKind.u8.wrap (BitVec.ofInt IntKind.u8.bits (IntKind.u8.wrap (Int.fdiv i1 (2 ^ (min (Int.toNat 6) IntKind.i32.bits)))) &&& BitVec.ofInt IntKind.u8.bits 63).toNat)).toNat)), UInt8.ofNat (Int.toNat (IntKind.u8.wrap (BitVec.ofInt IntKind.u8.bits 128 ||| BitVec.ofInt IntKind.u8.bits (IntKind.u8.wrap (BitVec.ofInt IntKind.u8.bits (IntKind.u8.wrap i1) &&& BitVec.ofInt IntKind.u8.bits 63).toNat)).toNat))] : List UInt8).length ≤ 1099511627776)) <|
    some ⟨AV.bytes (((((s1.drop 0).take s1.length) ++ [UInt8.ofNat (Int.toNat (IntKind.u8.wrap (BitVec.ofInt IntKind.u8.bits 240 ||| BitVec.ofInt IntKind.u8.bits (IntKind.u8.wrap (Int.fdiv i1 (2 ^ (min (Int.toNat 18) IntKind.i32.bits))))).toNat)), UInt8.ofNat (Int.toNat (IntKind.u8.wrap (BitVec.ofInt IntKind.u8.bits 128 ||| BitVec.ofInt IntKind.u8.bits (IntKind.u8.wrap (BitVec.ofInt IntKind.u8.bits (IntKind.u8.wrap (Int.fdiv i1 (2 ^ (min (Int.toNat 12) IntKind.i32.bits)))) &&& BitVec.ofInt IntKind.u8.bits 63).toNat)).toNat)), UInt8.ofNat (Int.toNat (IntKind.u8.wrap (BitVec.ofInt IntKind.u8.bits 128 ||| BitVec.ofInt IntKind.u8.bits (IntKind.u8.wrap (BitVec.ofInt IntKind.u8.bits (IntKind.u8.wrap (Int.fdiv i1 (2 ^ (min (Int.toNat 6) IntKind.i32.bits)))) &&& BitVec.ofInt IntKind.u8.bits 63).toNat)).toNat)), UInt8.ofNat (Int.toNat (IntKind.u8.wrap (BitVec.ofInt IntKind.u8.bits 128 ||| BitVec.ofInt IntKind.u8.bits (IntKind.u8.wrap (BitVec.ofInt IntKind.u8.bits (IntKind.u8.wrap i1) &&& BitVec.ofInt IntKind.u8.bits 63).toNat)).toNat))]).drop 0).take ((((s1.drop 0).take s1.length) ++ [UInt8.ofNat (Int.toNat (IntKind.u8.wrap (BitVec.ofInt IntKind.u8.bits 240 ||| BitVec.ofInt IntKind.u8.bits (IntKind.u8.wrap (Int.fdiv i1 (2 ^ (min (Int.toNat 18) IntKind.i32.bits))))).toNat)), UInt8.ofNat (Int.toNat (IntKind.u8.wrap (BitVec.ofInt IntKind.u8.bits 128 ||| BitVec.ofInt IntKind.u8.bits (IntKind.u8.wrap (BitVec.ofInt IntKind.u8.bits (IntKind.u8.wrap (Int.fdiv i1 (2 ^ (min (Int.toNat 12) IntKind.i32.bits)))) &&& BitVec.ofInt IntKind.u8.bits 63).toNat)).toNat)), UInt8.ofNat (Int.toNat (IntKind.u8.wrap (BitVec.ofInt IntKind.u8.bits 128 ||| BitVec.ofInt IntKind.u8.bits (IntKind.u8.wrap (BitVec.ofInt IntKind.u8.bits (IntKind.u8.wrap (Int.fdiv i1 (2 ^ (min (Int.toNat 6) IntKind.i32.bits)))) &&& BitVec.ofInt IntKind.u8.bits 63).toNat)).toNat)), UInt8.ofNat (Int.toNat (IntKind.u8.wrap (BitVec.ofInt IntKind.u8.bits 128 ||| BitVec.ofInt IntKind.u8.bits (IntKind.u8.wrap (BitVec.ofInt IntKind.u8.bits (IntKind.u8.wrap i1) &&& BitVec.ofInt IntKind.u8.bits 63).toNat)).toNat))]).length)), true, [AV.nilI]⟩)
    else
    need (decide (((s1.drop 0).take s1.length).length + ([239, 191, 189] : List UInt8).length ≤ 1099511627776)) <|
    some ⟨AV.bytes (((((s1.drop 0).take s1.length) ++ [239, 191, 189]).drop 0).take ((((s1.drop 0).take s1.length) ++ [239, 191, 189]).length)), true, [AV.nilI]⟩)
    else
    need (decide (((s1.drop 0).take s1.length).length + ([239, 191, 189] : List UInt8).length ≤ 1099511627776)) <|
    some ⟨AV.bytes (((((s1.drop 0).take s1.length) ++ [239, 191, 189]).drop 0).take ((((s1.drop 0).take s1.length) ++ [239, 191, 189]).length)), true, [AV.nilI]⟩
theorem unicodeUtf8AppendRuneNonASCII_eq (R : Nat → List AV → Option Res) (N : Nat) (s1 : List UInt8) (i1 : Int) : runF gl R N unicodeUtf8AppendRuneNonASCII [AV.ref (AV.bytes s1), AV.int .i32 i1] = unicodeUtf8AppendRuneNonASCIIr R N s1 i1 := by
  kernel_rfl
theorem unicodeUtf8AppendRuneNonASCII_fit : fitF Tryd.prog unicodeUtf8AppendRuneNonASCII Tryd.f70 = true := by
  kernel_rfl

def unicodeUtf8AppendRune_c0 : AC := .seq (.region [.op (some 4) none (.nilOwn 15 none)]) (.seq (.seq (.region [.op (some 5) none (.mv (.t 1)), .op (some 6) none (.cvInt .u32 (.t 5)), .op (some 7) none (.bin .leq (.t 6) (.k (AV.int .u32 127)))]) (.cond (.t 7) (.seq (.region [.op (some 8) none (.mv (.t 0)), .op (some 9) none (.mv (.t 1)), .op (some 10) none (.cvInt .u8 (.t 9)), .op (some 11) none (.bslice [.t 10] 1 true), .op (some 12) none (.app 15 (.t 8) (.t 11) 1 .any true), .op (some 4) none (.mv (.t 12))]) (.ret [4] [15])) (.skip))) (.seq (.region [.op (some 13) none (.mv (.t 0)), .op (some 14) none (.mv (.t 1)), .op (some 15) none (.callM (some (15, 1, true)) id_unicodeUtf8AppendRuneNonASCII [.t 13, .t 14] [true, false] [none] (.bytes)), .op (some 4) none (.mv (.t 15))]) (.ret [4] [15])))
def unicodeUtf8AppendRune : AFunc := ⟨2, 16, [.tmp 4], unicodeUtf8AppendRune_c0⟩
def unicodeUtf8AppendRuner (R : Nat → List AV → Option Res) (N : Nat) (s1 : List UInt8) (i1 : Int) : Option Res :=
  bif decide (((IntKind.u32.wrap i1) : Int) ≤ 127) then
    (need (decide (0 ≤ (IntKind.u8.wrap i1 : Int)) && decide ((IntKind.u8.wrap i1 : Int) < 256)) <|
    need (decide (((s1.drop 0).take s1.length).length + ([UInt8.ofNat (Int.toNat (IntKind.u8.wrap i1))] : List UInt8).length ≤ 1099511627776)) <|
    some ⟨AV.bytes (((((s1.drop 0).take s1.length) ++ [UInt8.ofNat (Int.toNat (IntKind.u8.wrap i1))]).drop 0).take ((((s1.drop 0).take s1.length) ++ [UInt8.ofNat (Int.toNat (IntKind.u8.wrap i1))]).length)), true, [AV.nilI]⟩)
  else
    need (Nat.beq s1.length s1.length) <|
    (R id_unicodeUtf8AppendRuneNonASCII [AV.ref (AV.bytes s1), AV.int .i32 i1]).bind fun r1 =>
    asC r1.outs fun o1 q1 =>
    asN q1 <|
    need r1.own <|
    asY r1.v fun s2 =>
    some ⟨AV.bytes ((s2.drop 0).take s2.length), true, [AV.nilI]⟩
theorem unicodeUtf8AppendRune_eq (R : Nat → List AV → Option Res) (N : Nat) (s1 : List UInt8) (i1 : Int) : runF gl R N unicodeUtf8AppendRune [AV.ref (AV.bytes s1), AV.int .i32 i1] = unicodeUtf8AppendRuner R N s1 i1 := by
  kernel_rfl
theorem unicodeUtf8AppendRune_fit : fitF Tryd.prog unicodeUtf8AppendRune Tryd.f57 = true := by
  kernel_rfl

def doubleTake_L1s (R : Nat → List AV → Option Res) (N : Nat) (go : List UInt8 → Int → List UInt8 → Option Res) (k0 : List UInt8 → Int → Bool → Option Res) (k1 : Option Res) (s2 : List UInt8) (i1 : Int) (s3 : List UInt8) : Option Res :=
  bif decide ((i1 : Int) < ((s2.length : Nat) : Int)) then
    (need (decide (0 ≤ (i1 : Int))) <|
    (s2[Int.toNat i1]?).bind fun c2 =>
    bif ((c2.toNat : Int) : Int) == 10 then
    (bif ((c2.toNat : Int) : Int) == 10 then
    (k0 ([] : List UInt8) 0 false)
    else
    bif ((c2.toNat : Int) : Int) == 34 then
    (k0 ((s3.drop 0).take s3.length) (IntKind.i64.wrap (i1 + 1)) true)
    else
    bif ((c2.toNat : Int) : Int) == 92 then
    (need (decide (0 ≤ (IntKind.i64.wrap (i1 + 1) : Int)) && decide ((IntKind.i64.wrap (i1 + 1) : Int) ≤ ((s2.length : Nat) : Int))) <|
    (R id_doubleEscape [AV.bytes ((s2.take s2.length).drop (Int.toNat (IntKind.i64.wrap (i1 + 1))))]).bind fun r1 =>
    asJIBT r1.v fun i2 i3 b1 =>
    bif !b1 then
    (k0 ([] : List UInt8) 0 false)
    else
    need (Nat.beq s3.length s3.length) <|
    (R id_unicodeUtf8AppendRune [AV.ref (AV.bytes s3), AV.int .i32 i2]).bind fun r2 =>
    asC r2.outs fun o1 q1 =>
    asN q1 <|
    need r2.own <|
    asY r2.v fun s4 =>
    go s2 (IntKind.i64.wrap ((IntKind.i64.wrap (i1 + i3)) + 1)) s4)
    else
    need (decide (0 ≤ (i1 : Int))) <|
    (s2[Int.toNat i1]?).bind fun c3 =>
    need (decide (0 ≤ ((c3.toNat : Int) : Int)) && decide (((c3.toNat : Int) : Int) < 256)) <|
    need (decide (((s3.drop 0).take s3.length).length + ([UInt8.ofNat (Int.toNat (c3.toNat : Int))] : List UInt8).length ≤ 1099511627776)) <|
    go s2 (IntKind.i64.wrap (i1 + 1)) (((s3.drop 0).take s3.length) ++ [UInt8.ofNat (Int.toNat (c3.toNat : Int))]))
    else
    bif ((c2.toNat : Int) : Int) == 13 then
    (k0 ([] : List UInt8) 0 false)
    else
    bif ((c2.toNat : Int) : Int) == 34 then
    (k0 ((s3.drop 0).take s3.length) (IntKind.i64.wrap (i1 + 1)) true)
    else
    bif ((c2.toNat : Int) : Int) == 92 then
    (need (decide (0 ≤ (IntKind.i64.wrap (i1 + 1) : Int)) && decide ((IntKind.i64.wrap (i1 + 1) : Int) ≤ ((s2.length : Nat) : Int))) <|
    (R id_doubleEscape [AV.bytes ((s2.take s2.length).drop (Int.toNat (IntKind.i64.wrap (i1 + 1))))]).bind fun r3 =>
    asJIBT r3.v fun i4 i5 b2 =>
    bif !b2 then
    (k0 ([] : List UInt8) 0 false)
    else
    need (Nat.beq s3.length s3.length) <|
    (R id_unicodeUtf8AppendRune [AV.ref (AV.bytes s3), AV.int .i32 i4]).bind fun r4 =>
    asC r4.outs fun o2 q2 =>
    asN q2 <|
    need r4.own <|
    asY r4.v fun s5 =>
    go s2 (IntKind.i64.wrap ((IntKind.i64.wrap (i1 + i5)) + 1)) s5)
    else
    need (decide (0 ≤ (i1 : Int))) <|
    (s2[Int.toNat i1]?).bind fun c4 =>
    need (decide (0 ≤ ((c4.toNat : Int) : Int)) && decide (((c4.toNat : Int) : Int) < 256)) <|
    need (decide (((s3.drop 0).take s3.length).length + ([UInt8.ofNat (Int.toNat (c4.toNat : Int))] : List UInt8).length ≤ 1099511627776)) <|
    go s2 (IntKind.i64.wrap (i1 + 1)) (((s3.drop 0).take s3.length) ++ [UInt8.ofNat (Int.toNat (c4.toNat : Int))]))
  else
    k1
def doubleTake_L1 (R : Nat → List AV → Option Res) (N : Nat) (k0 : List UInt8 → Int → Bool → Option Res) (k1 : Option Res) : Nat → List UInt8 → Int → List UInt8 → Option Res
  | 0, _, _, _ => none
  | n + 1, s2, i1, s3 => doubleTake_L1s R N (doubleTake_L1 R N k0 k1 n) k0 k1 s2 i1 s3
def doubleTake_c0 : AC := .seq (.seq (.region [.op (some 19) none (.mv (.t 6)), .op (some 20) none (.mv (.t 0)), .op (some 21) none (.len (.t 20) false), .op (some 22) none (.bin .lss (.t 19) (.t 21))]) (.cond (.t 22) (.skip) (.exit 0 [] []))) (.seq (.block 1 (.seq (.region [.op (some 25) none (.mv (.t 0)), .op (some 26) none (.mv (.t 6)), .op (some 27) none (.iaddr (.t 25) (.t 26) 1 (.int .u8)), .op (some 28) none (.load (.t 27) none (.int .u8))]) (.block 2 (.seq (.seq (.region [.op (some 37) none (.bin .eql (.t 28) (.k (AV.int .u8 10))), .op (some 36) none (.mv (.t 37))]) (.cond (.t 36) (.skip) (.region [.op (some 38) none (.bin .eql (.t 28) (.k (AV.int .u8 13))), .op (some 36) none (.mv (.t 38))]))) (.cond (.t 36) (.seq (.region [.op (some 2) none (.mv (.k (AV.str ([] : List UInt8)))), .op (some 3) none (.mv (.k (AV.int .i64 0))), .op (some 4) none (.mv (.k (AV.bool false)))]) (.ret [2, 3, 4] [])) (.seq (.region [.op (some 40) none (.bin .eql (.t 28) (.k (AV.int .u8 34))), .op (some 39) none (.mv (.t 40))]) (.cond (.t 39) (.seq (.region [.op (some 41) none (.mv (.t 5)), .op (some 42) none (.cvStr (.t 41)), .op (some 43) none (.mv (.t 6)), .op (some 44) none (.bin .add (.t 43) (.k (AV.int .i64 1))), .op (some 2) none (.mv (.t 42)), .op (some 3) none (.mv (.t 44)), .op (some 4) none (.mv (.k (AV.bool true)))]) (.ret [2, 3, 4] [])) (.seq (.region [.op (some 46) none (.bin .eql (.t 28) (.k (AV.int .u8 92))), .op (some 45) none (.mv (.t 46))]) (.cond (.t 45) (.seq (.region [.op (some 48) none (.mv (.t 0)), .op (some 49) none (.mv (.t 6)), .op (some 50) none (.bin .add (.t 49) (.k (AV.int .i64 1))), .op (some 51) none (.slice (.t 48) (some (.t 50)) none 1), .op (some 52) none (.call id_doubleEscape [.t 51] (.tup [.int .i32, .int .i64, .bool])), .op (some 47) none (.mv (.t 52)), .op (some 53) none (.extract (.t 47) 0), .op (some 54) none (.extract (.t 47) 1), .op (some 55) none (.extract (.t 47) 2), .op (some 7) none (.mv (.t 53)), .op (some 8) none (.mv (.t 54)), .op (some 9) none (.mv (.t 55))]) (.seq (.seq (.region [.op (some 56) none (.mv (.t 9)), .op (some 57) none (.un .not (.t 56))]) (.cond (.t 57) (.seq (.region [.op (some 2) none (.mv (.k (AV.str ([] : List UInt8)))), .op (some 3) none (.mv (.k (AV.int .i64 0))), .op (some 4) none (.mv (.k (AV.bool false)))]) (.ret [2, 3, 4] [])) (.skip))) (.seq (.region [.op (some 58) none (.mv (.t 5)), .op (some 59) none (.mv (.t 7)), .op (some 60) none (.callM (some (60, 1, true)) id_unicodeUtf8AppendRune [.t 58, .t 59] [true, false] [none] (.bytes)), .op (some 5) none (.mv (.t 60))]) (.region [.op (some 61) none (.mv (.t 6)), .op (some 62) none (.mv (.t 8)), .op (some 63) none (.bin .add (.t 61) (.t 62)), .op (some 6) none (.mv (.t 63))])))) (.region [.op (some 29) none (.mv (.t 5)), .op (some 30) none (.mv (.t 0)), .op (some 31) none (.mv (.t 6)), .op (some 32) none (.iaddr (.t 30) (.t 31) 1 (.int .u8)), .op (some 33) none (.load (.t 32) none (.int .u8)), .op (some 34) none (.bslice [.t 33] 1 true), .op (some 35) none (.app 60 (.t 29) (.t 34) 1 .any true), .op (some 5) none (.mv (.t 35))])))))))))) (.region [.op (some 23) none (.mv (.t 6)), .op (some 24) none (.bin .add (.t 23) (.k (AV.int .i64 1))), .op (some 6) none (.mv (.t 24))]))
theorem doubleTake_L1s_eq (R : Nat → List AV → Option Res) (N : Nat) (K : Ex → St → Option Res) (W : St → Option Res) (s2 : List UInt8) (i1 : Int) (s3 : List UInt8) :
    evC gl R N doubleTake_c0 (Kseq (fun st' => W (prune [0, 5, 6] [60] st')) K) ⟨[(0, .imm (AV.bytes s2)), (5, .own 60 0 s3.length none), (6, .imm (AV.int .i64 i1))], [(60, .bytes s3 false)]⟩ =
    doubleTake_L1s R N (fun (s2 : List UInt8) (i1 : Int) (s3 : List UInt8) => W ⟨[(0, .imm (AV.bytes s2)), (5, .own 60 0 s3.length none), (6, .imm (AV.int .i64 i1))], [(60, .bytes s3 false)]⟩) (fun (s6 : List UInt8) (i6 : Int) (b3 : Bool) => K .ret ⟨[(2, .imm (AV.str s6)), (3, .imm (AV.int .i64 i6)), (4, .imm (AV.bool b3))], []⟩) (K (.exit 0) ⟨[], []⟩) s2 i1 s3 := by
  kernel_rfl
theorem doubleTake_L1_eq (R : Nat → List AV → Option Res) (N : Nat) (K : Ex → St → Option Res) : ∀ (n : Nat) (s2 : List UInt8) (i1 : Int) (s3 : List UInt8),
    rounds [0, 5, 6] [60] (evC gl R N doubleTake_c0) K n ⟨[(0, .imm (AV.bytes s2)), (5, .own 60 0 s3.length none), (6, .imm (AV.int .i64 i1))], [(60, .bytes s3 false)]⟩ = doubleTake_L1 R N (fun (s6 : List UInt8) (i6 : Int) (b3 : Bool) => K .ret ⟨[(2, .imm (AV.str s6)), (3, .imm (AV.int .i64 i6)), (4, .imm (AV.bool b3))], []⟩) (K (.exit 0) ⟨[], []⟩) n s2 i1 s3
  | 0, _, _, _ => rfl
  | n + 1, s2, i1, s3 => (doubleTake_L1s_eq R N K (rounds [0, 5, 6] [60] (evC gl R N doubleTake_c0) K n) s2 i1 s3).trans
      (congrArg (fun go => doubleTake_L1s R N go (fun (s6 : List UInt8) (i6 : Int) (b3 : Bool) => K .ret ⟨[(2, .imm (AV.str s6)), (3, .imm (AV.int .i64 i6)), (4, .imm (AV.bool b3))], []⟩) (K (.exit 0) ⟨[], []⟩) s2 i1 s3) (funext fun s2 => funext fun i1 => funext fun s3 => doubleTake_L1_eq R N K n s2 i1 s3))
def doubleTake_c1 : AC := .seq (.region [.op (some 2) none (.mv (.k (AV.str ([] : List UInt8)))), .op (some 3) none (.mv (.k (AV.int .i64 0))), .op (some 4) none (.mv (.k (AV.bool false)))]) (.ret [2, 3, 4] [])
def doubleTake_c2 : AC := .seq (.region [.op (some 2) none (.mv (.k (AV.str ([] : List UInt8)))), .op (some 3) none (.mv (.k (AV.int .i64 0))), .op (some 4) none (.mv (.k (AV.bool false)))]) (.seq (.seq (.region [.op (some 10) none (.mv (.t 0)), .op (some 11) none (.len (.t 10) false), .op (some 12) none (.bin .eql (.t 11) (.k (AV.int .i64 0))), .op (some 13) none (.mv (.t 12)), .split 13, .op (some 14) (some (13, false)) (.mv (.t 0)), .op (some 15) (some (13, false)) (.iaddr (.t 14) (.k (AV.int .i64 0)) 1 (.int .u8)), .op (some 16) (some (13, false)) (.load (.t 15) none (.int .u8)), .op (some 17) (some (13, false)) (.bin .neq (.t 16) (.k (AV.int .u8 34))), .op (some 18) none (.pick (.t 13) (.k (AV.bool true)) (.t 17))]) (.cond (.t 18) (.seq (.region [.op (some 2) none (.mv (.k (AV.str ([] : List UInt8)))), .op (some 3) none (.mv (.k (AV.int .i64 0))), .op (some 4) none (.mv (.k (AV.bool false)))]) (.ret [2, 3, 4] [])) (.skip))) (.seq (.region [.op (some 5) none (.nilOwn 60 none)]) (.seq (.seq (.region [.op (some 6) none (.mv (.k (AV.int .i64 1)))]) (.block 0 (.loop [0, 5, 6] [60] (doubleTake_c0)))) (doubleTake_c1))))
def doubleTake : AFunc := ⟨1, 64, [.tmp 2, .tmp 3, .tmp 4], doubleTake_c2⟩
def doubleTaker (R : Nat → List AV → Option Res) (N : Nat) (s1 : List UInt8) : Option Res :=
  bif (((s1.length : Nat) : Int) : Int) == 0 then
    (some ⟨AV.tup [AV.str ([] : List UInt8), AV.int .i64 0, AV.bool false], false, []⟩)
  else
    need (decide (0 ≤ (0 : Int))) <|
    (s1[Int.toNat 0]?).bind fun c1 =>
    bif ((c1.toNat : Int) : Int) != 34 then
    (some ⟨AV.tup [AV.str ([] : List UInt8), AV.int .i64 0, AV.bool false], false, []⟩)
    else
    doubleTake_L1 R N
      (fun s8 i8 b5 =>
    some ⟨AV.tup [AV.str s8, AV.int .i64 i8, AV.bool b5], false, []⟩)
      (
    some ⟨AV.tup [AV.str ([] : List UInt8), AV.int .i64 0, AV.bool false], false, []⟩)
      N s1 1 []
theorem doubleTake_eq (R : Nat → List AV → Option Res) (N : Nat) (s1 : List UInt8) : runF gl R N doubleTake [AV.bytes s1] = doubleTaker R N s1 := by
  refine Eq.trans (b :=
    bif (((s1.length : Nat) : Int) : Int) == 0 then
    (some ⟨AV.tup [AV.str ([] : List UInt8), AV.int .i64 0, AV.bool false], false, []⟩)
    else
    need (decide (0 ≤ (0 : Int))) <|
    (s1[Int.toNat 0]?).bind fun c1 =>
    bif ((c1.toNat : Int) : Int) != 34 then
    (some ⟨AV.tup [AV.str ([] : List UInt8), AV.int .i64 0, AV.bool false], false, []⟩)
    else
    rounds [0, 5, 6] [60] (evC gl R N doubleTake_c0) (Kblock 0 (Kthen gl R N doubleTake_c1 (Kret doubleTake.rets []))) N ⟨[(0, .imm (AV.bytes s1)), (5, .own 60 0 (([] : List UInt8).length) none), (6, .imm (AV.int .i64 1))], [(60, .bytes [] false)]⟩) (by kernel_rfl) ?_
  simp (config := { maxSteps := 100000000 }) only [doubleTake_L1_eq]
  kernel_rfl
theorem doubleTake_fit : fitF Tryd.prog doubleTake Tryd.f41 = true := by
  kernel_rfl

def charsLetter_c0 : AC := .seq (.region [.op (some 2) none (.mv (.k (AV.bool false)))]) (.seq (.region [.op (some 3) none (.mv (.t 0)), .op (some 4) none (.bin .geq (.t 3) (.k (AV.int .u8 97))), .op (some 5) none (.mv (.t 4)), .split 5, .op (some 6) (some (5, true)) (.mv (.t 0)), .op (some 7) (some (5, true)) (.bin .leq (.t 6) (.k (AV.int .u8 122))), .op (some 8) none (.pick (.t 5) (.t 7) (.k (AV.bool false))), .op (some 9) none (.mv (.t 8)), .split 9, .op (some 10) (some (9, false)) (.mv (.t 0)), .op (some 11) (some (9, false)) (.bin .geq (.t 10) (.k (AV.int .u8 65))), .op (some 12) (some (9, false)) (.mv (.t 11)), .split 12, .op (some 13) (some (12, true)) (.mv (.t 0)), .op (some 14) (some (12, true)) (.bin .leq (.t 13) (.k (AV.int .u8 90))), .op (some 15) (some (9, false)) (.pick (.t 12) (.t 14) (.k (AV.bool false))), .op (some 16) none (.pick (.t 9) (.k (AV.bool true)) (.t 15)), .op (some 17) none (.mv (.t 16)), .split 17, .op (some 18) (some (17, false)) (.mv (.t 0)), .op (some 19) (some (17, false)) (.call id_charsDigit [.t 18] (.bool)), .op (some 20) none (.pick (.t 17) (.k (AV.bool true)) (.t 19)), .op (some 21) none (.mv (.t 20)), .split 21, .op (some 22) (some (21, false)) (.mv (.t 0)), .op (some 23) (some (21, false)) (.bin .eql (.t 22) (.k (AV.int .u8 45))), .op (some 24) none (.pick (.t 21) (.k (AV.bool true)) (.t 23)), .op (some 25) none (.mv (.t 24)), .split 25, .op (some 26) (some (25, false)) (.mv (.t 0)), .op (some 27) (some (25, false)) (.bin .eql (.t 26) (.k (AV.int .u8 95))), .op (some 28) none (.pick (.t 25) (.k (AV.bool true)) (.t 27)), .op (some 2) none (.mv (.t 28))]) (.ret [2] []))
def charsLetter : AFunc := ⟨1, 29, [.tmp 2], charsLetter_c0⟩
def charsLetterr (R : Nat → List AV → Option Res) (N : Nat) (i1 : Int) : Option Res :=
  bif decide ((i1 : Int) ≥ 97) then
    (bif decide ((i1 : Int) ≤ 122) then
    (some ⟨AV.bool true, false, []⟩)
    else
    bif decide ((i1 : Int) ≥ 65) then
    (bif decide ((i1 : Int) ≤ 90) then
    (some ⟨AV.bool true, false, []⟩)
    else
    (R id_charsDigit [AV.int .u8 i1]).bind fun r1 =>
    asB r1.v fun b1 =>
    bif b1 then
    (some ⟨AV.bool true, false, []⟩)
    else
    bif (i1 : Int) == 45 then
    (some ⟨AV.bool true, false, []⟩)
    else
    some ⟨AV.bool ((i1 : Int) == 95), false, []⟩)
    else
    (R id_charsDigit [AV.int .u8 i1]).bind fun r2 =>
    asB r2.v fun b2 =>
    bif b2 then
    (some ⟨AV.bool true, false, []⟩)
    else
    bif (i1 : Int) == 45 then
    (some ⟨AV.bool true, false, []⟩)
    else
    some ⟨AV.bool ((i1 : Int) == 95), false, []⟩)
  else
    bif decide ((i1 : Int) ≥ 65) then
    (bif decide ((i1 : Int) ≤ 90) then
    (some ⟨AV.bool true, false, []⟩)
    else
    (R id_charsDigit [AV.int .u8 i1]).bind fun r3 =>
    asB r3.v fun b3 =>
    bif b3 then
    (some ⟨AV.bool true, false, []⟩)
    else
    bif (i1 : Int) == 45 then
    (some ⟨AV.bool true, false, []⟩)
    else
    some ⟨AV.bool ((i1 : Int) == 95), false, []⟩)
    else
    (R id_charsDigit [AV.int .u8 i1]).bind fun r4 =>
    asB r4.v fun b4 =>
    bif b4 then
    (some ⟨AV.bool true, false, []⟩)
    else
    bif (i1 : Int) == 45 then
    (some ⟨AV.bool true, false, []⟩)
    else
    some ⟨AV.bool ((i1 : Int) == 95), false, []⟩
theorem charsLetter_eq (R : Nat → List AV → Option Res) (N : Nat) (i1 : Int) : runF gl R N charsLetter [AV.int .u8 i1] = charsLetterr R N i1 := by
  kernel_rfl
theorem charsLetter_fit : fitF Tryd.prog charsLetter Tryd.f47 = true := by
  kernel_rfl

def charsName_L1s (R : Nat → List AV → Option Res) (N : Nat) (go : List UInt8 → List UInt8 → Int → Int → Option Res) (k0 : Bool → Option Res) (k1 : List UInt8 → Option Res) (s2 : List UInt8) (s3 : List UInt8) (i1 : Int) (i2 : Int) : Option Res :=
  bif decide ((i2 : Int) < i1) then
    (need (decide (0 ≤ (i2 : Int))) <|
    (s3[Int.toNat i2]?).bind fun c1 =>
    (R id_charsLetter [AV.int .u8 (c1.toNat : Int)]).bind fun r1 =>
    asB r1.v fun b1 =>
    bif !b1 then
    (k0 false)
    else
    go s2 s3 i1 (IntKind.i64.wrap (i2 + 1)))
  else
    k1 s2
def charsName_L1 (R : Nat → List AV → Option Res) (N : Nat) (k0 : Bool → Option Res) (k1 : List UInt8 → Option Res) : Nat → List UInt8 → List UInt8 → Int → Int → Option Res
  | 0, _, _, _, _ => none
  | n + 1, s2, s3, i1, i2 => charsName_L1s R N (charsName_L1 R N k0 k1 n) k0 k1 s2 s3 i1 i2
def charsName_c0 : AC := .seq (.region [.op (some 9) none (.bin .lss (.t 8) (.t 7))]) (.seq (.cond (.t 9) (.skip) (.exit 0 [0] [])) (.seq (.block 1 (.seq (.region [.op (some 10) none (.iaddr (.t 6) (.t 8) 1 (.int .u8)), .op (some 11) none (.load (.t 10) none (.int .u8)), .op (some 4) none (.mv (.t 11))]) (.seq (.region [.op (some 12) none (.mv (.t 4)), .op (some 13) none (.call id_charsLetter [.t 12] (.bool)), .op (some 14) none (.un .not (.t 13))]) (.cond (.t 14) (.seq (.region [.op (some 2) none (.mv (.k (AV.bool false)))]) (.ret [2] [])) (.skip))))) (.region [.op (some 15) none (.bin .add (.t 8) (.k (AV.int .i64 1))), .op (some 8) none (.mv (.t 15))])))
theorem charsName_L1s_eq (R : Nat → List AV → Option Res) (N : Nat) (K : Ex → St → Option Res) (W : St → Option Res) (s2 : List UInt8) (s3 : List UInt8) (i1 : Int) (i2 : Int) :
    evC gl R N charsName_c0 (Kseq (fun st' => W (prune [0, 6, 7, 8] [] st')) K) ⟨[(0, .imm (AV.str s2)), (6, .imm (AV.bytes s3)), (7, .imm (AV.int .i64 i1)), (8, .imm (AV.int .i64 i2))], []⟩ =
    charsName_L1s R N (fun (s2 : List UInt8) (s3 : List UInt8) (i1 : Int) (i2 : Int) => W ⟨[(0, .imm (AV.str s2)), (6, .imm (AV.bytes s3)), (7, .imm (AV.int .i64 i1)), (8, .imm (AV.int .i64 i2))], []⟩) (fun (b2 : Bool) => K .ret ⟨[(2, .imm (AV.bool b2))], []⟩) (fun (s4 : List UInt8) => K (.exit 0) ⟨[(0, .imm (AV.str s4))], []⟩) s2 s3 i1 i2 := by
  kernel_rfl
theorem charsName_L1_eq (R : Nat → List AV → Option Res) (N : Nat) (K : Ex → St → Option Res) : ∀ (n : Nat) (s2 : List UInt8) (s3 : List UInt8) (i1 : Int) (i2 : Int),
    rounds [0, 6, 7, 8] [] (evC gl R N charsName_c0) K n ⟨[(0, .imm (AV.str s2)), (6, .imm (AV.bytes s3)), (7, .imm (AV.int .i64 i1)), (8, .imm (AV.int .i64 i2))], []⟩ = charsName_L1 R N (fun (b2 : Bool) => K .ret ⟨[(2, .imm (AV.bool b2))], []⟩) (fun (s4 : List UInt8) => K (.exit 0) ⟨[(0, .imm (AV.str s4))], []⟩) n s2 s3 i1 i2
  | 0, _, _, _, _ => rfl
  | n + 1, s2, s3, i1, i2 => (charsName_L1s_eq R N K (rounds [0, 6, 7, 8] [] (evC gl R N charsName_c0) K n) s2 s3 i1 i2).trans
      (congrArg (fun go => charsName_L1s R N go (fun (b2 : Bool) => K .ret ⟨[(2, .imm (AV.bool b2))], []⟩) (fun (s4 : List UInt8) => K (.exit 0) ⟨[(0, .imm (AV.str s4))], []⟩) s2 s3 i1 i2) (funext fun s2 => funext fun s3 => funext fun i1 => funext fun i2 => charsName_L1_eq R N K n s2 s3 i1 i2))
def charsName_c1 : AC := .seq (.region [.op (some 16) none (.mv (.t 0)), .op (some 17) none (.bin .neq (.t 16) (.k (AV.str ([] : List UInt8)))), .op (some 18) none (.mv (.t 17)), .split 18, .op (some 19) (some (18, true)) (.mv (.t 0)), .op (some 20) (some (18, true)) (.len (.t 19) true), .op (some 21) (some (18, true)) (.bin .leq (.t 20) (.k (AV.int .i64 32))), .op (some 22) none (.pick (.t 18) (.t 21) (.k (AV.bool false))), .op (some 2) none (.mv (.t 22))]) (.ret [2] [])
def charsName_c2 : AC := .seq (.region [.op (some 2) none (.mv (.k (AV.bool false)))]) (.seq (.seq (.region [.op (some 5) none (.mv (.t 0)), .op (some 6) none (.cvBytes (.t 5)), .op (some 7) none (.len (.t 6) false), .op (some 8) none (.mv (.k (AV.int .i64 0)))]) (.block 0 (.loop [0, 6, 7, 8] [] (charsName_c0)))) (charsName_c1))
def charsName : AFunc := ⟨1, 23, [.tmp 2], charsName_c2⟩
def charsNamer (R : Nat → List AV → Option Res) (N : Nat) (s1 : List UInt8) : Option Res :=
  charsName_L1 R N
    (fun b4 =>
    some ⟨AV.bool b4, false, []⟩)
    (fun s6 =>
    bif !(s6 == ([] : List UInt8)) then
    (some ⟨AV.bool (decide ((((s6.length : Nat) : Int) : Int) ≤ 32)), false, []⟩)
    else
    some ⟨AV.bool false, false, []⟩)
    N s1 s1 ((s1.length : Nat) : Int) 0
theorem charsName_eq (R : Nat → List AV → Option Res) (N : Nat) (s1 : List UInt8) : runF gl R N charsName [AV.str s1] = charsNamer R N s1 := by
  refine Eq.trans (b :=
    rounds [0, 6, 7, 8] [] (evC gl R N charsName_c0) (Kblock 0 (Kthen gl R N charsName_c1 (Kret charsName.rets []))) N ⟨[(0, .imm (AV.str s1)), (6, .imm (AV.bytes s1)), (7, .imm (AV.int .i64 ((s1.length : Nat) : Int))), (8, .imm (AV.int .i64 0))], []⟩) (by kernel_rfl) ?_
  simp (config := { maxSteps := 100000000 }) only [charsName_L1_eq]
  kernel_rfl
theorem charsName_fit : fitF Tryd.prog charsName Tryd.f37 = true := by
  kernel_rfl

def pathName_L1s (R : Nat → List AV → Option Res) (N : Nat) (go : List UInt8 → Int → Option Res) (k0 : List UInt8 → Int → Option Res) (s2 : List UInt8) (i1 : Int) : Option Res :=
  bif decide ((i1 : Int) < ((s2.length : Nat) : Int)) then
    (need (decide (0 ≤ (IntKind.i64.wrap (i1 + 1) : Int)) && decide ((IntKind.i64.wrap (i1 + 1) : Int) ≤ ((s2.length : Nat) : Int))) <|
    need (decide (0 ≤ (i1 : Int)) && decide ((i1 : Int) ≤ ((Int.toNat (IntKind.i64.wrap (i1 + 1)) : Nat) : Int))) <|
    (R id_charsName [AV.str ((s2.take (Int.toNat (IntKind.i64.wrap (i1 + 1)))).drop (Int.toNat i1))]).bind fun r1 =>
    asB r1.v fun b1 =>
    bif b1 then
    (go s2 (IntKind.i64.wrap (i1 + 1)))
    else
    k0 s2 i1)
  else
    k0 s2 i1
def pathName_L1 (R : Nat → List AV → Option Res) (N : Nat) (k0 : List UInt8 → Int → Option Res) : Nat → List UInt8 → Int → Option Res
  | 0, _, _ => none
  | n + 1, s2, i1 => pathName_L1s R N (pathName_L1 R N k0 n) k0 s2 i1
def pathName_c0 : AC := .seq (.seq (.region [.op (some 6) none (.mv (.t 5)), .op (some 7) none (.mv (.t 0)), .op (some 8) none (.len (.t 7) true), .op (some 9) none (.bin .lss (.t 6) (.t 8)), .op (some 10) none (.mv (.t 9)), .split 10, .op (some 11) (some (10, true)) (.mv (.t 0)), .op (some 12) (some (10, true)) (.mv (.t 5)), .op (some 13) (some (10, true)) (.mv (.t 5)), .op (some 14) (some (10, true)) (.bin .add (.t 13) (.k (AV.int .i64 1))), .op (some 15) (some (10, true)) (.sliceS (.t 11) (some (.t 12)) (some (.t 14))), .op (some 16) (some (10, true)) (.call id_charsName [.t 15] (.bool)), .op (some 17) none (.pick (.t 10) (.t 16) (.k (AV.bool false)))]) (.cond (.t 17) (.skip) (.exit 0 [0, 5] []))) (.block 1 (.region [.op (some 18) none (.mv (.t 5)), .op (some 19) none (.bin .add (.t 18) (.k (AV.int .i64 1))), .op (some 5) none (.mv (.t 19))]))
theorem pathName_L1s_eq (R : Nat → List AV → Option Res) (N : Nat) (K : Ex → St → Option Res) (W : St → Option Res) (s2 : List UInt8) (i1 : Int) :
    evC gl R N pathName_c0 (Kseq (fun st' => W (prune [0, 5] [] st')) K) ⟨[(0, .imm (AV.str s2)), (5, .imm (AV.int .i64 i1))], []⟩ =
    pathName_L1s R N (fun (s2 : List UInt8) (i1 : Int) => W ⟨[(0, .imm (AV.str s2)), (5, .imm (AV.int .i64 i1))], []⟩) (fun (s3 : List UInt8) (i2 : Int) => K (.exit 0) ⟨[(0, .imm (AV.str s3)), (5, .imm (AV.int .i64 i2))], []⟩) s2 i1 := by
  kernel_rfl
theorem pathName_L1_eq (R : Nat → List AV → Option Res) (N : Nat) (K : Ex → St → Option Res) : ∀ (n : Nat) (s2 : List UInt8) (i1 : Int),
    rounds [0, 5] [] (evC gl R N pathName_c0) K n ⟨[(0, .imm (AV.str s2)), (5, .imm (AV.int .i64 i1))], []⟩ = pathName_L1 R N (fun (s3 : List UInt8) (i2 : Int) => K (.exit 0) ⟨[(0, .imm (AV.str s3)), (5, .imm (AV.int .i64 i2))], []⟩) n s2 i1
  | 0, _, _ => rfl
  | n + 1, s2, i1 => (pathName_L1s_eq R N K (rounds [0, 5] [] (evC gl R N pathName_c0) K n) s2 i1).trans
      (congrArg (fun go => pathName_L1s R N go (fun (s3 : List UInt8) (i2 : Int) => K (.exit 0) ⟨[(0, .imm (AV.str s3)), (5, .imm (AV.int .i64 i2))], []⟩) s2 i1) (funext fun s2 => funext fun i1 => pathName_L1_eq R N K n s2 i1))
def pathName_c1 : AC := .seq (.regionD [2, 3, 4] [] [.op (some 20) none (.mv (.t 0)), .op (some 21) none (.mv (.t 5)), .op (some 22) none (.sliceS (.t 20) none (some (.t 21))), .op (some 23) none (.mv (.t 0)), .op (some 24) none (.mv (.t 5)), .op (some 25) none (.sliceS (.t 23) (some (.t 24)) none), .op (some 26) none (.mv (.t 0)), .op (some 27) none (.mv (.t 5)), .op (some 28) none (.sliceS (.t 26) none (some (.t 27))), .op (some 29) none (.call id_charsName [.t 28] (.bool)), .op (some 2) none (.mv (.t 22)), .op (some 3) none (.mv (.t 25)), .op (some 4) none (.mv (.t 29))] []) (.ret [2, 3, 4] [])
def pathName_c2 : AC := .seq (.region [.op (some 2) none (.mv (.k (AV.str ([] : List UInt8)))), .op (some 3) none (.mv (.k (AV.str ([] : List UInt8)))), .op (some 4) none (.mv (.k (AV.bool false)))]) (.seq (.region [.op (some 5) none (.mv (.k (AV.int .i64 0)))]) (.seq (.block 0 (.loop [0, 5] [] (pathName_c0))) (pathName_c1)))
def pathName : AFunc := ⟨1, 30, [.tmp 2, .tmp 3, .tmp 4], pathName_c2⟩
def pathNamer (R : Nat → List AV → Option Res) (N : Nat) (s1 : List UInt8) : Option Res :=
  pathName_L1 R N
    (fun s5 i4 =>
    need (decide (0 ≤ (i4 : Int)) && decide ((i4 : Int) ≤ ((s5.length : Nat) : Int))) <|
    need (decide (0 ≤ (i4 : Int)) && decide ((i4 : Int) ≤ ((s5.length : Nat) : Int))) <|
    need (decide (0 ≤ (i4 : Int)) && decide ((i4 : Int) ≤ ((s5.length : Nat) : Int))) <|
    (R id_charsName [AV.str ((s5.take (Int.toNat i4)).drop 0)]).bind fun r2 =>
    asB r2.v fun b2 =>
    some ⟨AV.tup [AV.str ((s5.take (Int.toNat i4)).drop 0), AV.str ((s5.take s5.length).drop (Int.toNat i4)), AV.bool b2], false, []⟩)
    N s1 0
theorem pathName_eq (R : Nat → List AV → Option Res) (N : Nat) (s1 : List UInt8) : runF gl R N pathName [AV.str s1] = pathNamer R N s1 := by
  refine Eq.trans (b :=
    rounds [0, 5] [] (evC gl R N pathName_c0) (Kblock 0 (Kthen gl R N pathName_c1 (Kret pathName.rets []))) N ⟨[(0, .imm (AV.str s1)), (5, .imm (AV.int .i64 0))], []⟩) (by kernel_rfl) ?_
  simp (config := { maxSteps := 100000000 }) only [pathName_L1_eq]
  kernel_rfl
theorem pathName_fit : fitF Tryd.prog pathName Tryd.f42 = true := by
  kernel_rfl

def pathStep_c0 : AC := .seq (.region [.op (some 2) none (.alloc 1002 [AV.int .i64 0, AV.str [], AV.int .i64 0]), .op (some 3) none (.mv (.k (AV.str ([] : List UInt8)))), .op (some 4) none (.mv (.k (AV.bool false)))]) (.seq (.seq (.region [.op (some 19) none (.mv (.t 0)), .op (some 20) none (.call id_stringsCutPrefix [.t 19, .k (AV.str ([91] : List UInt8))] (.tup [.str, .bool])), .op (some 18) none (.mv (.t 20)), .op (some 21) none (.extract (.t 18) 0), .op (some 22) none (.extract (.t 18) 1), .op (some 5) none (.mv (.t 21)), .op (some 6) none (.mv (.t 22))]) (.seq (.region [.op (some 23) none (.mv (.t 6))]) (.cond (.t 23) (.seq (.region [.op (some 25) none (.mv (.t 5)), .op (some 26) none (.call id_pathNumber [.t 25] (.tup [.int .i64, .str, .bool])), .op (some 24) none (.mv (.t 26)), .op (some 27) none (.extract (.t 24) 0), .op (some 28) none (.extract (.t 24) 1), .op (some 29) none (.extract (.t 24) 2), .op (some 7) none (.mv (.t 27)), .op (some 8) none (.mv (.t 28)), .op (some 9) none (.mv (.t 29))]) (.seq (.region [.op (some 31) none (.mv (.t 8)), .op (some 32) none (.call id_stringsCutPrefix [.t 31, .k (AV.str ([93] : List UInt8))] (.tup [.str, .bool])), .op (some 30) none (.mv (.t 32)), .op (some 33) none (.extract (.t 30) 0), .op (some 34) none (.extract (.t 30) 1), .op (some 8) none (.mv (.t 33)), .op (some 10) none (.mv (.t 34))]) (.seq (.region [.op (some 35) none (.mv (.t 7)), .op (some 36) none (.build [AV.int .i64 0, AV.str [], AV.int .i64 0] [(0, 1, .k (AV.int .i64 3)), (2, 1, .t 35)]), .op (some 37) none (.mv (.t 8)), .op (some 38) none (.mv (.t 9)), .op (some 39) none (.mv (.t 38)), .split 39, .op (some 40) (some (39, true)) (.mv (.t 10)), .op (some 41) none (.pick (.t 39) (.t 40) (.k (AV.bool false))), .op none none (.store (.t 2) (.t 36) 3), .op (some 3) none (.mv (.t 37)), .op (some 4) none (.mv (.t 41))]) (.ret [2, 3, 4] [1002])))) (.skip)))) (.seq (.region [.op (some 43) none (.mv (.t 0)), .op (some 44) none (.call id_stringsCutPrefix [.t 43, .k (AV.str ([46] : List UInt8))] (.tup [.str, .bool])), .op (some 42) none (.mv (.t 44)), .op (some 45) none (.extract (.t 42) 0), .op (some 46) none (.extract (.t 42) 1), .op (some 11) none (.mv (.t 45)), .op (some 12) none (.mv (.t 46))]) (.seq (.seq (.region [.op (some 47) none (.mv (.t 12)), .op (some 48) none (.un .not (.t 47)), .op (some 49) none (.mv (.t 48)), .split 49, .op (some 50) (some (49, false)) (.mv (.t 11)), .op (some 51) (some (49, false)) (.bin .eql (.t 50) (.k (AV.str ([] : List UInt8)))), .op (some 52) none (.pick (.t 49) (.k (AV.bool true)) (.t 51))]) (.cond (.t 52) (.seq (.region [.op (some 53) none (.build [AV.int .i64 0, AV.str [], AV.int .i64 0] []), .op none none (.store (.t 2) (.t 53) 3), .op (some 3) none (.mv (.k (AV.str ([] : List UInt8)))), .op (some 4) none (.mv (.k (AV.bool false)))]) (.ret [2, 3, 4] [1002])) (.skip))) (.seq (.seq (.region [.op (some 54) none (.mv (.t 11)), .op (some 55) none (.index (.t 54) (.k (AV.int .i64 0)))]) (.block 0 (.seq (.region [.op (some 57) none (.bin .eql (.t 55) (.k (AV.int .u8 46))), .op (some 56) none (.mv (.t 57))]) (.cond (.t 56) (.seq (.regionS [2, 3, 4] [1002] [.op (some 58) none (.build [AV.int .i64 0, AV.str [], AV.int .i64 0] [(0, 1, .k (AV.int .i64 5))]), .op (some 59) none (.mv (.t 11)), .op (some 60) none (.sliceS (.t 59) (some (.k (AV.int .i64 1))) none)] (.t 2) (.t 58) 3 [.op (some 3) none (.mv (.t 60)), .op (some 4) none (.mv (.k (AV.bool true)))]) (.ret [2, 3, 4] [1002])) (.seq (.region [.op (some 62) none (.bin .eql (.t 55) (.k (AV.int .u8 42))), .op (some 61) none (.mv (.t 62))]) (.cond (.t 61) (.seq (.regionS [2, 3, 4] [1002] [.op (some 63) none (.build [AV.int .i64 0, AV.str [], AV.int .i64 0] [(0, 1, .k (AV.int .i64 4))]), .op (some 64) none (.mv (.t 11)), .op (some 65) none (.sliceS (.t 64) (some (.k (AV.int .i64 1))) none)] (.t 2) (.t 63) 3 [.op (some 3) none (.mv (.t 65)), .op (some 4) none (.mv (.k (AV.bool true)))]) (.ret [2, 3, 4] [1002])) (.seq (.region [.op (some 67) none (.bin .eql (.t 55) (.k (AV.int .u8 34))), .op (some 66) none (.mv (.t 67))]) (.cond (.t 66) (.seq (.region [.op (some 69) none (.mv (.t 11)), .op (some 70) none (.cvBytes (.t 69)), .op (some 71) none (.call id_doubleTake [.t 70] (.tup [.str, .int .i64, .bool])), .op (some 68) none (.mv (.t 71)), .op (some 72) none (.extract (.t 68) 0), .op (some 73) none (.extract (.t 68) 1), .op (some 74) none (.extract (.t 68) 2), .op (some 13) none (.mv (.t 72)), .op (some 14) none (.mv (.t 73)), .op (some 15) none (.mv (.t 74))]) (.seq (.regionS [2, 3, 4] [1002] [.op (some 75) none (.mv (.t 13)), .op (some 76) none (.build [AV.int .i64 0, AV.str [], AV.int .i64 0] [(0, 1, .k (AV.int .i64 2)), (1, 1, .t 75)]), .op (some 77) none (.mv (.t 11)), .op (some 78) none (.mv (.t 14)), .op (some 79) none (.sliceS (.t 77) (some (.t 78)) none), .op (some 80) none (.mv (.t 15))] (.t 2) (.t 76) 3 [.op (some 3) none (.mv (.t 79)), .op (some 4) none (.mv (.t 80))]) (.ret [2, 3, 4] [1002]))) (.skip))))))))) (.seq (.region [.op (some 82) none (.mv (.t 11)), .op (some 83) none (.call id_pathName [.t 82] (.tup [.str, .str, .bool])), .op (some 81) none (.mv (.t 83)), .op (some 84) none (.extract (.t 81) 0), .op (some 85) none (.extract (.t 81) 1), .op (some 86) none (.extract (.t 81) 2), .op (some 16) none (.mv (.t 84)), .op (some 11) none (.mv (.t 85)), .op (some 17) none (.mv (.t 86))]) (.seq (.region [.op (some 87) none (.mv (.t 16)), .op (some 88) none (.build [AV.int .i64 0, AV.str [], AV.int .i64 0] [(0, 1, .k (AV.int .i64 2)), (1, 1, .t 87)]), .op (some 89) none (.mv (.t 11)), .op (some 90) none (.mv (.t 17)), .op none none (.store (.t 2) (.t 88) 3), .op (some 3) none (.mv (.t 89)), .op (some 4) none (.mv (.t 90))]) (.ret [2, 3, 4] [1002])))))))
def pathStep : AFunc := ⟨1, 91, [.cell 2 3, .tmp 3, .tmp 4], pathStep_c0⟩
def pathStepr (R : Nat → List AV → Option Res) (N : Nat) (s1 : List UInt8) : Option Res :=
  (R id_stringsCutPrefix [AV.str s1, AV.str ([91] : List UInt8)]).bind fun r1 =>
  asSBT r1.v fun s2 b1 =>
  bif b1 then
    ((R id_pathNumber [AV.str s2]).bind fun r2 =>
    asISBT r2.v fun i1 s3 b2 =>
    (R id_stringsCutPrefix [AV.str s3, AV.str ([93] : List UInt8)]).bind fun r3 =>
    asSBT r3.v fun s4 b3 =>
    bif b2 then
    (some ⟨AV.tup [AV.agg [AV.int .i64 3, AV.str [], AV.int .i64 i1], AV.str s4, AV.bool b3], false, []⟩)
    else
    some ⟨AV.tup [AV.agg [AV.int .i64 3, AV.str [], AV.int .i64 i1], AV.str s4, AV.bool false], false, []⟩)
  else
    (R id_stringsCutPrefix [AV.str s1, AV.str ([46] : List UInt8)]).bind fun r4 =>
    asSBT r4.v fun s5 b4 =>
    bif !b4 then
    (some ⟨AV.tup [AV.agg [AV.int .i64 0, AV.str [], AV.int .i64 0], AV.str ([] : List UInt8), AV.bool false], false, []⟩)
    else
    bif s5 == ([] : List UInt8) then
    (some ⟨AV.tup [AV.agg [AV.int .i64 0, AV.str [], AV.int .i64 0], AV.str ([] : List UInt8), AV.bool false], false, []⟩)
    else
    need (decide (0 ≤ (0 : Int))) <|
    (s5[Int.toNat 0]?).bind fun c1 =>
    bif ((c1.toNat : Int) : Int) == 46 then
    (need (decide (0 ≤ (1 : Int)) && decide ((1 : Int) ≤ ((s5.length : Nat) : Int))) <|
    some ⟨AV.tup [AV.agg [AV.int .i64 5, AV.str [], AV.int .i64 0], AV.str ((s5.take s5.length).drop (Int.toNat 1)), AV.bool true], false, []⟩)
    else
    bif ((c1.toNat : Int) : Int) == 42 then
    (need (decide (0 ≤ (1 : Int)) && decide ((1 : Int) ≤ ((s5.length : Nat) : Int))) <|
    some ⟨AV.tup [AV.agg [AV.int .i64 4, AV.str [], AV.int .i64 0], AV.str ((s5.take s5.length).drop (Int.toNat 1)), AV.bool true], false, []⟩)
    else
    bif ((c1.toNat : Int) : Int) == 34 then
    ((R id_doubleTake [AV.bytes s5]).bind fun r5 =>
    asSIBT r5.v fun s6 i2 b5 =>
    need (decide (0 ≤ (i2 : Int)) && decide ((i2 : Int) ≤ ((s5.length : Nat) : Int))) <|
    some ⟨AV.tup [AV.agg [AV.int .i64 2, AV.str s6, AV.int .i64 0], AV.str ((s5.take s5.length).drop (Int.toNat i2)), AV.bool b5], false, []⟩)
    else
    (R id_pathName [AV.str s5]).bind fun r6 =>
    asSSBT r6.v fun s7 s8 b6 =>
    some ⟨AV.tup [AV.agg [AV.int .i64 2, AV.str s7, AV.int .i64 0], AV.str s8, AV.bool b6], false, []⟩
theorem pathStep_eq (R : Nat → List AV → Option Res) (N : Nat) (s1 : List UInt8) : runF gl R N pathStep [AV.str s1] = pathStepr R N s1 := by
  kernel_rfl
theorem pathStep_fit : fitF Tryd.prog pathStep Tryd.f26 = true := by
  kernel_rfl

def slicesIndexFuncScholiumPathStepScholiumPathStep_L1s (R : Nat → List AV → Option Res) (N : Nat) (go : List AV → Nat → List AV → Int → Int → Option Res) (k0 : Int → Option Res) (k1 : Option Res) (l2 : List AV) (n1 : Nat) (l3 : List AV) (i1 : Int) (i2 : Int) : Option Res :=
  bif decide ((i2 : Int) < i1) then
    (need (decide (0 ≤ (i2 : Int))) <|
    (l2[Int.toNat i2]?).bind fun e1 =>
    asISIA e1 fun i3 s1 i4 =>
    (R n1 ([AV.agg [AV.int .i64 i3, AV.str s1, AV.int .i64 i4]] ++ l3)).bind fun r1 =>
    asB r1.v fun b1 =>
    bif b1 then
    (k0 i2)
    else
    go l2 n1 l3 i1 (IntKind.i64.wrap (i2 + 1)))
  else
    k1
def slicesIndexFuncScholiumPathStepScholiumPathStep_L1 (R : Nat → List AV → Option Res) (N : Nat) (k0 : Int → Option Res) (k1 : Option Res) : Nat → List AV → Nat → List AV → Int → Int → Option Res
  | 0, _, _, _, _, _ => none
  | n + 1, l2, n1, l3, i1, i2 => slicesIndexFuncScholiumPathStepScholiumPathStep_L1s R N (slicesIndexFuncScholiumPathStepScholiumPathStep_L1 R N k0 k1 n) k0 k1 l2 n1 l3 i1 i2
def slicesIndexFuncScholiumPathStepScholiumPathStep_c0 : AC := .seq (.region [.op (some 9) none (.bin .lss (.t 8) (.t 7))]) (.seq (.cond (.t 9) (.skip) (.exit 0 [] [])) (.seq (.block 1 (.seq (.region [.op (some 10) none (.mv (.t 8)), .op (some 5) none (.mv (.t 10))]) (.seq (.region [.op (some 11) none (.mv (.t 1)), .op (some 12) none (.mv (.t 0)), .op (some 13) none (.mv (.t 5)), .op (some 14) none (.iaddr (.t 12) (.t 13) 3 (.agg [.int .i64, .str, .int .i64])), .op (some 15) none (.load (.t 14) (some 3) (.agg [.int .i64, .str, .int .i64])), .op (some 16) none (.callF (.t 11) [.t 15] (.bool))]) (.cond (.t 16) (.seq (.region [.op (some 17) none (.mv (.t 5)), .op (some 4) none (.mv (.t 17))]) (.ret [4] [])) (.skip))))) (.region [.op (some 18) none (.bin .add (.t 8) (.k (AV.int .i64 1))), .op (some 8) none (.mv (.t 18))])))
theorem slicesIndexFuncScholiumPathStepScholiumPathStep_L1s_eq (R : Nat → List AV → Option Res) (N : Nat) (K : Ex → St → Option Res) (W : St → Option Res) (l2 : List AV) (n1 : Nat) (l3 : List AV) (i1 : Int) (i2 : Int) :
    evC gl R N slicesIndexFuncScholiumPathStepScholiumPathStep_c0 (Kseq (fun st' => W (prune [0, 1, 7, 8] [] st')) K) ⟨[(0, .imm (AV.row 3 l2)), (1, .imm (AV.fn n1 l3)), (7, .imm (AV.int .i64 i1)), (8, .imm (AV.int .i64 i2))], []⟩ =
    slicesIndexFuncScholiumPathStepScholiumPathStep_L1s R N (fun (l2 : List AV) (n1 : Nat) (l3 : List AV) (i1 : Int) (i2 : Int) => W ⟨[(0, .imm (AV.row 3 l2)), (1, .imm (AV.fn n1 l3)), (7, .imm (AV.int .i64 i1)), (8, .imm (AV.int .i64 i2))], []⟩) (fun (i5 : Int) => K .ret ⟨[(4, .imm (AV.int .i64 i5))], []⟩) (K (.exit 0) ⟨[], []⟩) l2 n1 l3 i1 i2 := by
  kernel_rfl
theorem slicesIndexFuncScholiumPathStepScholiumPathStep_L1_eq (R : Nat → List AV → Option Res) (N : Nat) (K : Ex → St → Option Res) : ∀ (n : Nat) (l2 : List AV) (n1 : Nat) (l3 : List AV) (i1 : Int) (i2 : Int),
    rounds [0, 1, 7, 8] [] (evC gl R N slicesIndexFuncScholiumPathStepScholiumPathStep_c0) K n ⟨[(0, .imm (AV.row 3 l2)), (1, .imm (AV.fn n1 l3)), (7, .imm (AV.int .i64 i1)), (8, .imm (AV.int .i64 i2))], []⟩ = slicesIndexFuncScholiumPathStepScholiumPathStep_L1 R N (fun (i5 : Int) => K .ret ⟨[(4, .imm (AV.int .i64 i5))], []⟩) (K (.exit 0) ⟨[], []⟩) n l2 n1 l3 i1 i2
  | 0, _, _, _, _, _ => rfl
  | n + 1, l2, n1, l3, i1, i2 => (slicesIndexFuncScholiumPathStepScholiumPathStep_L1s_eq R N K (rounds [0, 1, 7, 8] [] (evC gl R N slicesIndexFuncScholiumPathStepScholiumPathStep_c0) K n) l2 n1 l3 i1 i2).trans
      (congrArg (fun go => slicesIndexFuncScholiumPathStepScholiumPathStep_L1s R N go (fun (i5 : Int) => K .ret ⟨[(4, .imm (AV.int .i64 i5))], []⟩) (K (.exit 0) ⟨[], []⟩) l2 n1 l3 i1 i2) (funext fun l2 => funext fun n1 => funext fun l3 => funext fun i1 => funext fun i2 => slicesIndexFuncScholiumPathStepScholiumPathStep_L1_eq R N K n l2 n1 l3 i1 i2))
def slicesIndexFuncScholiumPathStepScholiumPathStep_c1 : AC := .seq (.region [.op (some 4) none (.mv (.k (AV.int .i64 (-1))))]) (.ret [4] [])
def slicesIndexFuncScholiumPathStepScholiumPathStep_c2 : AC := .seq (.region [.op (some 4) none (.mv (.k (AV.int .i64 0)))]) (.seq (.seq (.region [.op (some 6) none (.mv (.t 0)), .op (some 7) none (.len (.t 6) false), .op (some 8) none (.mv (.k (AV.int .i64 0)))]) (.block 0 (.loop [0, 1, 7, 8] [] (slicesIndexFuncScholiumPathStepScholiumPathStep_c0)))) (slicesIndexFuncScholiumPathStepScholiumPathStep_c1))
def slicesIndexFuncScholiumPathStepScholiumPathStep : AFunc := ⟨2, 19, [.tmp 4], slicesIndexFuncScholiumPathStepScholiumPathStep_c2⟩
def slicesIndexFuncScholiumPathStepScholiumPathStepr (R : Nat → List AV → Option Res) (N : Nat) (l1 : List AV) (f1 : Nat) (c1 : List AV) : Option Res :=
  slicesIndexFuncScholiumPathStepScholiumPathStep_L1 R N
    (fun i7 =>
    some ⟨AV.int .i64 i7, false, []⟩)
    (
    some ⟨AV.int .i64 (-1), false, []⟩)
    N l1 f1 c1 ((l1.length : Nat) : Int) 0
theorem slicesIndexFuncScholiumPathStepScholiumPathStep_eq (R : Nat → List AV → Option Res) (N : Nat) (l1 : List AV) (f1 : Nat) (c1 : List AV) : runF gl R N slicesIndexFuncScholiumPathStepScholiumPathStep [AV.row 3 l1, AV.fn f1 c1] = slicesIndexFuncScholiumPathStepScholiumPathStepr R N l1 f1 c1 := by
  refine Eq.trans (b :=
    rounds [0, 1, 7, 8] [] (evC gl R N slicesIndexFuncScholiumPathStepScholiumPathStep_c0) (Kblock 0 (Kthen gl R N slicesIndexFuncScholiumPathStepScholiumPathStep_c1 (Kret slicesIndexFuncScholiumPathStepScholiumPathStep.rets []))) N ⟨[(0, .imm (AV.row 3 l1)), (1, .imm (AV.fn f1 c1)), (7, .imm (AV.int .i64 ((l1.length : Nat) : Int))), (8, .imm (AV.int .i64 0))], []⟩) (by kernel_rfl) ?_
  simp (config := { maxSteps := 100000000 }) only [slicesIndexFuncScholiumPathStepScholiumPathStep_L1_eq]
  kernel_rfl
theorem slicesIndexFuncScholiumPathStepScholiumPathStep_fit : fitF Tryd.prog slicesIndexFuncScholiumPathStepScholiumPathStep Tryd.f43 = true := by
  kernel_rfl

def slicesContainsFuncScholiumPathStepScholiumPathStep_c0 : AC := .seq (.region [.op (some 4) none (.mv (.k (AV.bool false)))]) (.seq (.region [.op (some 5) none (.mv (.t 0)), .op (some 6) none (.mv (.t 1)), .op (some 7) none (.call id_slicesIndexFuncScholiumPathStepScholiumPathStep [.t 5, .t 6] (.int .i64)), .op (some 8) none (.bin .geq (.t 7) (.k (AV.int .i64 0))), .op (some 4) none (.mv (.t 8))]) (.ret [4] []))
def slicesContainsFuncScholiumPathStepScholiumPathStep : AFunc := ⟨2, 9, [.tmp 4], slicesContainsFuncScholiumPathStepScholiumPathStep_c0⟩
def slicesContainsFuncScholiumPathStepScholiumPathStepr (R : Nat → List AV → Option Res) (N : Nat) (l1 : List AV) (f1 : Nat) (c1 : List AV) : Option Res :=
  (R id_slicesIndexFuncScholiumPathStepScholiumPathStep [AV.row 3 l1, AV.fn f1 c1]).bind fun r1 =>
  asI .i64 r1.v fun i1 =>
  some ⟨AV.bool (decide ((i1 : Int) ≥ 0)), false, []⟩
theorem slicesContainsFuncScholiumPathStepScholiumPathStep_eq (R : Nat → List AV → Option Res) (N : Nat) (l1 : List AV) (f1 : Nat) (c1 : List AV) : runF gl R N slicesContainsFuncScholiumPathStepScholiumPathStep [AV.row 3 l1, AV.fn f1 c1] = slicesContainsFuncScholiumPathStepScholiumPathStepr R N l1 f1 c1 := by
  kernel_rfl
theorem slicesContainsFuncScholiumPathStepScholiumPathStep_fit : fitF Tryd.prog slicesContainsFuncScholiumPathStepScholiumPathStep Tryd.f27 = true := by
  kernel_rfl

def pathParse_L1s (R : Nat → List AV → Option Res) (N : Nat) (go : List UInt8 → Bool → List AV → Option Res) (k0 : Bool → List AV → Option Res) (s3 : List UInt8) (b2 : Bool) (l2 : List AV) : Option Res :=
  bif b2 then
    (bif !(s3 == ([] : List UInt8)) then
    ((R id_pathStep [AV.str s3]).bind fun r2 =>
    asASBT r2.v fun i1 s4 i2 s5 b3 =>
    need (decide (((l2.drop 0).take l2.length).length + [AV.agg [AV.int .i64 i1, AV.str s4, AV.int .i64 i2]].length ≤ 1099511627776)) <|
    go s5 b3 (((l2.drop 0).take l2.length) ++ [AV.agg [AV.int .i64 i1, AV.str s4, AV.int .i64 i2]]))
    else
    k0 b2 l2)
  else
    k0 b2 l2
def pathParse_L1 (R : Nat → List AV → Option Res) (N : Nat) (k0 : Bool → List AV → Option Res) : Nat → List UInt8 → Bool → List AV → Option Res
  | 0, _, _, _ => none
  | n + 1, s3, b2, l2 => pathParse_L1s R N (pathParse_L1 R N k0 n) k0 s3 b2 l2
def pathParse_c0 : AC := .seq (.seq (.region [.op (some 14) none (.mv (.t 6)), .op (some 15) none (.mv (.t 14)), .split 15, .op (some 16) (some (15, true)) (.mv (.t 5)), .op (some 17) (some (15, true)) (.bin .neq (.t 16) (.k (AV.str ([] : List UInt8)))), .op (some 18) none (.pick (.t 15) (.t 17) (.k (AV.bool false)))]) (.cond (.t 18) (.skip) (.exit 0 [4, 6] [10]))) (.block 1 (.seq (.region [.op (some 7) none (.alloc 1007 [AV.int .i64 0, AV.str [], AV.int .i64 0])]) (.seq (.region [.op (some 20) none (.mv (.t 5)), .op (some 21) none (.call id_pathStep [.t 20] (.tup [.agg [.int .i64, .str, .int .i64], .str, .bool])), .op (some 19) none (.mv (.t 21)), .op (some 22) none (.extract (.t 19) 0), .op (some 23) none (.extract (.t 19) 1), .op (some 24) none (.extract (.t 19) 2), .op none none (.store (.t 7) (.t 22) 3), .op (some 5) none (.mv (.t 23)), .op (some 6) none (.mv (.t 24))]) (.region [.op (some 25) none (.mv (.t 4)), .op (some 26) none (.load (.t 7) (some 3) (.agg [.int .i64, .str, .int .i64])), .op (some 27) none (.bslice [.t 26] 3 false), .op (some 28) none (.app 10 (.t 25) (.t 27) 3 .any false), .op (some 4) none (.mv (.t 28))]))))
theorem pathParse_L1s_eq (R : Nat → List AV → Option Res) (N : Nat) (K : Ex → St → Option Res) (W : St → Option Res) (s3 : List UInt8) (b2 : Bool) (l2 : List AV) :
    evC gl R N pathParse_c0 (Kseq (fun st' => W (prune [4, 5, 6] [10] st')) K) ⟨[(4, .own 10 0 l2.length none), (5, .imm (AV.str s3)), (6, .imm (AV.bool b2))], [(10, .row 3 l2 false)]⟩ =
    pathParse_L1s R N (fun (s3 : List UInt8) (b2 : Bool) (l2 : List AV) => W ⟨[(4, .own 10 0 l2.length none), (5, .imm (AV.str s3)), (6, .imm (AV.bool b2))], [(10, .row 3 l2 false)]⟩) (fun (b4 : Bool) (l3 : List AV) => K (.exit 0) ⟨[(4, .own 10 0 l3.length none), (6, .imm (AV.bool b4))], [(10, .row 3 l3 false)]⟩) s3 b2 l2 := by
  kernel_rfl
theorem pathParse_L1_eq (R : Nat → List AV → Option Res) (N : Nat) (K : Ex → St → Option Res) : ∀ (n : Nat) (s3 : List UInt8) (b2 : Bool) (l2 : List AV),
    rounds [4, 5, 6] [10] (evC gl R N pathParse_c0) K n ⟨[(4, .own 10 0 l2.length none), (5, .imm (AV.str s3)), (6, .imm (AV.bool b2))], [(10, .row 3 l2 false)]⟩ = pathParse_L1 R N (fun (b4 : Bool) (l3 : List AV) => K (.exit 0) ⟨[(4, .own 10 0 l3.length none), (6, .imm (AV.bool b4))], [(10, .row 3 l3 false)]⟩) n s3 b2 l2
  | 0, _, _, _ => rfl
  | n + 1, s3, b2, l2 => (pathParse_L1s_eq R N K (rounds [4, 5, 6] [10] (evC gl R N pathParse_c0) K n) s3 b2 l2).trans
      (congrArg (fun go => pathParse_L1s R N go (fun (b4 : Bool) (l3 : List AV) => K (.exit 0) ⟨[(4, .own 10 0 l3.length none), (6, .imm (AV.bool b4))], [(10, .row 3 l3 false)]⟩) s3 b2 l2) (funext fun s3 => funext fun b2 => funext fun l2 => pathParse_L1_eq R N K n s3 b2 l2))
def pathParse_c1 : AC := .seq (.seq (.region [.op (some 29) none (.mv (.t 6)), .op (some 30) none (.un .not (.t 29))]) (.cond (.t 30) (.seq (.region [.op (some 2) none (.nilOwn 10 (some (3, .any))), .op (some 3) none (.mv (.k (AV.int .i64 6)))]) (.ret [2, 3] [10])) (.skip))) (.seq (.seq (.region [.op (some 31) none (.mv (.t 4)), .op (some 32) none (.len (.t 31) false), .op (some 33) none (.bin .gtr (.t 32) (.k (AV.int .i64 32))), .op (some 34) none (.mv (.t 33)), .split 34, .op (some 35) (some (34, false)) (.mv (.t 4)), .op (some 36) (some (34, false)) (.call id_slicesContainsFuncScholiumPathStepScholiumPathStep [.t 35, .k (AV.fn id_pathParse1 [])] (.bool)), .op (some 37) none (.pick (.t 34) (.k (AV.bool true)) (.t 36))]) (.cond (.t 37) (.seq (.region [.op (some 2) none (.nilOwn 10 (some (3, .any))), .op (some 3) none (.mv (.k (AV.int .i64 10)))]) (.ret [2, 3] [10])) (.skip))) (.seq (.region [.op (some 38) none (.mv (.t 4)), .op (some 2) none (.mv (.t 38)), .op (some 3) none (.mv (.k (AV.int .i64 0)))]) (.ret [2, 3] [10])))
def pathParse_c2 : AC := .seq (.region [.op (some 2) none (.nilOwn 10 (some (3, .any))), .op (some 3) none (.mv (.k (AV.int .i64 0)))]) (.seq (.region [.op (some 9) none (.mv (.t 0)), .op (some 10) none (.callOwnT 10 id_pathFirst [.t 9] 3 [.str, .bool]), .op (some 8) none (.mv (.t 10)), .op (some 11) none (.extract (.t 8) 0), .op (some 12) none (.extract (.t 8) 1), .op (some 13) none (.extract (.t 8) 2), .op (some 4) none (.mv (.t 11)), .op (some 5) none (.mv (.t 12)), .op (some 6) none (.mv (.t 13))]) (.seq (.block 0 (.loop [4, 5, 6] [10] (pathParse_c0))) (pathParse_c1)))
def pathParse : AFunc := ⟨1, 39, [.tmp 2, .tmp 3], pathParse_c2⟩
def pathParser (R : Nat → List AV → Option Res) (N : Nat) (s1 : List UInt8) : Option Res :=
  (R id_pathFirst [AV.str s1]).bind fun r1 =>
  need r1.own <|
  asRSBT r1.v fun l1 s2 b1 =>
  pathParse_L1 R N
    (fun b6 l5 =>
    bif !b6 then
    (some ⟨AV.tup [AV.row 3 ((([] : List AV).drop 0).take 0), AV.int .i64 6], false, []⟩)
    else
    bif decide ((((l5.length : Nat) : Int) : Int) > 32) then
    (some ⟨AV.tup [AV.row 3 ((([] : List AV).drop 0).take 0), AV.int .i64 10], false, []⟩)
    else
    (R id_slicesContainsFuncScholiumPathStepScholiumPathStep [AV.row 3 ((l5.drop 0).take l5.length), AV.fn id_pathParse1 []]).bind fun r3 =>
    asB r3.v fun b7 =>
    bif b7 then
    (some ⟨AV.tup [AV.row 3 ((([] : List AV).drop 0).take 0), AV.int .i64 10], false, []⟩)
    else
    some ⟨AV.tup [AV.row 3 ((l5.drop 0).take l5.length), AV.int .i64 0], false, []⟩)
    N s2 b1 l1
theorem pathParse_eq (R : Nat → List AV → Option Res) (N : Nat) (s1 : List UInt8) : runF gl R N pathParse [AV.str s1] = pathParser R N s1 := by
  refine Eq.trans (b :=
    (R id_pathFirst [AV.str s1]).bind fun r1 =>
    need r1.own <|
    asRSBT r1.v fun l1 s2 b1 =>
    rounds [4, 5, 6] [10] (evC gl R N pathParse_c0) (Kblock 0 (Kthen gl R N pathParse_c1 (Kret pathParse.rets []))) N ⟨[(4, .own 10 0 l1.length none), (5, .imm (AV.str s2)), (6, .imm (AV.bool b1))], [(10, .row 3 l1 false)]⟩) (by kernel_rfl) ?_
  simp (config := { maxSteps := 100000000 }) only [pathParse_L1_eq]
  kernel_rfl
theorem pathParse_fit : fitF Tryd.prog pathParse Tryd.f13 = true := by
  kernel_rfl

def unicodeUtf8WordString_c0 : AC := .seq (.region [.op (some 2) none (.mv (.k (AV.int .u64 0)))]) (.seq (.cond (.k (AV.bool false)) (.seq (.regionD [] [] [.op (some 3) none (.mv (.t 0)), .op (some 4) none (.index (.t 3) (.k (AV.int .i64 0))), .op (some 5) none (.cvInt .u64 (.t 4)), .op (some 6) none (.mv (.t 0)), .op (some 7) none (.index (.t 6) (.k (AV.int .i64 1))), .op (some 8) none (.cvInt .u64 (.t 7)), .op (some 9) none (.bin .shl (.t 8) (.k (AV.int .u64 8))), .op (some 10) none (.bin .or (.t 5) (.t 9)), .op (some 11) none (.mv (.t 0)), .op (some 12) none (.index (.t 11) (.k (AV.int .i64 2))), .op (some 13) none (.cvInt .u64 (.t 12)), .op (some 14) none (.bin .shl (.t 13) (.k (AV.int .u64 16))), .op (some 15) none (.bin .or (.t 10) (.t 14)), .op (some 16) none (.mv (.t 0)), .op (some 17) none (.index (.t 16) (.k (AV.int .i64 3))), .op (some 18) none (.cvInt .u64 (.t 17)), .op (some 19) none (.bin .shl (.t 18) (.k (AV.int .u64 24))), .op (some 20) none (.bin .or (.t 15) (.t 19)), .op (some 2) none (.mv (.t 20))] []) (.ret [] [])) (.skip)) (.seq (.regionD [2] [] [.op (some 21) none (.mv (.t 0)), .op (some 22) none (.index (.t 21) (.k (AV.int .i64 0))), .op (some 23) none (.cvInt .u64 (.t 22)), .op (some 24) none (.mv (.t 0)), .op (some 25) none (.index (.t 24) (.k (AV.int .i64 1))), .op (some 26) none (.cvInt .u64 (.t 25)), .op (some 27) none (.bin .shl (.t 26) (.k (AV.int .u64 8))), .op (some 28) none (.bin .or (.t 23) (.t 27)), .op (some 29) none (.mv (.t 0)), .op (some 30) none (.index (.t 29) (.k (AV.int .i64 2))), .op (some 31) none (.cvInt .u64 (.t 30)), .op (some 32) none (.bin .shl (.t 31) (.k (AV.int .u64 16))), .op (some 33) none (.bin .or (.t 28) (.t 32)), .op (some 34) none (.mv (.t 0)), .op (some 35) none (.index (.t 34) (.k (AV.int .i64 3))), .op (some 36) none (.cvInt .u64 (.t 35)), .op (some 37) none (.bin .shl (.t 36) (.k (AV.int .u64 24))), .op (some 38) none (.bin .or (.t 33) (.t 37)), .op (some 39) none (.mv (.t 0)), .op (some 40) none (.index (.t 39) (.k (AV.int .i64 4))), .op (some 41) none (.cvInt .u64 (.t 40)), .op (some 42) none (.bin .shl (.t 41) (.k (AV.int .u64 32))), .op (some 43) none (.bin .or (.t 38) (.t 42)), .op (some 44) none (.mv (.t 0)), .op (some 45) none (.index (.t 44) (.k (AV.int .i64 5))), .op (some 46) none (.cvInt .u64 (.t 45)), .op (some 47) none (.bin .shl (.t 46) (.k (AV.int .u64 40))), .op (some 48) none (.bin .or (.t 43) (.t 47)), .op (some 49) none (.mv (.t 0)), .op (some 50) none (.index (.t 49) (.k (AV.int .i64 6))), .op (some 51) none (.cvInt .u64 (.t 50)), .op (some 52) none (.bin .shl (.t 51) (.k (AV.int .u64 48))), .op (some 53) none (.bin .or (.t 48) (.t 52)), .op (some 54) none (.mv (.t 0)), .op (some 55) none (.index (.t 54) (.k (AV.int .i64 7))), .op (some 56) none (.cvInt .u64 (.t 55)), .op (some 57) none (.bin .shl (.t 56) (.k (AV.int .u64 56))), .op (some 58) none (.bin .or (.t 53) (.t 57)), .op (some 2) none (.mv (.t 58))] []) (.ret [2] [])))
def unicodeUtf8WordString : AFunc := ⟨1, 59, [.tmp 2], unicodeUtf8WordString_c0⟩
def unicodeUtf8WordStringr (R : Nat → List AV → Option Res) (N : Nat) (s1 : List UInt8) : Option Res :=
  need (decide (0 ≤ (0 : Int))) <|
  (s1[Int.toNat 0]?).bind fun c1 =>
  need (decide (0 ≤ (1 : Int))) <|
  (s1[Int.toNat 1]?).bind fun c2 =>
  need (!decide (8 < 0)) <|
  need (decide (0 ≤ (2 : Int))) <|
  (s1[Int.toNat 2]?).bind fun c3 =>
  need (!decide (16 < 0)) <|
  need (decide (0 ≤ (3 : Int))) <|
  (s1[Int.toNat 3]?).bind fun c4 =>
  need (!decide (24 < 0)) <|
  need (decide (0 ≤ (4 : Int))) <|
  (s1[Int.toNat 4]?).bind fun c5 =>
  need (!decide (32 < 0)) <|
  need (decide (0 ≤ (5 : Int))) <|
  (s1[Int.toNat 5]?).bind fun c6 =>
  need (!decide (40 < 0)) <|
  need (decide (0 ≤ (6 : Int))) <|
  (s1[Int.toNat 6]?).bind fun c7 =>
  need (!decide (48 < 0)) <|
  need (decide (0 ≤ (7 : Int))) <|
  (s1[Int.toNat 7]?).bind fun c8 =>
  need (!decide (56 < 0)) <|
  some ⟨AV.int .u64 (IntKind.u64.wrap (BitVec.ofInt IntKind.u64.bits (IntKind.u64.wrap (BitVec.ofInt IntKind.u64.bits (IntKind.u64.wrap (BitVec.ofInt IntKind.u64.bits (IntKind.u64.wrap (BitVec.ofInt IntKind.u64.bits (IntKind.u64.wrap (BitVec.ofInt IntKind.u64.bits (IntKind.u64.wrap (BitVec.ofInt IntKind.u64.bits (IntKind.u64.wrap (BitVec.ofInt IntKind.u64.bits (IntKind.u64.wrap (c1.toNat : Int)) ||| BitVec.ofInt IntKind.u64.bits (IntKind.u64.wrap ((IntKind.u64.wrap (c2.toNat : Int)) * 2 ^ (min (Int.toNat 8) IntKind.u64.bits)))).toNat) ||| BitVec.ofInt IntKind.u64.bits (IntKind.u64.wrap ((IntKind.u64.wrap (c3.toNat : Int)) * 2 ^ (min (Int.toNat 16) IntKind.u64.bits)))).toNat) ||| BitVec.ofInt IntKind.u64.bits (IntKind.u64.wrap ((IntKind.u64.wrap (c4.toNat : Int)) * 2 ^ (min (Int.toNat 24) IntKind.u64.bits)))).toNat) ||| BitVec.ofInt IntKind.u64.bits (IntKind.u64.wrap ((IntKind.u64.wrap (c5.toNat : Int)) * 2 ^ (min (Int.toNat 32) IntKind.u64.bits)))).toNat) ||| BitVec.ofInt IntKind.u64.bits (IntKind.u64.wrap ((IntKind.u64.wrap (c6.toNat : Int)) * 2 ^ (min (Int.toNat 40) IntKind.u64.bits)))).toNat) ||| BitVec.ofInt IntKind.u64.bits (IntKind.u64.wrap ((IntKind.u64.wrap (c7.toNat : Int)) * 2 ^ (min (Int.toNat 48) IntKind.u64.bits)))).toNat) ||| BitVec.ofInt IntKind.u64.bits (IntKind.u64.wrap ((IntKind.u64.wrap (c8.toNat : Int)) * 2 ^ (min (Int.toNat 56) IntKind.u64.bits)))).toNat), false, []⟩
theorem unicodeUtf8WordString_eq (R : Nat → List AV → Option Res) (N : Nat) (s1 : List UInt8) : runF gl R N unicodeUtf8WordString [AV.str s1] = unicodeUtf8WordStringr R N s1 := by
  kernel_rfl
theorem unicodeUtf8WordString_fit : fitF Tryd.prog unicodeUtf8WordString Tryd.f59 = true := by
  kernel_rfl

def charsPrintable_c0 : AC := .seq (.region [.op (some 2) none (.mv (.k (AV.bool false)))]) (.seq (.block 0 (.seq (.region [.op (some 4) none (.mv (.t 0)), .op (some 5) none (.bin .lss (.t 4) (.k (AV.int .i32 32))), .op (some 3) none (.mv (.t 5))]) (.cond (.t 3) (.seq (.region [.op (some 6) none (.mv (.t 0)), .op (some 7) none (.bin .eql (.t 6) (.k (AV.int .i32 9))), .op (some 8) none (.mv (.t 7)), .split 8, .op (some 9) (some (8, false)) (.mv (.t 0)), .op (some 10) (some (8, false)) (.bin .eql (.t 9) (.k (AV.int .i32 10))), .op (some 11) none (.pick (.t 8) (.k (AV.bool true)) (.t 10)), .op (some 12) none (.mv (.t 11)), .split 12, .op (some 13) (some (12, false)) (.mv (.t 0)), .op (some 14) (some (12, false)) (.bin .eql (.t 13) (.k (AV.int .i32 13))), .op (some 15) none (.pick (.t 12) (.k (AV.bool true)) (.t 14)), .op (some 2) none (.mv (.t 15))]) (.ret [2] [])) (.seq (.region [.op (some 17) none (.mv (.t 0)), .op (some 18) none (.bin .gtr (.t 17) (.k (AV.int .i32 126))), .op (some 19) none (.mv (.t 18)), .split 19, .op (some 20) (some (19, true)) (.mv (.t 0)), .op (some 21) (some (19, true)) (.bin .lss (.t 20) (.k (AV.int .i32 160))), .op (some 22) none (.pick (.t 19) (.t 21) (.k (AV.bool false))), .op (some 16) none (.mv (.t 22))]) (.cond (.t 16) (.seq (.region [.op (some 23) none (.mv (.t 0)), .op (some 24) none (.bin .eql (.t 23) (.k (AV.int .i32 133))), .op (some 2) none (.mv (.t 24))]) (.ret [2] [])) (.seq (.region [.op (some 26) none (.mv (.t 0)), .op (some 27) none (.bin .geq (.t 26) (.k (AV.int .i32 55296))), .op (some 28) none (.mv (.t 27)), .split 28, .op (some 29) (some (28, true)) (.mv (.t 0)), .op (some 30) (some (28, true)) (.bin .leq (.t 29) (.k (AV.int .i32 57343))), .op (some 31) none (.pick (.t 28) (.t 30) (.k (AV.bool false))), .op (some 32) none (.mv (.t 31)), .split 32, .op (some 33) (some (32, false)) (.mv (.t 0)), .op (some 34) (some (32, false)) (.bin .eql (.t 33) (.k (AV.int .i32 65279))), .op (some 35) none (.pick (.t 32) (.k (AV.bool true)) (.t 34)), .op (some 36) none (.mv (.t 35)), .split 36, .op (some 37) (some (36, false)) (.mv (.t 0)), .op (some 38) (some (36, false)) (.bin .eql (.t 37) (.k (AV.int .i32 65534))), .op (some 39) none (.pick (.t 36) (.k (AV.bool true)) (.t 38)), .op (some 40) none (.mv (.t 39)), .split 40, .op (some 41) (some (40, false)) (.mv (.t 0)), .op (some 42) (some (40, false)) (.bin .eql (.t 41) (.k (AV.int .i32 65535))), .op (some 43) none (.pick (.t 40) (.k (AV.bool true)) (.t 42)), .op (some 25) none (.mv (.t 43))]) (.cond (.t 25) (.seq (.region [.op (some 2) none (.mv (.k (AV.bool false)))]) (.ret [2] [])) (.skip)))))))) (.seq (.region [.op (some 44) none (.mv (.t 0)), .op (some 45) none (.bin .leq (.t 44) (.k (AV.int .i32 1114111))), .op (some 2) none (.mv (.t 45))]) (.ret [2] [])))
def charsPrintable : AFunc := ⟨1, 46, [.tmp 2], charsPrintable_c0⟩
def charsPrintabler (R : Nat → List AV → Option Res) (N : Nat) (i1 : Int) : Option Res :=
  bif decide ((i1 : Int) < 32) then
    (bif (i1 : Int) == 9 then
    (some ⟨AV.bool true, false, []⟩)
    else
    bif (i1 : Int) == 10 then
    (some ⟨AV.bool true, false, []⟩)
    else
    some ⟨AV.bool ((i1 : Int) == 13), false, []⟩)
  else
    bif decide ((i1 : Int) > 126) then
    (bif decide ((i1 : Int) < 160) then
    (some ⟨AV.bool ((i1 : Int) == 133), false, []⟩)
    else
    bif decide ((i1 : Int) ≥ 55296) then
    (bif decide ((i1 : Int) ≤ 57343) then
    (some ⟨AV.bool false, false, []⟩)
    else
    bif (i1 : Int) == 65279 then
    (some ⟨AV.bool false, false, []⟩)
    else
    bif (i1 : Int) == 65534 then
    (some ⟨AV.bool false, false, []⟩)
    else
    bif (i1 : Int) == 65535 then
    (some ⟨AV.bool false, false, []⟩)
    else
    some ⟨AV.bool (decide ((i1 : Int) ≤ 1114111)), false, []⟩)
    else
    bif (i1 : Int) == 65279 then
    (some ⟨AV.bool false, false, []⟩)
    else
    bif (i1 : Int) == 65534 then
    (some ⟨AV.bool false, false, []⟩)
    else
    bif (i1 : Int) == 65535 then
    (some ⟨AV.bool false, false, []⟩)
    else
    some ⟨AV.bool (decide ((i1 : Int) ≤ 1114111)), false, []⟩)
    else
    bif decide ((i1 : Int) ≥ 55296) then
    (bif decide ((i1 : Int) ≤ 57343) then
    (some ⟨AV.bool false, false, []⟩)
    else
    bif (i1 : Int) == 65279 then
    (some ⟨AV.bool false, false, []⟩)
    else
    bif (i1 : Int) == 65534 then
    (some ⟨AV.bool false, false, []⟩)
    else
    bif (i1 : Int) == 65535 then
    (some ⟨AV.bool false, false, []⟩)
    else
    some ⟨AV.bool (decide ((i1 : Int) ≤ 1114111)), false, []⟩)
    else
    bif (i1 : Int) == 65279 then
    (some ⟨AV.bool false, false, []⟩)
    else
    bif (i1 : Int) == 65534 then
    (some ⟨AV.bool false, false, []⟩)
    else
    bif (i1 : Int) == 65535 then
    (some ⟨AV.bool false, false, []⟩)
    else
    some ⟨AV.bool (decide ((i1 : Int) ≤ 1114111)), false, []⟩
theorem charsPrintable_eq (R : Nat → List AV → Option Res) (N : Nat) (i1 : Int) : runF gl R N charsPrintable [AV.int .i32 i1] = charsPrintabler R N i1 := by
  kernel_rfl
theorem charsPrintable_fit : fitF Tryd.prog charsPrintable Tryd.f62 = true := by
  kernel_rfl

def doubleHex_L1s (R : Nat → List AV → Option Res) (N : Nat) (go : Int → List UInt8 → Int → Int → Option Res) (k0 : List UInt8 → Option Res) (i3 : Int) (s1 : List UInt8) (i4 : Int) (i5 : Int) : Option Res :=
  bif decide ((i5 : Int) < i4) then
    (need (decide (0 ≤ (IntKind.u32.wrap (BitVec.ofInt IntKind.u32.bits i3 &&& BitVec.ofInt IntKind.u32.bits 15).toNat : Int))) <|
    ((([48, 49, 50, 51, 52, 53, 54, 55, 56, 57, 65, 66, 67, 68, 69, 70] : List UInt8) : List UInt8)[Int.toNat (IntKind.u32.wrap (BitVec.ofInt IntKind.u32.bits i3 &&& BitVec.ofInt IntKind.u32.bits 15).toNat)]?).bind fun c1 =>
    need (decide (((Utf8.encode (c1.toNat : Int)).data.toList).length + s1.length ≤ 9223372036854775807)) <|
    need (!decide (4 < 0)) <|
    go (Int.fdiv i3 (2 ^ (min (Int.toNat 4) IntKind.u32.bits))) (((Utf8.encode (c1.toNat : Int)).data.toList) ++ s1) i4 (IntKind.i64.wrap (i5 + 1)))
  else
    k0 s1
def doubleHex_L1 (R : Nat → List AV → Option Res) (N : Nat) (k0 : List UInt8 → Option Res) : Nat → Int → List UInt8 → Int → Int → Option Res
  | 0, _, _, _, _ => none
  | n + 1, i3, s1, i4, i5 => doubleHex_L1s R N (doubleHex_L1 R N k0 n) k0 i3 s1 i4 i5
def doubleHex_c0 : AC := .seq (.region [.op (some 14) none (.bin .lss (.t 13) (.t 12))]) (.seq (.cond (.t 14) (.skip) (.exit 0 [5] [])) (.seq (.block 1 (.seq (.region [.op (some 15) none (.mv (.t 0)), .op (some 16) none (.bin .and (.t 15) (.k (AV.int .u32 15))), .op (some 17) none (.index (.k (AV.str ([48, 49, 50, 51, 52, 53, 54, 55, 56, 57, 65, 66, 67, 68, 69, 70] : List UInt8))) (.t 16)), .op (some 18) none (.cvRune (.t 17)), .op (some 19) none (.mv (.t 5)), .op (some 20) none (.bin .add (.t 18) (.t 19)), .op (some 5) none (.mv (.t 20))]) (.region [.op (some 21) none (.mv (.t 0)), .op (some 22) none (.bin .shr (.t 21) (.k (AV.int .u64 4))), .op (some 0) none (.mv (.t 22))]))) (.region [.op (some 23) none (.bin .add (.t 13) (.k (AV.int .i64 1))), .op (some 13) none (.mv (.t 23))])))
theorem doubleHex_L1s_eq (R : Nat → List AV → Option Res) (N : Nat) (K : Ex → St → Option Res) (W : St → Option Res) (i3 : Int) (s1 : List UInt8) (i4 : Int) (i5 : Int) :
    evC gl R N doubleHex_c0 (Kseq (fun st' => W (prune [0, 5, 12, 13] [] st')) K) ⟨[(0, .imm (AV.int .u32 i3)), (5, .imm (AV.str s1)), (12, .imm (AV.int .i64 i4)), (13, .imm (AV.int .i64 i5))], []⟩ =
    doubleHex_L1s R N (fun (i3 : Int) (s1 : List UInt8) (i4 : Int) (i5 : Int) => W ⟨[(0, .imm (AV.int .u32 i3)), (5, .imm (AV.str s1)), (12, .imm (AV.int .i64 i4)), (13, .imm (AV.int .i64 i5))], []⟩) (fun (s2 : List UInt8) => K (.exit 0) ⟨[(5, .imm (AV.str s2))], []⟩) i3 s1 i4 i5 := by
  kernel_rfl
theorem doubleHex_L1_eq (R : Nat → List AV → Option Res) (N : Nat) (K : Ex → St → Option Res) : ∀ (n : Nat) (i3 : Int) (s1 : List UInt8) (i4 : Int) (i5 : Int),
    rounds [0, 5, 12, 13] [] (evC gl R N doubleHex_c0) K n ⟨[(0, .imm (AV.int .u32 i3)), (5, .imm (AV.str s1)), (12, .imm (AV.int .i64 i4)), (13, .imm (AV.int .i64 i5))], []⟩ = doubleHex_L1 R N (fun (s2 : List UInt8) => K (.exit 0) ⟨[(5, .imm (AV.str s2))], []⟩) n i3 s1 i4 i5
  | 0, _, _, _, _ => rfl
  | n + 1, i3, s1, i4, i5 => (doubleHex_L1s_eq R N K (rounds [0, 5, 12, 13] [] (evC gl R N doubleHex_c0) K n) i3 s1 i4 i5).trans
      (congrArg (fun go => doubleHex_L1s R N go (fun (s2 : List UInt8) => K (.exit 0) ⟨[(5, .imm (AV.str s2))], []⟩) i3 s1 i4 i5) (funext fun i3 => funext fun s1 => funext fun i4 => funext fun i5 => doubleHex_L1_eq R N K n i3 s1 i4 i5))
def doubleHex_c1 : AC := .seq (.region [.op (some 24) none (.mv (.t 5)), .op (some 4) none (.mv (.t 24))]) (.ret [4] [])
def doubleHex_c2 : AC := .seq (.region [.op (some 4) none (.mv (.k (AV.str ([] : List UInt8))))]) (.seq (.seq (.region [.op (some 6) none (.mv (.t 1)), .op (some 7) none (.bin .lss (.t 6) (.k (AV.int .i64 0))), .op (some 8) none (.mv (.t 7)), .split 8, .op (some 9) (some (8, false)) (.mv (.t 1)), .op (some 10) (some (8, false)) (.bin .gtr (.t 9) (.k (AV.int .i64 8))), .op (some 11) none (.pick (.t 8) (.k (AV.bool true)) (.t 10))]) (.cond (.t 11) (.seq (.region [.op (some 4) none (.mv (.k (AV.str ([] : List UInt8))))]) (.ret [4] [])) (.skip))) (.seq (.region [.op (some 5) none (.mv (.k (AV.str ([] : List UInt8))))]) (.seq (.seq (.region [.op (some 12) none (.mv (.t 1)), .op (some 13) none (.mv (.k (AV.int .i64 0)))]) (.block 0 (.loop [0, 5, 12, 13] [] (doubleHex_c0)))) (doubleHex_c1))))
def doubleHex : AFunc := ⟨2, 25, [.tmp 4], doubleHex_c2⟩
def doubleHexr (R : Nat → List AV → Option Res) (N : Nat) (i1 : Int) (i2 : Int) : Option Res :=
  bif decide ((i2 : Int) < 0) then
    (some ⟨AV.str ([] : List UInt8), false, []⟩)
  else
    bif decide ((i2 : Int) > 8) then
    (some ⟨AV.str ([] : List UInt8), false, []⟩)
    else
    doubleHex_L1 R N
      (fun s4 =>
    some ⟨AV.str s4, false, []⟩)
      N i1 ([] : List UInt8) i2 0
theorem doubleHex_eq (R : Nat → List AV → Option Res) (N : Nat) (i1 : Int) (i2 : Int) : runF gl R N doubleHex [AV.int .u32 i1, AV.int .i64 i2] = doubleHexr R N i1 i2 := by
  refine Eq.trans (b :=
    bif decide ((i2 : Int) < 0) then
    (some ⟨AV.str ([] : List UInt8), false, []⟩)
    else
    bif decide ((i2 : Int) > 8) then
    (some ⟨AV.str ([] : List UInt8), false, []⟩)
    else
    rounds [0, 5, 12, 13] [] (evC gl R N doubleHex_c0) (Kblock 0 (Kthen gl R N doubleHex_c1 (Kret doubleHex.rets []))) N ⟨[(0, .imm (AV.int .u32 i1)), (5, .imm (AV.str ([] : List UInt8))), (12, .imm (AV.int .i64 i2)), (13, .imm (AV.int .i64 0))], []⟩) (by kernel_rfl) ?_
  simp (config := { maxSteps := 100000000 }) only [doubleHex_L1_eq]
  kernel_rfl
theorem doubleHex_fit : fitF Tryd.prog doubleHex Tryd.f63 = true := by
  kernel_rfl
end Go.Proofs.YtlionohbndehgaaDoor.Vf
