/- The code of the functions that the statements reach, as our evaluator takes it, and what each of them comes to, readably: printed by a program of ours. No condition. -/
import Derived.Test.YtmpjohnbddnehaaDoorVf3
import Derived.Test.YtmpjohnbddnehaaDoorChecked
import Derived.Lib.DecodeN
namespace Go.Proofs.YtmpjohnbddnehaaDoor.Vf
set_option linter.unusedVariables false
set_option linter.unusedSimpArgs false
set_option maxRecDepth 100000

def g_maxLen : Nat := 0
def g_first : Nat := 1
def g_accept : Nat := 2
def gl : List (Nat × List AV) := [(g_first, (List.range 256).map fun c => AV.int .u8 (Lib.firstT c)), (g_accept, (List.range 32).map fun i => AV.int .u8 (bif Nat.beq (i % 2) 0 then Lib.accLo (i / 2) else Lib.accHi (i / 2))), (g_maxLen, [])]
def id_bytesContainsRune : Nat := 91
def id_bytesIndexByte : Nat := 44
def id_bytesMakeASCIISet : Nat := 71
def id_bytesTrimLeft : Nat := 46
def id_bytesTrimLeftByte : Nat := 70
def id_bytesTrimLeftUnicode : Nat := 73
def id_charsDigit : Nat := 93
def id_charsLetter : Nat := 75
def id_charsName : Nat := 48
def id_internalBytealgIndexByte : Nat := 69
def id_internalStringsliteCutPrefix : Nat := 74
def id_internalStringsliteHasPrefix : Nat := 92
def id_internalStringsliteTrimPrefix : Nat := 76
def id_keepCopyInt : Nat := 84
def id_keepCutInt : Nat := 54
def id_keepIntact : Nat := 43
def id_keepLend : Nat := 38
def id_keepSameInt : Nat := 33
def id_keepText : Nat := 35
def id_keepWithin : Nat := 14
def id_law10PropsAliases : Nat := 5
def id_law10PropsBack : Nat := 12
def id_law10PropsForms : Nat := 3
def id_law10PropsLong : Nat := 4
def id_law10PropsTell : Nat := 13
def id_law10Text : Nat := 37
def id_law10Wakes : Nat := 16
def id_propsPropsAdd : Nat := 45
def id_propsPut : Nat := 36
def id_propsTake : Nat := 15
def id_propsTakeAlias : Nat := 18
def id_propsValidTag : Nat := 17
def id_ref01Letter : Nat := 68
def id_ref01Name : Nat := 67
def id_ref01Printable : Nat := 82
def id_ref01Rune : Nat := 80
def id_ref08PutProps : Nat := 42
def id_ref08TakeAlias : Nat := 40
def id_ref08TakeProps : Nat := 39
def id_ref08ValidTag : Nat := 41
def id_ref08Word : Nat := 66
def id_stringsBuilderCopyCheckLow : Nat := 95
def id_stringsBuilderGrow : Nat := 86
def id_stringsBuilderGrowLow : Nat := 96
def id_stringsBuilderReset : Nat := 115
def id_stringsBuilderString : Nat := 88
def id_stringsBuilderWriteString : Nat := 87
def id_stringsCutPrefix : Nat := 47
def id_stringsJoin : Nat := 65
def id_stringsTrimPrefix : Nat := 49
def id_unicodeUtf8DecodeRune : Nat := 90
def id_unicodeUtf8DecodeRuneSlow : Nat := 97
def id_unicodeUtf8ValidString : Nat := 78
def asSBT {α : Type} (v : AV) (K : List UInt8 → Bool → Option α) : Option α :=
  asT v fun l1 => asC l1 fun x2 r2 => asS x2 fun a0 => asC r2 fun x3 r3 => asB x3 fun a1 => asN r3 <| K a0 a1
def asJIT {α : Type} (v : AV) (K : Int → Int → Option α) : Option α :=
  asT v fun l1 => asC l1 fun x2 r2 => asI .i32 x2 fun a0 => asC r2 fun x3 r3 => asI .i64 x3 fun a1 => asN r3 <| K a0 a1
def asSSA {α : Type} (v : AV) (K : List UInt8 → List UInt8 → Option α) : Option α :=
  asA v fun l1 => asC l1 fun x2 r2 => asS x2 fun a0 => asC r2 fun x3 r3 => asS x3 fun a1 => asN r3 <| K a0 a1
def asAIBT {α : Type} (v : AV) (K : List UInt8 → List UInt8 → Int → Bool → Option α) : Option α :=
  asT v fun l1 => asC l1 fun x2 r2 => asA x2 fun l3 => asC l3 fun x4 r4 => asS x4 fun a0 => asC r4 fun x5 r5 => asS x5 fun a1 => asN r5 <| asC r2 fun x6 r6 => asI .i64 x6 fun a2 => asC r6 fun x7 r7 => asB x7 fun a3 => asN r7 <| K a0 a1 a2 a3
def asSIBT {α : Type} (v : AV) (K : List UInt8 → Int → Bool → Option α) : Option α :=
  asT v fun l1 => asC l1 fun x2 r2 => asS x2 fun a0 => asC r2 fun x3 r3 => asI .i64 x3 fun a1 => asC r3 fun x4 r4 => asB x4 fun a2 => asN r4 <| K a0 a1 a2

def keepWithin_c0 : AC := .seq (.region [.op (some 4) none (.mv (.k (AV.int .i64 0)))]) (.seq (.seq (.region [.op (some 6) none (.mv (.t 1)), .op (some 7) none (.bin .lss (.t 6) (.k (AV.int .i64 1)))]) (.cond (.t 7) (.seq (.region [.op (some 4) none (.mv (.k (AV.int .i64 0)))]) (.ret [4] [])) (.skip))) (.seq (.region [.op (some 8) none (.mv (.t 0)), .op (some 9) none (.mv (.t 1)), .op (some 10) none (.bin .rem (.t 8) (.t 9)), .op (some 5) none (.mv (.t 10))]) (.seq (.seq (.region [.op (some 11) none (.mv (.t 5)), .op (some 12) none (.bin .lss (.t 11) (.k (AV.int .i64 0)))]) (.cond (.t 12) (.region [.op (some 13) none (.mv (.t 5)), .op (some 14) none (.mv (.t 1)), .op (some 15) none (.bin .add (.t 13) (.t 14)), .op (some 5) none (.mv (.t 15))]) (.skip))) (.seq (.region [.op (some 16) none (.mv (.t 5)), .op (some 4) none (.mv (.t 16))]) (.ret [4] [])))))
def keepWithin : AFunc := ⟨2, 17, [.tmp 4], keepWithin_c0⟩
def keepWithinr (R : Nat → List AV → Option Res) (N : Nat) (i1 : Int) (i2 : Int) : Option Res :=
  bif decide ((i2 : Int) < 1) then
    (some ⟨AV.int .i64 0, false, []⟩)
  else
    need (!decide (i2 = 0)) <|
    bif decide (((Int.tmod i1 i2) : Int) < 0) then
      (some ⟨AV.int .i64 (IntKind.i64.wrap ((Int.tmod i1 i2) + i2)), false, []⟩)
    else
      some ⟨AV.int .i64 (Int.tmod i1 i2), false, []⟩
theorem keepWithin_eq (R : Nat → List AV → Option Res) (N : Nat) (i1 : Int) (i2 : Int) : runF gl R N keepWithin [AV.int .i64 i1, AV.int .i64 i2] = keepWithinr R N i1 i2 := by
  kernel_rfl
theorem keepWithin_fit : fitF Tryd.prog keepWithin Tryd.f14 = true := by
  kernel_rfl

def bytesIndexByte_c0 : AC := .seq (.region [.op (some 4) none (.mv (.k (AV.int .i64 0)))]) (.seq (.region [.op (some 5) none (.mv (.t 0)), .op (some 6) none (.mv (.t 1)), .op (some 7) none (.call id_internalBytealgIndexByte [.t 5, .t 6] (.int .i64)), .op (some 4) none (.mv (.t 7))]) (.ret [4] []))
def bytesIndexByte : AFunc := ⟨2, 8, [.tmp 4], bytesIndexByte_c0⟩
def bytesIndexByter (R : Nat → List AV → Option Res) (N : Nat) (s1 : List UInt8) (i1 : Int) : Option Res :=
  (R id_internalBytealgIndexByte [AV.bytes s1, AV.int .u8 i1]).bind fun r1 =>
  asI .i64 r1.v fun i2 =>
  some ⟨AV.int .i64 i2, false, []⟩
theorem bytesIndexByte_eq (R : Nat → List AV → Option Res) (N : Nat) (s1 : List UInt8) (i1 : Int) : runF gl R N bytesIndexByte [AV.bytes s1, AV.int .u8 i1] = bytesIndexByter R N s1 i1 := by
  kernel_rfl
theorem bytesIndexByte_fit : fitF Tryd.prog bytesIndexByte Tryd.f44 = true := by
  kernel_rfl

def internalStringsliteHasPrefix_c0 : AC := .seq (.region [.op (some 4) none (.mv (.k (AV.bool false)))]) (.seq (.region [.op (some 5) none (.mv (.t 0)), .op (some 6) none (.len (.t 5) true), .op (some 7) none (.mv (.t 1)), .op (some 8) none (.len (.t 7) true), .op (some 9) none (.bin .geq (.t 6) (.t 8)), .op (some 10) none (.mv (.t 9)), .split 10, .op (some 11) (some (10, true)) (.mv (.t 0)), .op (some 12) (some (10, true)) (.mv (.t 1)), .op (some 13) (some (10, true)) (.len (.t 12) true), .op (some 14) (some (10, true)) (.sliceS (.t 11) none (some (.t 13))), .op (some 15) (some (10, true)) (.mv (.t 1)), .op (some 16) (some (10, true)) (.bin .eql (.t 14) (.t 15)), .op (some 17) none (.pick (.t 10) (.t 16) (.k (AV.bool false))), .op (some 4) none (.mv (.t 17))]) (.ret [4] []))
def internalStringsliteHasPrefix : AFunc := ⟨2, 18, [.tmp 4], internalStringsliteHasPrefix_c0⟩
def internalStringsliteHasPrefixr (R : Nat → List AV → Option Res) (N : Nat) (s1 : List UInt8) (s2 : List UInt8) : Option Res :=
  bif decide ((((s1.length : Nat) : Int) : Int) ≥ ((s2.length : Nat) : Int)) then
    (need (decide (0 ≤ (((s2.length : Nat) : Int) : Int)) && decide ((((s2.length : Nat) : Int) : Int) ≤ ((s1.length : Nat) : Int))) <|
    some ⟨AV.bool (((s1.take (Int.toNat ((s2.length : Nat) : Int))).drop 0) == s2), false, []⟩)
  else
    some ⟨AV.bool false, false, []⟩
theorem internalStringsliteHasPrefix_eq (R : Nat → List AV → Option Res) (N : Nat) (s1 : List UInt8) (s2 : List UInt8) : runF gl R N internalStringsliteHasPrefix [AV.str s1, AV.str s2] = internalStringsliteHasPrefixr R N s1 s2 := by
  kernel_rfl
theorem internalStringsliteHasPrefix_fit : fitF Tryd.prog internalStringsliteHasPrefix Tryd.f92 = true := by
  kernel_rfl

def internalStringsliteCutPrefix_c0 : AC := .seq (.region [.op (some 4) none (.mv (.k (AV.str ([] : List UInt8)))), .op (some 5) none (.mv (.k (AV.bool false)))]) (.seq (.seq (.region [.op (some 6) none (.mv (.t 0)), .op (some 7) none (.mv (.t 1)), .op (some 8) none (.call id_internalStringsliteHasPrefix [.t 6, .t 7] (.bool)), .op (some 9) none (.un .not (.t 8))]) (.cond (.t 9) (.seq (.region [.op (some 10) none (.mv (.t 0)), .op (some 4) none (.mv (.t 10)), .op (some 5) none (.mv (.k (AV.bool false)))]) (.ret [4, 5] [])) (.skip))) (.seq (.region [.op (some 11) none (.mv (.t 0)), .op (some 12) none (.mv (.t 1)), .op (some 13) none (.len (.t 12) true), .op (some 14) none (.sliceS (.t 11) (some (.t 13)) none), .op (some 4) none (.mv (.t 14)), .op (some 5) none (.mv (.k (AV.bool true)))]) (.ret [4, 5] [])))
def internalStringsliteCutPrefix : AFunc := ⟨2, 15, [.tmp 4, .tmp 5], internalStringsliteCutPrefix_c0⟩
def internalStringsliteCutPrefixr (R : Nat → List AV → Option Res) (N : Nat) (s1 : List UInt8) (s2 : List UInt8) : Option Res :=
  (R id_internalStringsliteHasPrefix [AV.str s1, AV.str s2]).bind fun r1 =>
  asB r1.v fun b1 =>
  bif !b1 then
    (some ⟨AV.tup [AV.str s1, AV.bool false], false, []⟩)
  else
    need (decide (0 ≤ (((s2.length : Nat) : Int) : Int)) && decide ((((s2.length : Nat) : Int) : Int) ≤ ((s1.length : Nat) : Int))) <|
    some ⟨AV.tup [AV.str ((s1.take s1.length).drop (Int.toNat ((s2.length : Nat) : Int))), AV.bool true], false, []⟩
theorem internalStringsliteCutPrefix_eq (R : Nat → List AV → Option Res) (N : Nat) (s1 : List UInt8) (s2 : List UInt8) : runF gl R N internalStringsliteCutPrefix [AV.str s1, AV.str s2] = internalStringsliteCutPrefixr R N s1 s2 := by
  kernel_rfl
theorem internalStringsliteCutPrefix_fit : fitF Tryd.prog internalStringsliteCutPrefix Tryd.f74 = true := by
  kernel_rfl

def stringsCutPrefix_c0 : AC := .seq (.region [.op (some 4) none (.mv (.k (AV.str ([] : List UInt8)))), .op (some 5) none (.mv (.k (AV.bool false)))]) (.seq (.region [.op (some 6) none (.mv (.t 0)), .op (some 7) none (.mv (.t 1)), .op (some 8) none (.call id_internalStringsliteCutPrefix [.t 6, .t 7] (.tup [.str, .bool])), .op (some 9) none (.extract (.t 8) 0), .op (some 10) none (.extract (.t 8) 1), .op (some 4) none (.mv (.t 9)), .op (some 5) none (.mv (.t 10))]) (.ret [4, 5] []))
def stringsCutPrefix : AFunc := ⟨2, 11, [.tmp 4, .tmp 5], stringsCutPrefix_c0⟩
def stringsCutPrefixr (R : Nat → List AV → Option Res) (N : Nat) (s1 : List UInt8) (s2 : List UInt8) : Option Res :=
  (R id_internalStringsliteCutPrefix [AV.str s1, AV.str s2]).bind fun r1 =>
  asSBT r1.v fun s3 b1 =>
  some ⟨AV.tup [AV.str s3, AV.bool b1], false, []⟩
theorem stringsCutPrefix_eq (R : Nat → List AV → Option Res) (N : Nat) (s1 : List UInt8) (s2 : List UInt8) : runF gl R N stringsCutPrefix [AV.str s1, AV.str s2] = stringsCutPrefixr R N s1 s2 := by
  kernel_rfl
theorem stringsCutPrefix_fit : fitF Tryd.prog stringsCutPrefix Tryd.f47 = true := by
  kernel_rfl

def charsDigit_c0 : AC := .seq (.region [.op (some 2) none (.mv (.k (AV.bool false)))]) (.seq (.region [.op (some 3) none (.mv (.t 0)), .op (some 4) none (.bin .geq (.t 3) (.k (AV.int .u8 48))), .op (some 5) none (.mv (.t 4)), .split 5, .op (some 6) (some (5, true)) (.mv (.t 0)), .op (some 7) (some (5, true)) (.bin .leq (.t 6) (.k (AV.int .u8 57))), .op (some 8) none (.pick (.t 5) (.t 7) (.k (AV.bool false))), .op (some 2) none (.mv (.t 8))]) (.ret [2] []))
def charsDigit : AFunc := ⟨1, 9, [.tmp 2], charsDigit_c0⟩
def charsDigitr (R : Nat → List AV → Option Res) (N : Nat) (i1 : Int) : Option Res :=
  bif decide ((i1 : Int) ≥ 48) then
    (some ⟨AV.bool (decide ((i1 : Int) ≤ 57)), false, []⟩)
  else
    some ⟨AV.bool false, false, []⟩
theorem charsDigit_eq (R : Nat → List AV → Option Res) (N : Nat) (i1 : Int) : runF gl R N charsDigit [AV.int .u8 i1] = charsDigitr R N i1 := by
  kernel_rfl
theorem charsDigit_fit : fitF Tryd.prog charsDigit Tryd.f93 = true := by
  kernel_rfl

def charsLetter_c0 : AC := .seq (.region [.op (some 2) none (.mv (.k (AV.bool false)))]) (.seq (.region [.op (some 3) none (.mv (.t 0)), .op (some 4) none (.bin .geq (.t 3) (.k (AV.int .u8 97))), .op (some 5) none (.mv (.t 4)), .split 5, .op (some 6) (some (5, true)) (.mv (.t 0)), .op (some 7) (some (5, true)) (.bin .leq (.t 6) (.k (AV.int .u8 122))), .op (some 8) none (.pick (.t 5) (.t 7) (.k (AV.bool false))), .op (some 9) none (.mv (.t 8)), .split 9, .op (some 10) (some (9, false)) (.mv (.t 0)), .op (some 11) (some (9, false)) (.bin .geq (.t 10) (.k (AV.int .u8 65))), .op (some 12) (some (9, false)) (.mv (.t 11)), .split 12, .op (some 13) (some (12, true)) (.mv (.t 0)), .op (some 14) (some (12, true)) (.bin .leq (.t 13) (.k (AV.int .u8 90))), .op (some 15) (some (9, false)) (.pick (.t 12) (.t 14) (.k (AV.bool false))), .op (some 16) none (.pick (.t 9) (.k (AV.bool true)) (.t 15)), .op (some 17) none (.mv (.t 16)), .split 17, .op (some 18) (some (17, false)) (.mv (.t 0)), .op (some 19) (some (17, false)) (.call id_charsDigit [.t 18] (.bool)), .op (some 20) none (.pick (.t 17) (.k (AV.bool true)) (.t 19)), .op (some 21) none (.mv (.t 20)), .split 21, .op (some 22) (some (21, false)) (.mv (.t 0)), .op (some 23) (some (21, false)) (.bin .eql (.t 22) (.k (AV.int .u8 45))), .op (some 24) none (.pick (.t 21) (.k (AV.bool true)) (.t 23)), .op (some 25) none (.mv (.t 24)), .split 25, .op (some 26) (some (25, false)) (.mv (.t 0)), .op (some 27) (some (25, false)) (.bin .eql (.t 26) (.k (AV.int .u8 95))), .op (some 28) none (.pick (.t 25) (.k (AV.bool true)) (.t 27)), .op (some 2) none (.mv (.t 28))]) (.ret [2] []))
def charsLetter : AFunc := ⟨1, 29, [.tmp 2], charsLetter_c0⟩
def charsLetterr (R : Nat → List AV → Option Res) (N : Nat) (i1 : Int) : Option Res :=
  bif decide ((i1 : Int) ≥ 97) then
    (bif decide ((i1 : Int) ≤ 122) then
      (some ⟨AV.bool true, false, []⟩)
    else
      bif decide ((i1 : Int) ≥ 65) then
        (bif decide ((i1 : Int) ≤ 90) then
          (some ⟨AV.bool true, false, []⟩)
        else
          (R id_charsDigit [AV.int .u8 i1]).bind fun r1 =>
          asB r1.v fun b1 =>
          bif b1 then
            (some ⟨AV.bool true, false, []⟩)
          else
            bif (i1 : Int) == 45 then
              (some ⟨AV.bool true, false, []⟩)
            else
              some ⟨AV.bool ((i1 : Int) == 95), false, []⟩)
      else
        (R id_charsDigit [AV.int .u8 i1]).bind fun r2 =>
        asB r2.v fun b2 =>
        bif b2 then
          (some ⟨AV.bool true, false, []⟩)
        else
          bif (i1 : Int) == 45 then
            (some ⟨AV.bool true, false, []⟩)
          else
            some ⟨AV.bool ((i1 : Int) == 95), false, []⟩)
  else
    bif decide ((i1 : Int) ≥ 65) then
      (bif decide ((i1 : Int) ≤ 90) then
        (some ⟨AV.bool true, false, []⟩)
      else
        (R id_charsDigit [AV.int .u8 i1]).bind fun r3 =>
        asB r3.v fun b3 =>
        bif b3 then
          (some ⟨AV.bool true, false, []⟩)
        else
          bif (i1 : Int) == 45 then
            (some ⟨AV.bool true, false, []⟩)
          else
            some ⟨AV.bool ((i1 : Int) == 95), false, []⟩)
    else
      (R id_charsDigit [AV.int .u8 i1]).bind fun r4 =>
      asB r4.v fun b4 =>
      bif b4 then
        (some ⟨AV.bool true, false, []⟩)
      else
        bif (i1 : Int) == 45 then
          (some ⟨AV.bool true, false, []⟩)
        else
          some ⟨AV.bool ((i1 : Int) == 95), false, []⟩
theorem charsLetter_eq (R : Nat → List AV → Option Res) (N : Nat) (i1 : Int) : runF gl R N charsLetter [AV.int .u8 i1] = charsLetterr R N i1 := by
  kernel_rfl
theorem charsLetter_fit : fitF Tryd.prog charsLetter Tryd.f75 = true := by
  kernel_rfl

def charsName_L1s (R : Nat → List AV → Option Res) (N : Nat) (go : List UInt8 → List UInt8 → Int → Int → Option Res) (k0 : Bool → Option Res) (k1 : List UInt8 → Option Res) (s2 : List UInt8) (s3 : List UInt8) (i1 : Int) (i2 : Int) : Option Res :=
  bif decide ((i2 : Int) < i1) then
    (need (decide (0 ≤ (i2 : Int))) <|
    (s3[Int.toNat i2]?).bind fun c1 =>
    (R id_charsLetter [AV.int .u8 (c1.toNat : Int)]).bind fun r1 =>
    asB r1.v fun b1 =>
    bif !b1 then
      (k0 false)
    else
      go s2 s3 i1 (IntKind.i64.wrap (i2 + 1)))
  else
    k1 s2
def charsName_L1 (R : Nat → List AV → Option Res) (N : Nat) (k0 : Bool → Option Res) (k1 : List UInt8 → Option Res) : Nat → List UInt8 → List UInt8 → Int → Int → Option Res
  | 0, _, _, _, _ => none
  | n + 1, s2, s3, i1, i2 => charsName_L1s R N (charsName_L1 R N k0 k1 n) k0 k1 s2 s3 i1 i2
def charsName_c0 : AC := .seq (.region [.op (some 9) none (.bin .lss (.t 8) (.t 7))]) (.seq (.cond (.t 9) (.skip) (.exit 0 [0] [])) (.seq (.block 1 (.seq (.region [.op (some 10) none (.iaddr (.t 6) (.t 8) 1 (.int .u8)), .op (some 11) none (.load (.t 10) none (.int .u8)), .op (some 4) none (.mv (.t 11))]) (.seq (.region [.op (some 12) none (.mv (.t 4)), .op (some 13) none (.call id_charsLetter [.t 12] (.bool)), .op (some 14) none (.un .not (.t 13))]) (.cond (.t 14) (.seq (.region [.op (some 2) none (.mv (.k (AV.bool false)))]) (.ret [2] [])) (.skip))))) (.region [.op (some 15) none (.bin .add (.t 8) (.k (AV.int .i64 1))), .op (some 8) none (.mv (.t 15))])))
theorem charsName_L1s_eq (R : Nat → List AV → Option Res) (N : Nat) (K : Ex → St → Option Res) (W : St → Option Res) (s2 : List UInt8) (s3 : List UInt8) (i1 : Int) (i2 : Int) :
    evC gl R N charsName_c0 (Kseq (fun st' => W (prune [0, 6, 7, 8] [] st')) K) ⟨[(0, .imm (AV.str s2)), (6, .imm (AV.bytes s3)), (7, .imm (AV.int .i64 i1)), (8, .imm (AV.int .i64 i2))], []⟩ =
    charsName_L1s R N (fun (s2 : List UInt8) (s3 : List UInt8) (i1 : Int) (i2 : Int) => W ⟨[(0, .imm (AV.str s2)), (6, .imm (AV.bytes s3)), (7, .imm (AV.int .i64 i1)), (8, .imm (AV.int .i64 i2))], []⟩) (fun (b2 : Bool) => K .ret ⟨[(2, .imm (AV.bool b2))], []⟩) (fun (s4 : List UInt8) => K (.exit 0) ⟨[(0, .imm (AV.str s4))], []⟩) s2 s3 i1 i2 := by
  kernel_rfl
theorem charsName_L1_eq (R : Nat → List AV → Option Res) (N : Nat) (K : Ex → St → Option Res) : ∀ (n : Nat) (s2 : List UInt8) (s3 : List UInt8) (i1 : Int) (i2 : Int),
    rounds [0, 6, 7, 8] [] (evC gl R N charsName_c0) K n ⟨[(0, .imm (AV.str s2)), (6, .imm (AV.bytes s3)), (7, .imm (AV.int .i64 i1)), (8, .imm (AV.int .i64 i2))], []⟩ = charsName_L1 R N (fun (b2 : Bool) => K .ret ⟨[(2, .imm (AV.bool b2))], []⟩) (fun (s4 : List UInt8) => K (.exit 0) ⟨[(0, .imm (AV.str s4))], []⟩) n s2 s3 i1 i2
  | 0, _, _, _, _ => rfl
  | n + 1, s2, s3, i1, i2 => (charsName_L1s_eq R N K (rounds [0, 6, 7, 8] [] (evC gl R N charsName_c0) K n) s2 s3 i1 i2).trans
      (congrArg (fun go => charsName_L1s R N go (fun (b2 : Bool) => K .ret ⟨[(2, .imm (AV.bool b2))], []⟩) (fun (s4 : List UInt8) => K (.exit 0) ⟨[(0, .imm (AV.str s4))], []⟩) s2 s3 i1 i2) (funext fun s2 => funext fun s3 => funext fun i1 => funext fun i2 => charsName_L1_eq R N K n s2 s3 i1 i2))
def charsName_c1 : AC := .seq (.region [.op (some 16) none (.mv (.t 0)), .op (some 17) none (.bin .neq (.t 16) (.k (AV.str ([] : List UInt8)))), .op (some 18) none (.mv (.t 17)), .split 18, .op (some 19) (some (18, true)) (.mv (.t 0)), .op (some 20) (some (18, true)) (.len (.t 19) true), .op (some 21) (some (18, true)) (.bin .leq (.t 20) (.k (AV.int .i64 32))), .op (some 22) none (.pick (.t 18) (.t 21) (.k (AV.bool false))), .op (some 2) none (.mv (.t 22))]) (.ret [2] [])
def charsName_c2 : AC := .seq (.region [.op (some 2) none (.mv (.k (AV.bool false)))]) (.seq (.seq (.region [.op (some 5) none (.mv (.t 0)), .op (some 6) none (.cvBytes (.t 5)), .op (some 7) none (.len (.t 6) false), .op (some 8) none (.mv (.k (AV.int .i64 0)))]) (.block 0 (.loop [0, 6, 7, 8] [] (charsName_c0)))) (charsName_c1))
def charsName : AFunc := ⟨1, 23, [.tmp 2], charsName_c2⟩
def charsNamer (R : Nat → List AV → Option Res) (N : Nat) (s1 : List UInt8) : Option Res :=
  charsName_L1 R N
    (fun b4 =>
      some ⟨AV.bool b4, false, []⟩)
    (fun s6 =>
      bif !(s6 == ([] : List UInt8)) then
        (some ⟨AV.bool (decide ((((s6.length : Nat) : Int) : Int) ≤ 32)), false, []⟩)
      else
        some ⟨AV.bool false, false, []⟩)
    N s1 s1 ((s1.length : Nat) : Int) 0
theorem charsName_eq (R : Nat → List AV → Option Res) (N : Nat) (s1 : List UInt8) : runF gl R N charsName [AV.str s1] = charsNamer R N s1 := by
  refine Eq.trans (b :=
      rounds [0, 6, 7, 8] [] (evC gl R N charsName_c0) (Kblock 0 (Kthen gl R N charsName_c1 (Kret charsName.rets []))) N ⟨[(0, .imm (AV.str s1)), (6, .imm (AV.bytes s1)), (7, .imm (AV.int .i64 ((s1.length : Nat) : Int))), (8, .imm (AV.int .i64 0))], []⟩) (by kernel_rfl) ?_
  simp (config := { maxSteps := 100000000 }) only [charsName_L1_eq]
  kernel_rfl
theorem charsName_fit : fitF Tryd.prog charsName Tryd.f48 = true := by
  kernel_rfl

def internalStringsliteTrimPrefix_c0 : AC := .seq (.region [.op (some 4) none (.mv (.k (AV.str ([] : List UInt8))))]) (.seq (.seq (.region [.op (some 5) none (.mv (.t 0)), .op (some 6) none (.mv (.t 1)), .op (some 7) none (.call id_internalStringsliteHasPrefix [.t 5, .t 6] (.bool))]) (.cond (.t 7) (.seq (.region [.op (some 8) none (.mv (.t 0)), .op (some 9) none (.mv (.t 1)), .op (some 10) none (.len (.t 9) true), .op (some 11) none (.sliceS (.t 8) (some (.t 10)) none), .op (some 4) none (.mv (.t 11))]) (.ret [4] [])) (.skip))) (.seq (.region [.op (some 12) none (.mv (.t 0)), .op (some 4) none (.mv (.t 12))]) (.ret [4] [])))
def internalStringsliteTrimPrefix : AFunc := ⟨2, 13, [.tmp 4], internalStringsliteTrimPrefix_c0⟩
def internalStringsliteTrimPrefixr (R : Nat → List AV → Option Res) (N : Nat) (s1 : List UInt8) (s2 : List UInt8) : Option Res :=
  (R id_internalStringsliteHasPrefix [AV.str s1, AV.str s2]).bind fun r1 =>
  asB r1.v fun b1 =>
  bif b1 then
    (need (decide (0 ≤ (((s2.length : Nat) : Int) : Int)) && decide ((((s2.length : Nat) : Int) : Int) ≤ ((s1.length : Nat) : Int))) <|
    some ⟨AV.str ((s1.take s1.length).drop (Int.toNat ((s2.length : Nat) : Int))), false, []⟩)
  else
    some ⟨AV.str s1, false, []⟩
theorem internalStringsliteTrimPrefix_eq (R : Nat → List AV → Option Res) (N : Nat) (s1 : List UInt8) (s2 : List UInt8) : runF gl R N internalStringsliteTrimPrefix [AV.str s1, AV.str s2] = internalStringsliteTrimPrefixr R N s1 s2 := by
  kernel_rfl
theorem internalStringsliteTrimPrefix_fit : fitF Tryd.prog internalStringsliteTrimPrefix Tryd.f76 = true := by
  kernel_rfl

def stringsTrimPrefix_c0 : AC := .seq (.region [.op (some 4) none (.mv (.k (AV.str ([] : List UInt8))))]) (.seq (.region [.op (some 5) none (.mv (.t 0)), .op (some 6) none (.mv (.t 1)), .op (some 7) none (.call id_internalStringsliteTrimPrefix [.t 5, .t 6] (.str)), .op (some 4) none (.mv (.t 7))]) (.ret [4] []))
def stringsTrimPrefix : AFunc := ⟨2, 8, [.tmp 4], stringsTrimPrefix_c0⟩
def stringsTrimPrefixr (R : Nat → List AV → Option Res) (N : Nat) (s1 : List UInt8) (s2 : List UInt8) : Option Res :=
  (R id_internalStringsliteTrimPrefix [AV.str s1, AV.str s2]).bind fun r1 =>
  asS r1.v fun s3 =>
  some ⟨AV.str s3, false, []⟩
theorem stringsTrimPrefix_eq (R : Nat → List AV → Option Res) (N : Nat) (s1 : List UInt8) (s2 : List UInt8) : runF gl R N stringsTrimPrefix [AV.str s1, AV.str s2] = stringsTrimPrefixr R N s1 s2 := by
  kernel_rfl
theorem stringsTrimPrefix_fit : fitF Tryd.prog stringsTrimPrefix Tryd.f49 = true := by
  kernel_rfl

def propsValidTag_c0 : AC := .seq (.region [.op (some 2) none (.mv (.k (AV.bool false)))]) (.seq (.region [.op (some 6) none (.mv (.t 0)), .op (some 7) none (.call id_stringsCutPrefix [.t 6, .k (AV.str ([33] : List UInt8))] (.tup [.str, .bool])), .op (some 5) none (.mv (.t 7)), .op (some 8) none (.extract (.t 5) 0), .op (some 9) none (.extract (.t 5) 1), .op (some 3) none (.mv (.t 8)), .op (some 4) none (.mv (.t 9))]) (.seq (.region [.op (some 10) none (.mv (.t 4)), .op (some 11) none (.mv (.t 10)), .split 11, .op (some 12) (some (11, true)) (.mv (.t 3)), .op (some 13) (some (11, true)) (.bin .eql (.t 12) (.k (AV.str ([] : List UInt8)))), .op (some 14) (some (11, true)) (.mv (.t 13)), .split 14, .op (some 15) (some (14, false)) (.mv (.t 3)), .op (some 16) (some (14, false)) (.call id_stringsTrimPrefix [.t 15, .k (AV.str ([33] : List UInt8))] (.str)), .op (some 17) (some (14, false)) (.call id_charsName [.t 16] (.bool)), .op (some 18) (some (11, true)) (.pick (.t 14) (.k (AV.bool true)) (.t 17)), .op (some 19) none (.pick (.t 11) (.t 18) (.k (AV.bool false))), .op (some 2) none (.mv (.t 19))]) (.ret [2] [])))
def propsValidTag : AFunc := ⟨1, 20, [.tmp 2], propsValidTag_c0⟩
def propsValidTagr (R : Nat → List AV → Option Res) (N : Nat) (s1 : List UInt8) : Option Res :=
  (R id_stringsCutPrefix [AV.str s1, AV.str ([33] : List UInt8)]).bind fun r1 =>
  asSBT r1.v fun s2 b1 =>
  bif b1 then
    (bif s2 == ([] : List UInt8) then
      (some ⟨AV.bool true, false, []⟩)
    else
      (R id_stringsTrimPrefix [AV.str s2, AV.str ([33] : List UInt8)]).bind fun r2 =>
      asS r2.v fun s3 =>
      (R id_charsName [AV.str s3]).bind fun r3 =>
      asB r3.v fun b2 =>
      some ⟨AV.bool b2, false, []⟩)
  else
    some ⟨AV.bool false, false, []⟩
theorem propsValidTag_eq (R : Nat → List AV → Option Res) (N : Nat) (s1 : List UInt8) : runF gl R N propsValidTag [AV.str s1] = propsValidTagr R N s1 := by
  kernel_rfl
theorem propsValidTag_fit : fitF Tryd.prog propsValidTag Tryd.f17 = true := by
  kernel_rfl

def propsPropsAdd_c0 : AC := .seq (.region [.op (some 4) none (.mv (.k (AV.bool false)))]) (.seq (.region [.op (some 8) none (.mv (.t 1)), .op (some 9) none (.call id_stringsCutPrefix [.t 8, .k (AV.str ([38] : List UInt8))] (.tup [.str, .bool])), .op (some 7) none (.mv (.t 9)), .op (some 10) none (.extract (.t 7) 0), .op (some 11) none (.extract (.t 7) 1), .op (some 5) none (.mv (.t 10)), .op (some 6) none (.mv (.t 11))]) (.seq (.block 0 (.seq (.region [.op (some 13) none (.mv (.t 6)), .op (some 14) none (.mv (.t 13)), .split 14, .op (some 15) (some (14, true)) (.mv (.t 0)), .op (some 16) (some (14, true)) (.nilchk (.t 15)), .op (some 17) (some (14, true)) (.faddr (.t 16) 1), .op (some 18) (some (14, true)) (.load (.t 17) none (.str)), .op (some 19) (some (14, true)) (.bin .eql (.t 18) (.k (AV.str ([] : List UInt8)))), .op (some 20) none (.pick (.t 14) (.t 19) (.k (AV.bool false))), .op (some 21) none (.mv (.t 20)), .split 21, .op (some 22) (some (21, true)) (.mv (.t 5)), .op (some 23) (some (21, true)) (.call id_charsName [.t 22] (.bool)), .op (some 24) none (.pick (.t 21) (.t 23) (.k (AV.bool false))), .op (some 12) none (.mv (.t 24))]) (.cond (.t 12) (.region [.op (some 25) none (.mv (.t 0)), .op (some 26) none (.mv (.t 5)), .op (some 27) none (.nilchk (.t 25)), .op (some 28) none (.faddr (.t 27) 1), .op none none (.store (.t 28) (.t 26) 1)]) (.seq (.region [.op (some 30) none (.mv (.t 6)), .op (some 31) none (.un .not (.t 30)), .op (some 32) none (.mv (.t 31)), .split 32, .op (some 33) (some (32, true)) (.mv (.t 0)), .op (some 34) (some (32, true)) (.nilchk (.t 33)), .op (some 35) (some (32, true)) (.faddr (.t 34) 0), .op (some 36) (some (32, true)) (.load (.t 35) none (.str)), .op (some 37) (some (32, true)) (.bin .eql (.t 36) (.k (AV.str ([] : List UInt8)))), .op (some 38) none (.pick (.t 32) (.t 37) (.k (AV.bool false))), .op (some 39) none (.mv (.t 38)), .split 39, .op (some 40) (some (39, true)) (.mv (.t 1)), .op (some 41) (some (39, true)) (.call id_propsValidTag [.t 40] (.bool)), .op (some 42) none (.pick (.t 39) (.t 41) (.k (AV.bool false))), .op (some 29) none (.mv (.t 42))]) (.cond (.t 29) (.region [.op (some 43) none (.mv (.t 0)), .op (some 44) none (.mv (.t 1)), .op (some 45) none (.nilchk (.t 43)), .op (some 46) none (.faddr (.t 45) 0), .op none none (.store (.t 46) (.t 44) 1)]) (.seq (.region [.op (some 4) none (.mv (.k (AV.bool false)))]) (.ret [4] [900000]))))))) (.seq (.region [.op (some 4) none (.mv (.k (AV.bool true)))]) (.ret [4] [900000]))))
def propsPropsAdd : AFunc := ⟨2, 47, [.tmp 4], propsPropsAdd_c0⟩
def propsPropsAddr (R : Nat → List AV → Option Res) (N : Nat) (s1 : List UInt8) (s2 : List UInt8) (s3 : List UInt8) : Option Res :=
  (R id_stringsCutPrefix [AV.str s3, AV.str ([38] : List UInt8)]).bind fun r1 =>
  asSBT r1.v fun s4 b1 =>
  bif b1 then
    (bif s2 == ([] : List UInt8) then
      ((R id_charsName [AV.str s4]).bind fun r2 =>
      asB r2.v fun b2 =>
      bif b2 then
        (some ⟨AV.bool true, false, [AV.ref (AV.agg [AV.str s1, AV.str s4])]⟩)
      else
        bif !b1 then
          (bif s1 == ([] : List UInt8) then
            ((R id_propsValidTag [AV.str s3]).bind fun r3 =>
            asB r3.v fun b3 =>
            bif b3 then
              (some ⟨AV.bool true, false, [AV.ref (AV.agg [AV.str s3, AV.str s2])]⟩)
            else
              some ⟨AV.bool false, false, [AV.ref (AV.agg [AV.str s1, AV.str s2])]⟩)
          else
            some ⟨AV.bool false, false, [AV.ref (AV.agg [AV.str s1, AV.str s2])]⟩)
        else
          some ⟨AV.bool false, false, [AV.ref (AV.agg [AV.str s1, AV.str s2])]⟩)
    else
      bif !b1 then
        (bif s1 == ([] : List UInt8) then
          ((R id_propsValidTag [AV.str s3]).bind fun r4 =>
          asB r4.v fun b4 =>
          bif b4 then
            (some ⟨AV.bool true, false, [AV.ref (AV.agg [AV.str s3, AV.str s2])]⟩)
          else
            some ⟨AV.bool false, false, [AV.ref (AV.agg [AV.str s1, AV.str s2])]⟩)
        else
          some ⟨AV.bool false, false, [AV.ref (AV.agg [AV.str s1, AV.str s2])]⟩)
      else
        some ⟨AV.bool false, false, [AV.ref (AV.agg [AV.str s1, AV.str s2])]⟩)
  else
    bif !b1 then
      (bif s1 == ([] : List UInt8) then
        ((R id_propsValidTag [AV.str s3]).bind fun r5 =>
        asB r5.v fun b5 =>
        bif b5 then
          (some ⟨AV.bool true, false, [AV.ref (AV.agg [AV.str s3, AV.str s2])]⟩)
        else
          some ⟨AV.bool false, false, [AV.ref (AV.agg [AV.str s1, AV.str s2])]⟩)
      else
        some ⟨AV.bool false, false, [AV.ref (AV.agg [AV.str s1, AV.str s2])]⟩)
    else
      some ⟨AV.bool false, false, [AV.ref (AV.agg [AV.str s1, AV.str s2])]⟩
theorem propsPropsAdd_eq (R : Nat → List AV → Option Res) (N : Nat) (s1 : List UInt8) (s2 : List UInt8) (s3 : List UInt8) : runF gl R N propsPropsAdd [AV.ref (AV.agg [AV.str s1, AV.str s2]), AV.str s3] = propsPropsAddr R N s1 s2 s3 := by
  kernel_rfl
theorem propsPropsAdd_fit : fitF Tryd.prog propsPropsAdd Tryd.f45 = true := by
  kernel_rfl

def bytesTrimLeftByte_L1s (R : Nat → List AV → Option Res) (N : Nat) (go : List UInt8 → Int → Option Res) (k0 : List UInt8 → Option Res) (s2 : List UInt8) (i2 : Int) : Option Res :=
  bif decide ((((s2.length : Nat) : Int) : Int) > 0) then
    (need (decide (0 ≤ (0 : Int))) <|
    (s2[Int.toNat 0]?).bind fun c1 =>
    bif ((c1.toNat : Int) : Int) == i2 then
      (need (decide (0 ≤ (1 : Int)) && decide ((1 : Int) ≤ ((s2.length : Nat) : Int))) <|
      go ((s2.take s2.length).drop (Int.toNat 1)) i2)
    else
      k0 s2)
  else
    k0 s2
def bytesTrimLeftByte_L1 (R : Nat → List AV → Option Res) (N : Nat) (k0 : List UInt8 → Option Res) : Nat → List UInt8 → Int → Option Res
  | 0, _, _ => none
  | n + 1, s2, i2 => bytesTrimLeftByte_L1s R N (bytesTrimLeftByte_L1 R N k0 n) k0 s2 i2
def bytesTrimLeftByte_c0 : AC := .seq (.seq (.region [.op (some 5) none (.mv (.t 0)), .op (some 6) none (.len (.t 5) false), .op (some 7) none (.bin .gtr (.t 6) (.k (AV.int .i64 0))), .op (some 8) none (.mv (.t 7)), .split 8, .op (some 9) (some (8, true)) (.mv (.t 0)), .op (some 10) (some (8, true)) (.iaddr (.t 9) (.k (AV.int .i64 0)) 1 (.int .u8)), .op (some 11) (some (8, true)) (.load (.t 10) none (.int .u8)), .op (some 12) (some (8, true)) (.mv (.t 1)), .op (some 13) (some (8, true)) (.bin .eql (.t 11) (.t 12)), .op (some 14) none (.pick (.t 8) (.t 13) (.k (AV.bool false)))]) (.cond (.t 14) (.skip) (.exit 0 [0] []))) (.block 1 (.region [.op (some 15) none (.mv (.t 0)), .op (some 16) none (.slice (.t 15) (some (.k (AV.int .i64 1))) none 1), .op (some 0) none (.mv (.t 16))]))
theorem bytesTrimLeftByte_L1s_eq (R : Nat → List AV → Option Res) (N : Nat) (K : Ex → St → Option Res) (W : St → Option Res) (s2 : List UInt8) (i2 : Int) :
    evC gl R N bytesTrimLeftByte_c0 (Kseq (fun st' => W (prune [0, 1] [] st')) K) ⟨[(0, .imm (AV.bytes s2)), (1, .imm (AV.int .u8 i2))], []⟩ =
    bytesTrimLeftByte_L1s R N (fun (s2 : List UInt8) (i2 : Int) => W ⟨[(0, .imm (AV.bytes s2)), (1, .imm (AV.int .u8 i2))], []⟩) (fun (s3 : List UInt8) => K (.exit 0) ⟨[(0, .imm (AV.bytes s3))], []⟩) s2 i2 := by
  kernel_rfl
theorem bytesTrimLeftByte_L1_eq (R : Nat → List AV → Option Res) (N : Nat) (K : Ex → St → Option Res) : ∀ (n : Nat) (s2 : List UInt8) (i2 : Int),
    rounds [0, 1] [] (evC gl R N bytesTrimLeftByte_c0) K n ⟨[(0, .imm (AV.bytes s2)), (1, .imm (AV.int .u8 i2))], []⟩ = bytesTrimLeftByte_L1 R N (fun (s3 : List UInt8) => K (.exit 0) ⟨[(0, .imm (AV.bytes s3))], []⟩) n s2 i2
  | 0, _, _ => rfl
  | n + 1, s2, i2 => (bytesTrimLeftByte_L1s_eq R N K (rounds [0, 1] [] (evC gl R N bytesTrimLeftByte_c0) K n) s2 i2).trans
      (congrArg (fun go => bytesTrimLeftByte_L1s R N go (fun (s3 : List UInt8) => K (.exit 0) ⟨[(0, .imm (AV.bytes s3))], []⟩) s2 i2) (funext fun s2 => funext fun i2 => bytesTrimLeftByte_L1_eq R N K n s2 i2))
def bytesTrimLeftByte_c1 : AC := .seq (.seq (.region [.op (some 17) none (.mv (.t 0)), .op (some 18) none (.len (.t 17) false), .op (some 19) none (.bin .eql (.t 18) (.k (AV.int .i64 0)))]) (.cond (.t 19) (.seq (.region [.op (some 4) none (.mv (.k (AV.bytes [])))]) (.ret [4] [])) (.skip))) (.seq (.region [.op (some 20) none (.mv (.t 0)), .op (some 4) none (.mv (.t 20))]) (.ret [4] []))
def bytesTrimLeftByte_c2 : AC := .seq (.region [.op (some 4) none (.mv (.k (AV.bytes [])))]) (.seq (.block 0 (.loop [0, 1] [] (bytesTrimLeftByte_c0))) (bytesTrimLeftByte_c1))
def bytesTrimLeftByte : AFunc := ⟨2, 21, [.tmp 4], bytesTrimLeftByte_c2⟩
def bytesTrimLeftByter (R : Nat → List AV → Option Res) (N : Nat) (s1 : List UInt8) (i1 : Int) : Option Res :=
  bytesTrimLeftByte_L1 R N
    (fun s5 =>
      bif (((s5.length : Nat) : Int) : Int) == 0 then
        (some ⟨AV.bytes [], false, []⟩)
      else
        some ⟨AV.bytes s5, false, []⟩)
    N s1 i1
theorem bytesTrimLeftByte_eq (R : Nat → List AV → Option Res) (N : Nat) (s1 : List UInt8) (i1 : Int) : runF gl R N bytesTrimLeftByte [AV.bytes s1, AV.int .u8 i1] = bytesTrimLeftByter R N s1 i1 := by
  refine Eq.trans (b :=
      rounds [0, 1] [] (evC gl R N bytesTrimLeftByte_c0) (Kblock 0 (Kthen gl R N bytesTrimLeftByte_c1 (Kret bytesTrimLeftByte.rets []))) N ⟨[(0, .imm (AV.bytes s1)), (1, .imm (AV.int .u8 i1))], []⟩) (by kernel_rfl) ?_
  simp (config := { maxSteps := 100000000 }) only [bytesTrimLeftByte_L1_eq]
  kernel_rfl
theorem bytesTrimLeftByte_fit : fitF Tryd.prog bytesTrimLeftByte Tryd.f70 = true := by
  kernel_rfl

def bytesMakeASCIISet : AFunc := ⟨1, 21, [.cell 2 256, .tmp 3], .stuck⟩
def bytesMakeASCIISetr (R : Nat → List AV → Option Res) (N : Nat) (s1 : List UInt8) : Option Res :=
  none
theorem bytesMakeASCIISet_eq (R : Nat → List AV → Option Res) (N : Nat) (s1 : List UInt8) : runF gl R N bytesMakeASCIISet [AV.str s1] = bytesMakeASCIISetr R N s1 := by
  kernel_rfl
theorem bytesMakeASCIISet_fit : fitF Tryd.prog bytesMakeASCIISet Tryd.f71 = true := by
  kernel_rfl

def unicodeUtf8DecodeRuneSlow_c1 : AC := .seq (.region [.op (some 2) none (.mv (.k (AV.int .i32 0))), .op (some 3) none (.mv (.k (AV.int .i64 0)))]) (.seq (.region [.op (some 13) none (.mv (.t 0)), .op (some 14) none (.len (.t 13) false), .op (some 4) none (.mv (.t 14))]) (.seq (.seq (.region [.op (some 15) none (.mv (.t 4)), .op (some 16) none (.bin .lss (.t 15) (.k (AV.int .i64 1)))]) (.cond (.t 16) (.seq (.region [.op (some 2) none (.mv (.k (AV.int .i32 65533))), .op (some 3) none (.mv (.k (AV.int .i64 0)))]) (.ret [2, 3] [])) (.skip))) (.seq (.region [.op (some 17) none (.mv (.t 0)), .op (some 18) none (.iaddr (.t 17) (.k (AV.int .i64 0)) 1 (.int .u8)), .op (some 19) none (.load (.t 18) none (.int .u8)), .op (some 5) none (.mv (.t 19))]) (.stuck))))
def unicodeUtf8DecodeRuneSlow : AFunc := ⟨1, 122, [.tmp 2, .tmp 3], unicodeUtf8DecodeRuneSlow_c1⟩
def unicodeUtf8DecodeRuneSlowr (R : Nat → List AV → Option Res) (N : Nat) (s1 : List UInt8) : Option Res :=
  bif decide ((((s1.length : Nat) : Int) : Int) < 1) then
    (some ⟨AV.tup [AV.int .i32 65533, AV.int .i64 0], false, []⟩)
  else
    need (decide (0 ≤ (0 : Int))) <|
    (s1[Int.toNat 0]?).bind fun c1 =>
    none
theorem unicodeUtf8DecodeRuneSlow_eq (R : Nat → List AV → Option Res) (N : Nat) (s1 : List UInt8) : runF gl R N unicodeUtf8DecodeRuneSlow [AV.bytes s1] = unicodeUtf8DecodeRuneSlowr R N s1 := by
  kernel_rfl
theorem unicodeUtf8DecodeRuneSlow_fit : fitF Tryd.prog unicodeUtf8DecodeRuneSlow Tryd.f97 = true := by
  kernel_rfl

def unicodeUtf8DecodeRune_L1s (R : Nat → List AV → Option Res) (N : Nat) (go : List UInt8 → List UInt8 → Int → Int → Option Res) (k0 : Int → Int → Option Res) (k1 : List UInt8 → Option Res) (s2 : List UInt8) (s3 : List UInt8) (i1 : Int) (i2 : Int) : Option Res :=
  bif decide ((i2 : Int) < i1) then
    (need (decide (0 ≤ (i2 : Int))) <|
    (s3[Int.toNat i2]?).bind fun c1 =>
    bif decide (((c1.toNat : Int) : Int) < 128) then
      (k0 (IntKind.i32.wrap (c1.toNat : Int)) 1)
    else
      k1 s2)
  else
    k1 s2
def unicodeUtf8DecodeRune_L1 (R : Nat → List AV → Option Res) (N : Nat) (k0 : Int → Int → Option Res) (k1 : List UInt8 → Option Res) : Nat → List UInt8 → List UInt8 → Int → Int → Option Res
  | 0, _, _, _, _ => none
  | n + 1, s2, s3, i1, i2 => unicodeUtf8DecodeRune_L1s R N (unicodeUtf8DecodeRune_L1 R N k0 k1 n) k0 k1 s2 s3 i1 i2
def unicodeUtf8DecodeRune_c0 : AC := .seq (.region [.op (some 9) none (.bin .lss (.t 8) (.t 7))]) (.seq (.cond (.t 9) (.skip) (.exit 0 [0] [])) (.seq (.block 1 (.seq (.region [.op (some 10) none (.iaddr (.t 6) (.t 8) 1 (.int .u8)), .op (some 11) none (.load (.t 10) none (.int .u8)), .op (some 5) none (.mv (.t 11))]) (.seq (.seq (.region [.op (some 12) none (.mv (.t 5)), .op (some 13) none (.bin .lss (.t 12) (.k (AV.int .u8 128)))]) (.cond (.t 13) (.seq (.region [.op (some 14) none (.mv (.t 5)), .op (some 15) none (.cvInt .i32 (.t 14)), .op (some 2) none (.mv (.t 15)), .op (some 3) none (.mv (.k (AV.int .i64 1)))]) (.ret [2, 3] [])) (.skip))) (.exit 0 [0] [])))) (.region [.op (some 16) none (.bin .add (.t 8) (.k (AV.int .i64 1))), .op (some 8) none (.mv (.t 16))])))
theorem unicodeUtf8DecodeRune_L1s_eq (R : Nat → List AV → Option Res) (N : Nat) (K : Ex → St → Option Res) (W : St → Option Res) (s2 : List UInt8) (s3 : List UInt8) (i1 : Int) (i2 : Int) :
    evC gl R N unicodeUtf8DecodeRune_c0 (Kseq (fun st' => W (prune [0, 6, 7, 8] [] st')) K) ⟨[(0, .imm (AV.bytes s2)), (6, .imm (AV.bytes s3)), (7, .imm (AV.int .i64 i1)), (8, .imm (AV.int .i64 i2))], []⟩ =
    unicodeUtf8DecodeRune_L1s R N (fun (s2 : List UInt8) (s3 : List UInt8) (i1 : Int) (i2 : Int) => W ⟨[(0, .imm (AV.bytes s2)), (6, .imm (AV.bytes s3)), (7, .imm (AV.int .i64 i1)), (8, .imm (AV.int .i64 i2))], []⟩) (fun (i3 : Int) (i4 : Int) => K .ret ⟨[(2, .imm (AV.int .i32 i3)), (3, .imm (AV.int .i64 i4))], []⟩) (fun (s4 : List UInt8) => K (.exit 0) ⟨[(0, .imm (AV.bytes s4))], []⟩) s2 s3 i1 i2 := by
  kernel_rfl
theorem unicodeUtf8DecodeRune_L1_eq (R : Nat → List AV → Option Res) (N : Nat) (K : Ex → St → Option Res) : ∀ (n : Nat) (s2 : List UInt8) (s3 : List UInt8) (i1 : Int) (i2 : Int),
    rounds [0, 6, 7, 8] [] (evC gl R N unicodeUtf8DecodeRune_c0) K n ⟨[(0, .imm (AV.bytes s2)), (6, .imm (AV.bytes s3)), (7, .imm (AV.int .i64 i1)), (8, .imm (AV.int .i64 i2))], []⟩ = unicodeUtf8DecodeRune_L1 R N (fun (i3 : Int) (i4 : Int) => K .ret ⟨[(2, .imm (AV.int .i32 i3)), (3, .imm (AV.int .i64 i4))], []⟩) (fun (s4 : List UInt8) => K (.exit 0) ⟨[(0, .imm (AV.bytes s4))], []⟩) n s2 s3 i1 i2
  | 0, _, _, _, _ => rfl
  | n + 1, s2, s3, i1, i2 => (unicodeUtf8DecodeRune_L1s_eq R N K (rounds [0, 6, 7, 8] [] (evC gl R N unicodeUtf8DecodeRune_c0) K n) s2 s3 i1 i2).trans
      (congrArg (fun go => unicodeUtf8DecodeRune_L1s R N go (fun (i3 : Int) (i4 : Int) => K .ret ⟨[(2, .imm (AV.int .i32 i3)), (3, .imm (AV.int .i64 i4))], []⟩) (fun (s4 : List UInt8) => K (.exit 0) ⟨[(0, .imm (AV.bytes s4))], []⟩) s2 s3 i1 i2) (funext fun s2 => funext fun s3 => funext fun i1 => funext fun i2 => unicodeUtf8DecodeRune_L1_eq R N K n s2 s3 i1 i2))
def unicodeUtf8DecodeRune_c1 : AC := .seq (.region [.op (some 18) none (.mv (.t 0)), .op (some 19) none (.call id_unicodeUtf8DecodeRuneSlow [.t 18] (.tup [.int .i32, .int .i64])), .op (some 17) none (.mv (.t 19)), .op (some 20) none (.extract (.t 17) 0), .op (some 21) none (.extract (.t 17) 1), .op (some 2) none (.mv (.t 20)), .op (some 3) none (.mv (.t 21))]) (.ret [2, 3] [])
def unicodeUtf8DecodeRune_c2 : AC := .seq (.region [.op (some 2) none (.mv (.k (AV.int .i32 0))), .op (some 3) none (.mv (.k (AV.int .i64 0)))]) (.seq (.seq (.region [.op (some 6) none (.mv (.t 0)), .op (some 7) none (.len (.t 6) false), .op (some 8) none (.mv (.k (AV.int .i64 0)))]) (.block 0 (.loop [0, 6, 7, 8] [] (unicodeUtf8DecodeRune_c0)))) (unicodeUtf8DecodeRune_c1))
def unicodeUtf8DecodeRune : AFunc := ⟨1, 22, [.tmp 2, .tmp 3], unicodeUtf8DecodeRune_c2⟩
def unicodeUtf8DecodeRuner (R : Nat → List AV → Option Res) (N : Nat) (s1 : List UInt8) : Option Res :=
  unicodeUtf8DecodeRune_L1 R N
    (fun i7 i8 =>
      some ⟨AV.tup [AV.int .i32 i7, AV.int .i64 i8], false, []⟩)
    (fun s6 =>
      (R id_unicodeUtf8DecodeRuneSlow [AV.bytes s6]).bind fun r1 =>
      asJIT r1.v fun i9 i10 =>
      some ⟨AV.tup [AV.int .i32 i9, AV.int .i64 i10], false, []⟩)
    N s1 s1 ((s1.length : Nat) : Int) 0
theorem unicodeUtf8DecodeRune_eq (R : Nat → List AV → Option Res) (N : Nat) (s1 : List UInt8) : runF gl R N unicodeUtf8DecodeRune [AV.bytes s1] = unicodeUtf8DecodeRuner R N s1 := by
  refine Eq.trans (b :=
      rounds [0, 6, 7, 8] [] (evC gl R N unicodeUtf8DecodeRune_c0) (Kblock 0 (Kthen gl R N unicodeUtf8DecodeRune_c1 (Kret unicodeUtf8DecodeRune.rets []))) N ⟨[(0, .imm (AV.bytes s1)), (6, .imm (AV.bytes s1)), (7, .imm (AV.int .i64 ((s1.length : Nat) : Int))), (8, .imm (AV.int .i64 0))], []⟩) (by kernel_rfl) ?_
  simp (config := { maxSteps := 100000000 }) only [unicodeUtf8DecodeRune_L1_eq]
  kernel_rfl
theorem unicodeUtf8DecodeRune_fit : fitF Tryd.prog unicodeUtf8DecodeRune Tryd.f90 = true := by
  kernel_rfl

def bytesContainsRune_L1s (R : Nat → List AV → Option Res) (N : Nat) (go : Int → List UInt8 → Nat → Option Res) (k0 : Bool → Option Res) (k1 : Option Res) (i2 : Int) (s2 : List UInt8) (n1 : Nat) : Option Res :=
  bif decide (n1 < s2.length) then
    (bif (((runeAt s2 n1).1 : Int) : Int) == i2 then
      (k0 true)
    else
      go i2 s2 (n1 + (runeAt s2 n1).2))
  else
    k1
def bytesContainsRune_L1 (R : Nat → List AV → Option Res) (N : Nat) (k0 : Bool → Option Res) (k1 : Option Res) : Nat → Int → List UInt8 → Nat → Option Res
  | 0, _, _, _ => none
  | n + 1, i2, s2, n1 => bytesContainsRune_L1s R N (bytesContainsRune_L1 R N k0 k1 n) k0 k1 i2 s2 n1
def bytesContainsRune_c0 : AC := .seq (.region [.op (some 9) none (.nextS (.t 8)), .op (some 10) none (.extract (.t 9) 0)]) (.seq (.cond (.t 10) (.skip) (.exit 0 [] [])) (.block 1 (.seq (.region [.op (some 11) none (.extract (.t 9) 2), .op (some 6) none (.mv (.t 11))]) (.seq (.region [.op (some 12) none (.mv (.t 6)), .op (some 13) none (.mv (.t 1)), .op (some 14) none (.bin .eql (.t 12) (.t 13))]) (.cond (.t 14) (.seq (.region [.op (some 4) none (.mv (.k (AV.bool true)))]) (.ret [4] [])) (.skip))))))
theorem bytesContainsRune_L1s_eq (R : Nat → List AV → Option Res) (N : Nat) (K : Ex → St → Option Res) (W : St → Option Res) (i2 : Int) (s2 : List UInt8) (n1 : Nat) :
    evC gl R N bytesContainsRune_c0 (Kseq (fun st' => W (prune [1, 8] [1008] st')) K) ⟨[(1, .imm (AV.int .i32 i2)), (8, .ptr 1008 0 0)], [(1008, .iter s2 n1)]⟩ =
    bytesContainsRune_L1s R N (fun (i2 : Int) (s2 : List UInt8) (n1 : Nat) => W ⟨[(1, .imm (AV.int .i32 i2)), (8, .ptr 1008 0 0)], [(1008, .iter s2 n1)]⟩) (fun (b1 : Bool) => K .ret ⟨[(4, .imm (AV.bool b1))], []⟩) (K (.exit 0) ⟨[], []⟩) i2 s2 n1 := by
  kernel_rfl
theorem bytesContainsRune_L1_eq (R : Nat → List AV → Option Res) (N : Nat) (K : Ex → St → Option Res) : ∀ (n : Nat) (i2 : Int) (s2 : List UInt8) (n1 : Nat),
    rounds [1, 8] [1008] (evC gl R N bytesContainsRune_c0) K n ⟨[(1, .imm (AV.int .i32 i2)), (8, .ptr 1008 0 0)], [(1008, .iter s2 n1)]⟩ = bytesContainsRune_L1 R N (fun (b1 : Bool) => K .ret ⟨[(4, .imm (AV.bool b1))], []⟩) (K (.exit 0) ⟨[], []⟩) n i2 s2 n1
  | 0, _, _, _ => rfl
  | n + 1, i2, s2, n1 => (bytesContainsRune_L1s_eq R N K (rounds [1, 8] [1008] (evC gl R N bytesContainsRune_c0) K n) i2 s2 n1).trans
      (congrArg (fun go => bytesContainsRune_L1s R N go (fun (b1 : Bool) => K .ret ⟨[(4, .imm (AV.bool b1))], []⟩) (K (.exit 0) ⟨[], []⟩) i2 s2 n1) (funext fun i2 => funext fun s2 => funext fun n1 => bytesContainsRune_L1_eq R N K n i2 s2 n1))
def bytesContainsRune_c1 : AC := .seq (.region [.op (some 4) none (.mv (.k (AV.bool false)))]) (.ret [4] [])
def bytesContainsRune_c2 : AC := .seq (.region [.op (some 4) none (.mv (.k (AV.bool false)))]) (.seq (.seq (.region [.op (some 7) none (.mv (.t 0)), .op (some 8) none (.rangeS 1008 (.t 7))]) (.block 0 (.loop [1, 8] [1008] (bytesContainsRune_c0)))) (bytesContainsRune_c1))
def bytesContainsRune : AFunc := ⟨2, 15, [.tmp 4], bytesContainsRune_c2⟩
def bytesContainsRuner (R : Nat → List AV → Option Res) (N : Nat) (s1 : List UInt8) (i1 : Int) : Option Res :=
  bytesContainsRune_L1 R N
    (fun b3 =>
      some ⟨AV.bool b3, false, []⟩)
    (
      some ⟨AV.bool false, false, []⟩)
    N i1 s1 0
theorem bytesContainsRune_eq (R : Nat → List AV → Option Res) (N : Nat) (s1 : List UInt8) (i1 : Int) : runF gl R N bytesContainsRune [AV.str s1, AV.int .i32 i1] = bytesContainsRuner R N s1 i1 := by
  refine Eq.trans (b :=
      rounds [1, 8] [1008] (evC gl R N bytesContainsRune_c0) (Kblock 0 (Kthen gl R N bytesContainsRune_c1 (Kret bytesContainsRune.rets []))) N ⟨[(1, .imm (AV.int .i32 i1)), (8, .ptr 1008 0 0)], [(1008, .iter s1 0)]⟩) (by kernel_rfl) ?_
  simp (config := { maxSteps := 100000000 }) only [bytesContainsRune_L1_eq]
  kernel_rfl
theorem bytesContainsRune_fit : fitF Tryd.prog bytesContainsRune Tryd.f91 = true := by
  kernel_rfl

def bytesTrimLeftUnicode_L1s (R : Nat → List AV → Option Res) (N : Nat) (go : List UInt8 → List UInt8 → Option Res) (k0 : List UInt8 → Option Res) (s3 : List UInt8) (s4 : List UInt8) : Option Res :=
  bif decide ((((s3.length : Nat) : Int) : Int) > 0) then
    ((R id_unicodeUtf8DecodeRune [AV.bytes s3]).bind fun r1 =>
    asJIT r1.v fun i1 i2 =>
    none)
  else
    k0 s3
def bytesTrimLeftUnicode_L1 (R : Nat → List AV → Option Res) (N : Nat) (k0 : List UInt8 → Option Res) : Nat → List UInt8 → List UInt8 → Option Res
  | 0, _, _ => none
  | n + 1, s3, s4 => bytesTrimLeftUnicode_L1s R N (bytesTrimLeftUnicode_L1 R N k0 n) k0 s3 s4
def bytesTrimLeftUnicode_c1 : AC := .seq (.seq (.region [.op (some 7) none (.mv (.t 0)), .op (some 8) none (.len (.t 7) false), .op (some 9) none (.bin .gtr (.t 8) (.k (AV.int .i64 0)))]) (.cond (.t 9) (.skip) (.exit 0 [0] []))) (.block 1 (.seq (.region [.op (some 11) none (.mv (.t 0)), .op (some 12) none (.call id_unicodeUtf8DecodeRune [.t 11] (.tup [.int .i32, .int .i64])), .op (some 10) none (.mv (.t 12)), .op (some 13) none (.extract (.t 10) 0), .op (some 14) none (.extract (.t 10) 1), .op (some 5) none (.mv (.t 13)), .op (some 6) none (.mv (.t 14))]) (.stuck)))
theorem bytesTrimLeftUnicode_L1s_eq (R : Nat → List AV → Option Res) (N : Nat) (K : Ex → St → Option Res) (W : St → Option Res) (s3 : List UInt8) (s4 : List UInt8) :
    evC gl R N bytesTrimLeftUnicode_c1 (Kseq (fun st' => W (prune [0, 1] [] st')) K) ⟨[(0, .imm (AV.bytes s3)), (1, .imm (AV.str s4))], []⟩ =
    bytesTrimLeftUnicode_L1s R N (fun (s3 : List UInt8) (s4 : List UInt8) => W ⟨[(0, .imm (AV.bytes s3)), (1, .imm (AV.str s4))], []⟩) (fun (s5 : List UInt8) => K (.exit 0) ⟨[(0, .imm (AV.bytes s5))], []⟩) s3 s4 := by
  kernel_rfl
theorem bytesTrimLeftUnicode_L1_eq (R : Nat → List AV → Option Res) (N : Nat) (K : Ex → St → Option Res) : ∀ (n : Nat) (s3 : List UInt8) (s4 : List UInt8),
    rounds [0, 1] [] (evC gl R N bytesTrimLeftUnicode_c1) K n ⟨[(0, .imm (AV.bytes s3)), (1, .imm (AV.str s4))], []⟩ = bytesTrimLeftUnicode_L1 R N (fun (s5 : List UInt8) => K (.exit 0) ⟨[(0, .imm (AV.bytes s5))], []⟩) n s3 s4
  | 0, _, _ => rfl
  | n + 1, s3, s4 => (bytesTrimLeftUnicode_L1s_eq R N K (rounds [0, 1] [] (evC gl R N bytesTrimLeftUnicode_c1) K n) s3 s4).trans
      (congrArg (fun go => bytesTrimLeftUnicode_L1s R N go (fun (s5 : List UInt8) => K (.exit 0) ⟨[(0, .imm (AV.bytes s5))], []⟩) s3 s4) (funext fun s3 => funext fun s4 => bytesTrimLeftUnicode_L1_eq R N K n s3 s4))
def bytesTrimLeftUnicode_c2 : AC := .seq (.seq (.region [.op (some 22) none (.mv (.t 0)), .op (some 23) none (.len (.t 22) false), .op (some 24) none (.bin .eql (.t 23) (.k (AV.int .i64 0)))]) (.cond (.t 24) (.seq (.region [.op (some 4) none (.mv (.k (AV.bytes [])))]) (.ret [4] [])) (.skip))) (.seq (.region [.op (some 25) none (.mv (.t 0)), .op (some 4) none (.mv (.t 25))]) (.ret [4] []))
def bytesTrimLeftUnicode_c3 : AC := .seq (.region [.op (some 4) none (.mv (.k (AV.bytes [])))]) (.seq (.block 0 (.loop [0, 1] [] (bytesTrimLeftUnicode_c1))) (bytesTrimLeftUnicode_c2))
def bytesTrimLeftUnicode : AFunc := ⟨2, 26, [.tmp 4], bytesTrimLeftUnicode_c3⟩
def bytesTrimLeftUnicoder (R : Nat → List AV → Option Res) (N : Nat) (s1 : List UInt8) (s2 : List UInt8) : Option Res :=
  bytesTrimLeftUnicode_L1 R N
    (fun s7 =>
      bif (((s7.length : Nat) : Int) : Int) == 0 then
        (some ⟨AV.bytes [], false, []⟩)
      else
        some ⟨AV.bytes s7, false, []⟩)
    N s1 s2
theorem bytesTrimLeftUnicode_eq (R : Nat → List AV → Option Res) (N : Nat) (s1 : List UInt8) (s2 : List UInt8) : runF gl R N bytesTrimLeftUnicode [AV.bytes s1, AV.str s2] = bytesTrimLeftUnicoder R N s1 s2 := by
  refine Eq.trans (b :=
      rounds [0, 1] [] (evC gl R N bytesTrimLeftUnicode_c1) (Kblock 0 (Kthen gl R N bytesTrimLeftUnicode_c2 (Kret bytesTrimLeftUnicode.rets []))) N ⟨[(0, .imm (AV.bytes s1)), (1, .imm (AV.str s2))], []⟩) (by kernel_rfl) ?_
  simp (config := { maxSteps := 100000000 }) only [bytesTrimLeftUnicode_L1_eq]
  kernel_rfl
theorem bytesTrimLeftUnicode_fit : fitF Tryd.prog bytesTrimLeftUnicode Tryd.f73 = true := by
  kernel_rfl

def bytesTrimLeft_c1 : AC := .seq (.region [.op (some 4) none (.mv (.k (AV.bytes [])))]) (.seq (.seq (.region [.op (some 7) none (.mv (.t 0)), .op (some 8) none (.len (.t 7) false), .op (some 9) none (.bin .eql (.t 8) (.k (AV.int .i64 0)))]) (.cond (.t 9) (.seq (.region [.op (some 4) none (.mv (.k (AV.bytes [])))]) (.ret [4] [])) (.skip))) (.seq (.seq (.region [.op (some 10) none (.mv (.t 1)), .op (some 11) none (.bin .eql (.t 10) (.k (AV.str ([] : List UInt8))))]) (.cond (.t 11) (.seq (.region [.op (some 12) none (.mv (.t 0)), .op (some 4) none (.mv (.t 12))]) (.ret [4] [])) (.skip))) (.seq (.seq (.region [.op (some 13) none (.mv (.t 1)), .op (some 14) none (.len (.t 13) true), .op (some 15) none (.bin .eql (.t 14) (.k (AV.int .i64 1))), .op (some 16) none (.mv (.t 15)), .split 16, .op (some 17) (some (16, true)) (.mv (.t 1)), .op (some 18) (some (16, true)) (.index (.t 17) (.k (AV.int .i64 0))), .op (some 19) (some (16, true)) (.bin .lss (.t 18) (.k (AV.int .u8 128))), .op (some 20) none (.pick (.t 16) (.t 19) (.k (AV.bool false)))]) (.cond (.t 20) (.seq (.region [.op (some 21) none (.mv (.t 0)), .op (some 22) none (.mv (.t 1)), .op (some 23) none (.index (.t 22) (.k (AV.int .i64 0))), .op (some 24) none (.call id_bytesTrimLeftByte [.t 21, .t 23] (.bytes)), .op (some 4) none (.mv (.t 24))]) (.ret [4] [])) (.skip))) (.stuck))))
def bytesTrimLeft : AFunc := ⟨2, 36, [.tmp 4], bytesTrimLeft_c1⟩
def bytesTrimLeftr (R : Nat → List AV → Option Res) (N : Nat) (s1 : List UInt8) (s2 : List UInt8) : Option Res :=
  bif (((s1.length : Nat) : Int) : Int) == 0 then
    (some ⟨AV.bytes [], false, []⟩)
  else
    bif s2 == ([] : List UInt8) then
      (some ⟨AV.bytes s1, false, []⟩)
    else
      bif (((s2.length : Nat) : Int) : Int) == 1 then
        (need (decide (0 ≤ (0 : Int))) <|
        (s2[Int.toNat 0]?).bind fun c1 =>
        bif decide (((c1.toNat : Int) : Int) < 128) then
          (need (decide (0 ≤ (0 : Int))) <|
          (s2[Int.toNat 0]?).bind fun c2 =>
          (R id_bytesTrimLeftByte [AV.bytes s1, AV.int .u8 (c2.toNat : Int)]).bind fun r1 =>
          asY r1.v fun s3 =>
          some ⟨AV.bytes s3, false, []⟩)
        else
          none)
      else
        none
theorem bytesTrimLeft_eq (R : Nat → List AV → Option Res) (N : Nat) (s1 : List UInt8) (s2 : List UInt8) : runF gl R N bytesTrimLeft [AV.bytes s1, AV.str s2] = bytesTrimLeftr R N s1 s2 := by
  kernel_rfl
theorem bytesTrimLeft_fit : fitF Tryd.prog bytesTrimLeft Tryd.f46 = true := by
  kernel_rfl

def propsTake_L1s (R : Nat → List AV → Option Res) (N : Nat) (go : List UInt8 → Int → Int → List UInt8 → List UInt8 → Option Res) (k0 : Int → Bool → List UInt8 → List UInt8 → Option Res) (k1 : Int → List UInt8 → List UInt8 → Option Res) (s2 : List UInt8) (i1 : Int) (i2 : Int) (s3 : List UInt8) (s4 : List UInt8) : Option Res :=
  bif decide ((i2 : Int) < ((s2.length : Nat) : Int)) then
    (need (decide (0 ≤ (i2 : Int))) <|
    (s2[Int.toNat i2]?).bind fun c1 =>
    bif ((c1.toNat : Int) : Int) == 38 then
      (need (decide (0 ≤ (i2 : Int)) && decide ((i2 : Int) ≤ ((s2.length : Nat) : Int))) <|
      (R id_bytesIndexByte [AV.bytes ((s2.take s2.length).drop (Int.toNat i2)), AV.int .u8 32]).bind fun r1 =>
      asI .i64 r1.v fun i3 =>
      bif decide ((i3 : Int) ≥ 0) then
        (need (decide (0 ≤ (i3 : Int)) && decide ((i3 : Int) ≤ ((((s2.take s2.length).drop (Int.toNat i2)).length : Nat) : Int))) <|
        (R id_propsPropsAdd [AV.ref (AV.agg [AV.str s3, AV.str s4]), AV.str ((((s2.take s2.length).drop (Int.toNat i2)).take (Int.toNat i3)).drop 0)]).bind fun r2 =>
        asC r2.outs fun o1 q1 =>
        asRf o1 fun c2 =>
        asSSA c2 fun s5 s6 =>
        asN q1 <|
        asB r2.v fun b1 =>
        bif !b1 then
          (k0 0 false [] [])
        else
          need (decide (0 ≤ (IntKind.i64.wrap (i2 + ((((((s2.take s2.length).drop (Int.toNat i2)).take (Int.toNat i3)).drop 0).length : Nat) : Int)) : Int)) && decide ((IntKind.i64.wrap (i2 + ((((((s2.take s2.length).drop (Int.toNat i2)).take (Int.toNat i3)).drop 0).length : Nat) : Int)) : Int) ≤ ((s2.length : Nat) : Int))) <|
          (R id_bytesTrimLeft [AV.bytes ((s2.take s2.length).drop (Int.toNat (IntKind.i64.wrap (i2 + ((((((s2.take s2.length).drop (Int.toNat i2)).take (Int.toNat i3)).drop 0).length : Nat) : Int))))), AV.str ([32] : List UInt8)]).bind fun r3 =>
          asY r3.v fun s7 =>
          go s2 (IntKind.i64.wrap (i2 + ((((((s2.take s2.length).drop (Int.toNat i2)).take (Int.toNat i3)).drop 0).length : Nat) : Int))) (IntKind.i64.wrap (((s2.length : Nat) : Int) - ((s7.length : Nat) : Int))) s5 s6)
      else
        (R id_propsPropsAdd [AV.ref (AV.agg [AV.str s3, AV.str s4]), AV.str ((s2.take s2.length).drop (Int.toNat i2))]).bind fun r4 =>
        asC r4.outs fun o2 q2 =>
        asRf o2 fun c3 =>
        asSSA c3 fun s8 s9 =>
        asN q2 <|
        asB r4.v fun b2 =>
        bif !b2 then
          (k0 0 false [] [])
        else
          need (decide (0 ≤ (IntKind.i64.wrap (i2 + ((((s2.take s2.length).drop (Int.toNat i2)).length : Nat) : Int)) : Int)) && decide ((IntKind.i64.wrap (i2 + ((((s2.take s2.length).drop (Int.toNat i2)).length : Nat) : Int)) : Int) ≤ ((s2.length : Nat) : Int))) <|
          (R id_bytesTrimLeft [AV.bytes ((s2.take s2.length).drop (Int.toNat (IntKind.i64.wrap (i2 + ((((s2.take s2.length).drop (Int.toNat i2)).length : Nat) : Int))))), AV.str ([32] : List UInt8)]).bind fun r5 =>
          asY r5.v fun s10 =>
          go s2 (IntKind.i64.wrap (i2 + ((((s2.take s2.length).drop (Int.toNat i2)).length : Nat) : Int))) (IntKind.i64.wrap (((s2.length : Nat) : Int) - ((s10.length : Nat) : Int))) s8 s9)
    else
      need (decide (0 ≤ (i2 : Int))) <|
      (s2[Int.toNat i2]?).bind fun c4 =>
      bif ((c4.toNat : Int) : Int) == 33 then
        (need (decide (0 ≤ (i2 : Int)) && decide ((i2 : Int) ≤ ((s2.length : Nat) : Int))) <|
        (R id_bytesIndexByte [AV.bytes ((s2.take s2.length).drop (Int.toNat i2)), AV.int .u8 32]).bind fun r6 =>
        asI .i64 r6.v fun i4 =>
        bif decide ((i4 : Int) ≥ 0) then
          (need (decide (0 ≤ (i4 : Int)) && decide ((i4 : Int) ≤ ((((s2.take s2.length).drop (Int.toNat i2)).length : Nat) : Int))) <|
          (R id_propsPropsAdd [AV.ref (AV.agg [AV.str s3, AV.str s4]), AV.str ((((s2.take s2.length).drop (Int.toNat i2)).take (Int.toNat i4)).drop 0)]).bind fun r7 =>
          asC r7.outs fun o3 q3 =>
          asRf o3 fun c5 =>
          asSSA c5 fun s11 s12 =>
          asN q3 <|
          asB r7.v fun b3 =>
          bif !b3 then
            (k0 0 false [] [])
          else
            need (decide (0 ≤ (IntKind.i64.wrap (i2 + ((((((s2.take s2.length).drop (Int.toNat i2)).take (Int.toNat i4)).drop 0).length : Nat) : Int)) : Int)) && decide ((IntKind.i64.wrap (i2 + ((((((s2.take s2.length).drop (Int.toNat i2)).take (Int.toNat i4)).drop 0).length : Nat) : Int)) : Int) ≤ ((s2.length : Nat) : Int))) <|
            (R id_bytesTrimLeft [AV.bytes ((s2.take s2.length).drop (Int.toNat (IntKind.i64.wrap (i2 + ((((((s2.take s2.length).drop (Int.toNat i2)).take (Int.toNat i4)).drop 0).length : Nat) : Int))))), AV.str ([32] : List UInt8)]).bind fun r8 =>
            asY r8.v fun s13 =>
            go s2 (IntKind.i64.wrap (i2 + ((((((s2.take s2.length).drop (Int.toNat i2)).take (Int.toNat i4)).drop 0).length : Nat) : Int))) (IntKind.i64.wrap (((s2.length : Nat) : Int) - ((s13.length : Nat) : Int))) s11 s12)
        else
          (R id_propsPropsAdd [AV.ref (AV.agg [AV.str s3, AV.str s4]), AV.str ((s2.take s2.length).drop (Int.toNat i2))]).bind fun r9 =>
          asC r9.outs fun o4 q4 =>
          asRf o4 fun c6 =>
          asSSA c6 fun s14 s15 =>
          asN q4 <|
          asB r9.v fun b4 =>
          bif !b4 then
            (k0 0 false [] [])
          else
            need (decide (0 ≤ (IntKind.i64.wrap (i2 + ((((s2.take s2.length).drop (Int.toNat i2)).length : Nat) : Int)) : Int)) && decide ((IntKind.i64.wrap (i2 + ((((s2.take s2.length).drop (Int.toNat i2)).length : Nat) : Int)) : Int) ≤ ((s2.length : Nat) : Int))) <|
            (R id_bytesTrimLeft [AV.bytes ((s2.take s2.length).drop (Int.toNat (IntKind.i64.wrap (i2 + ((((s2.take s2.length).drop (Int.toNat i2)).length : Nat) : Int))))), AV.str ([32] : List UInt8)]).bind fun r10 =>
            asY r10.v fun s16 =>
            go s2 (IntKind.i64.wrap (i2 + ((((s2.take s2.length).drop (Int.toNat i2)).length : Nat) : Int))) (IntKind.i64.wrap (((s2.length : Nat) : Int) - ((s16.length : Nat) : Int))) s14 s15)
      else
        k1 i1 s3 s4)
  else
    k1 i1 s3 s4
def propsTake_L1 (R : Nat → List AV → Option Res) (N : Nat) (k0 : Int → Bool → List UInt8 → List UInt8 → Option Res) (k1 : Int → List UInt8 → List UInt8 → Option Res) : Nat → List UInt8 → Int → Int → List UInt8 → List UInt8 → Option Res
  | 0, _, _, _, _, _ => none
  | n + 1, s2, i1, i2, s3, s4 => propsTake_L1s R N (propsTake_L1 R N k0 k1 n) k0 k1 s2 i1 i2 s3 s4
def propsTake_c0 : AC := .seq (.seq (.region [.op (some 8) none (.mv (.t 5)), .op (some 9) none (.mv (.t 0)), .op (some 10) none (.len (.t 9) false), .op (some 11) none (.bin .lss (.t 8) (.t 10)), .op (some 12) none (.mv (.t 11)), .split 12, .op (some 13) (some (12, true)) (.mv (.t 0)), .op (some 14) (some (12, true)) (.mv (.t 5)), .op (some 15) (some (12, true)) (.iaddr (.t 13) (.t 14) 1 (.int .u8)), .op (some 16) (some (12, true)) (.load (.t 15) none (.int .u8)), .op (some 17) (some (12, true)) (.bin .eql (.t 16) (.k (AV.int .u8 38))), .op (some 18) (some (12, true)) (.mv (.t 17)), .split 18, .op (some 19) (some (18, false)) (.mv (.t 0)), .op (some 20) (some (18, false)) (.mv (.t 5)), .op (some 21) (some (18, false)) (.iaddr (.t 19) (.t 20) 1 (.int .u8)), .op (some 22) (some (18, false)) (.load (.t 21) none (.int .u8)), .op (some 23) (some (18, false)) (.bin .eql (.t 22) (.k (AV.int .u8 33))), .op (some 24) (some (12, true)) (.pick (.t 18) (.k (AV.bool true)) (.t 23)), .op (some 25) none (.pick (.t 12) (.t 24) (.k (AV.bool false)))]) (.cond (.t 25) (.skip) (.exit 0 [2, 3] [1002]))) (.block 1 (.seq (.region [.op (some 26) none (.mv (.t 0)), .op (some 27) none (.mv (.t 5)), .op (some 28) none (.slice (.t 26) (some (.t 27)) none 1), .op (some 6) none (.mv (.t 28))]) (.seq (.seq (.region [.op (some 29) none (.mv (.t 6)), .op (some 30) none (.call id_bytesIndexByte [.t 29, .k (AV.int .u8 32)] (.int .i64)), .op (some 7) none (.mv (.t 30))]) (.seq (.region [.op (some 31) none (.mv (.t 7)), .op (some 32) none (.bin .geq (.t 31) (.k (AV.int .i64 0)))]) (.cond (.t 32) (.region [.op (some 33) none (.mv (.t 6)), .op (some 34) none (.mv (.t 7)), .op (some 35) none (.slice (.t 33) none (some (.t 34)) 1), .op (some 6) none (.mv (.t 35))]) (.skip)))) (.seq (.seq (.region [.op (some 36) none (.mv (.t 6)), .op (some 37) none (.cvStr (.t 36)), .op (some 38) none (.callM none id_propsPropsAdd [.t 2, .t 37] [true, false] [some (.agg [.str, .str])] (.bool)), .op (some 39) none (.un .not (.t 38))]) (.cond (.t 39) (.seq (.region [.op (some 40) none (.build [AV.str [], AV.str []] []), .op none none (.store (.t 2) (.t 40) 2), .op (some 3) none (.mv (.k (AV.int .i64 0))), .op (some 4) none (.mv (.k (AV.bool false)))]) (.ret [2, 3, 4] [1002])) (.skip))) (.seq (.region [.op (some 41) none (.mv (.t 5)), .op (some 42) none (.mv (.t 6)), .op (some 43) none (.len (.t 42) false), .op (some 44) none (.bin .add (.t 41) (.t 43)), .op (some 3) none (.mv (.t 44))]) (.region [.op (some 45) none (.mv (.t 0)), .op (some 46) none (.len (.t 45) false), .op (some 47) none (.mv (.t 0)), .op (some 48) none (.mv (.t 3)), .op (some 49) none (.slice (.t 47) (some (.t 48)) none 1), .op (some 50) none (.call id_bytesTrimLeft [.t 49, .k (AV.str ([32] : List UInt8))] (.bytes)), .op (some 51) none (.len (.t 50) false), .op (some 52) none (.bin .sub (.t 46) (.t 51)), .op (some 5) none (.mv (.t 52))]))))))
theorem propsTake_L1s_eq (R : Nat → List AV → Option Res) (N : Nat) (K : Ex → St → Option Res) (W : St → Option Res) (s2 : List UInt8) (i1 : Int) (i2 : Int) (s3 : List UInt8) (s4 : List UInt8) :
    evC gl R N propsTake_c0 (Kseq (fun st' => W (prune [0, 2, 3, 5] [1002] st')) K) ⟨[(0, .imm (AV.bytes s2)), (2, .ptr 1002 0 0), (3, .imm (AV.int .i64 i1)), (5, .imm (AV.int .i64 i2))], [(1002, .box [.imm (AV.str s3), .imm (AV.str s4)])]⟩ =
    propsTake_L1s R N (fun (s2 : List UInt8) (i1 : Int) (i2 : Int) (s3 : List UInt8) (s4 : List UInt8) => W ⟨[(0, .imm (AV.bytes s2)), (2, .ptr 1002 0 0), (3, .imm (AV.int .i64 i1)), (5, .imm (AV.int .i64 i2))], [(1002, .box [.imm (AV.str s3), .imm (AV.str s4)])]⟩) (fun (i5 : Int) (b5 : Bool) (s17 : List UInt8) (s18 : List UInt8) => K .ret ⟨[(2, .ptr 1002 0 0), (3, .imm (AV.int .i64 i5)), (4, .imm (AV.bool b5))], [(1002, .box [.imm (AV.str s17), .imm (AV.str s18)])]⟩) (fun (i6 : Int) (s19 : List UInt8) (s20 : List UInt8) => K (.exit 0) ⟨[(2, .ptr 1002 0 0), (3, .imm (AV.int .i64 i6))], [(1002, .box [.imm (AV.str s19), .imm (AV.str s20)])]⟩) s2 i1 i2 s3 s4 := by
  kernel_rfl
theorem propsTake_L1_eq (R : Nat → List AV → Option Res) (N : Nat) (K : Ex → St → Option Res) : ∀ (n : Nat) (s2 : List UInt8) (i1 : Int) (i2 : Int) (s3 : List UInt8) (s4 : List UInt8),
    rounds [0, 2, 3, 5] [1002] (evC gl R N propsTake_c0) K n ⟨[(0, .imm (AV.bytes s2)), (2, .ptr 1002 0 0), (3, .imm (AV.int .i64 i1)), (5, .imm (AV.int .i64 i2))], [(1002, .box [.imm (AV.str s3), .imm (AV.str s4)])]⟩ = propsTake_L1 R N (fun (i5 : Int) (b5 : Bool) (s17 : List UInt8) (s18 : List UInt8) => K .ret ⟨[(2, .ptr 1002 0 0), (3, .imm (AV.int .i64 i5)), (4, .imm (AV.bool b5))], [(1002, .box [.imm (AV.str s17), .imm (AV.str s18)])]⟩) (fun (i6 : Int) (s19 : List UInt8) (s20 : List UInt8) => K (.exit 0) ⟨[(2, .ptr 1002 0 0), (3, .imm (AV.int .i64 i6))], [(1002, .box [.imm (AV.str s19), .imm (AV.str s20)])]⟩) n s2 i1 i2 s3 s4
  | 0, _, _, _, _, _ => rfl
  | n + 1, s2, i1, i2, s3, s4 => (propsTake_L1s_eq R N K (rounds [0, 2, 3, 5] [1002] (evC gl R N propsTake_c0) K n) s2 i1 i2 s3 s4).trans
      (congrArg (fun go => propsTake_L1s R N go (fun (i5 : Int) (b5 : Bool) (s17 : List UInt8) (s18 : List UInt8) => K .ret ⟨[(2, .ptr 1002 0 0), (3, .imm (AV.int .i64 i5)), (4, .imm (AV.bool b5))], [(1002, .box [.imm (AV.str s17), .imm (AV.str s18)])]⟩) (fun (i6 : Int) (s19 : List UInt8) (s20 : List UInt8) => K (.exit 0) ⟨[(2, .ptr 1002 0 0), (3, .imm (AV.int .i64 i6))], [(1002, .box [.imm (AV.str s19), .imm (AV.str s20)])]⟩) s2 i1 i2 s3 s4) (funext fun s2 => funext fun i1 => funext fun i2 => funext fun s3 => funext fun s4 => propsTake_L1_eq R N K n s2 i1 i2 s3 s4))
def propsTake_c1 : AC := .seq (.region [.op (some 53) none (.load (.t 2) (some 2) (.agg [.str, .str])), .op (some 54) none (.mv (.t 3)), .op none none (.store (.t 2) (.t 53) 2), .op (some 3) none (.mv (.t 54)), .op (some 4) none (.mv (.k (AV.bool true)))]) (.ret [2, 3, 4] [1002])
def propsTake_c2 : AC := .seq (.region [.op (some 2) none (.alloc 1002 [AV.str [], AV.str []]), .op (some 3) none (.mv (.k (AV.int .i64 0))), .op (some 4) none (.mv (.k (AV.bool false)))]) (.seq (.seq (.region [.op (some 5) none (.mv (.k (AV.int .i64 0)))]) (.block 0 (.loop [0, 2, 3, 5] [1002] (propsTake_c0)))) (propsTake_c1))
def propsTake : AFunc := ⟨1, 55, [.cell 2 2, .tmp 3, .tmp 4], propsTake_c2⟩
def propsTaker (R : Nat → List AV → Option Res) (N : Nat) (s1 : List UInt8) : Option Res :=
  propsTake_L1 R N
    (fun i9 b7 s25 s26 =>
      some ⟨AV.tup [AV.agg [AV.str s25, AV.str s26], AV.int .i64 i9, AV.bool b7], false, []⟩)
    (fun i10 s27 s28 =>
      some ⟨AV.tup [AV.agg [AV.str s27, AV.str s28], AV.int .i64 i10, AV.bool true], false, []⟩)
    N s1 0 0 [] []
theorem propsTake_eq (R : Nat → List AV → Option Res) (N : Nat) (s1 : List UInt8) : runF gl R N propsTake [AV.bytes s1] = propsTaker R N s1 := by
  refine Eq.trans (b :=
      rounds [0, 2, 3, 5] [1002] (evC gl R N propsTake_c0) (Kblock 0 (Kthen gl R N propsTake_c1 (Kret propsTake.rets []))) N ⟨[(0, .imm (AV.bytes s1)), (2, .ptr 1002 0 0), (3, .imm (AV.int .i64 0)), (5, .imm (AV.int .i64 0))], [(1002, .box [.imm (AV.str []), .imm (AV.str [])])]⟩) (by kernel_rfl) ?_
  simp (config := { maxSteps := 100000000 }) only [propsTake_L1_eq]
  kernel_rfl
theorem propsTake_fit : fitF Tryd.prog propsTake Tryd.f15 = true := by
  kernel_rfl

def law10Wakes_c0 : AC := .seq (.region [.op (some 0) none (.mv (.k (AV.bool false)))]) (.seq (.region [.op (some 5) none (.bsliceOwn 5 [.k (AV.int .u8 38), .k (AV.int .u8 97), .k (AV.int .u8 32), .k (AV.int .u8 33), .k (AV.int .u8 33), .k (AV.int .u8 115), .k (AV.int .u8 116), .k (AV.int .u8 114), .k (AV.int .u8 32), .k (AV.int .u8 120)] 1 .any true), .op (some 6) none (.cvSame (.t 5)), .op (some 7) none (.call id_propsTake [.t 6] (.tup [.agg [.str, .str], .int .i64, .bool])), .op (some 4) none (.mv (.t 7)), .op (some 8) none (.extract (.t 4) 0), .op (some 9) none (.extract (.t 4) 1), .op (some 10) none (.extract (.t 4) 2), .op (some 1) none (.alloc 1001 [AV.str [], AV.str []]), .op none none (.store (.t 1) (.t 8) 2), .op (some 2) none (.mv (.t 9)), .op (some 3) none (.mv (.t 10))]) (.seq (.region [.op (some 11) none (.mv (.t 3)), .op (some 12) none (.mv (.t 11)), .split 12, .op (some 13) (some (12, true)) (.mv (.t 2)), .op (some 14) (some (12, true)) (.bin .eql (.t 13) (.k (AV.int .i64 8))), .op (some 15) none (.pick (.t 12) (.t 14) (.k (AV.bool false))), .op (some 16) none (.mv (.t 15)), .split 16, .op (some 17) (some (16, true)) (.faddr (.t 1) 0), .op (some 18) (some (16, true)) (.load (.t 17) none (.str)), .op (some 19) (some (16, true)) (.bin .eql (.t 18) (.k (AV.str ([33, 33, 115, 116, 114] : List UInt8)))), .op (some 20) none (.pick (.t 16) (.t 19) (.k (AV.bool false))), .op (some 21) none (.mv (.t 20)), .split 21, .op (some 22) (some (21, true)) (.faddr (.t 1) 1), .op (some 23) (some (21, true)) (.load (.t 22) none (.str)), .op (some 24) (some (21, true)) (.bin .eql (.t 23) (.k (AV.str ([97] : List UInt8)))), .op (some 25) none (.pick (.t 21) (.t 24) (.k (AV.bool false))), .op (some 0) none (.mv (.t 25))]) (.ret [0] [])))
def law10Wakes : AFunc := ⟨0, 26, [.tmp 0], law10Wakes_c0⟩
def law10Wakesr (R : Nat → List AV → Option Res) (N : Nat) : Option Res :=
  (R id_propsTake [AV.bytes ((([38, 97, 32, 33, 33, 115, 116, 114, 32, 120] : List UInt8).drop 0).take 10)]).bind fun r1 =>
  asAIBT r1.v fun s1 s2 i1 b1 =>
  bif b1 then
    (bif (i1 : Int) == 8 then
      (bif s1 == ([33, 33, 115, 116, 114] : List UInt8) then
        (some ⟨AV.bool (s2 == ([97] : List UInt8)), false, []⟩)
      else
        some ⟨AV.bool false, false, []⟩)
    else
      some ⟨AV.bool false, false, []⟩)
  else
    some ⟨AV.bool false, false, []⟩
theorem law10Wakes_eq (R : Nat → List AV → Option Res) (N : Nat) : runF gl R N law10Wakes [] = law10Wakesr R N := by
  kernel_rfl
theorem law10Wakes_fit : fitF Tryd.prog law10Wakes Tryd.f16 = true := by
  kernel_rfl

noncomputable def law10PropsForms_L1s (R : Nat → List AV → Option Res) (N : Nat) (go : List UInt8 → List AV → Int → Int → Option Res) (k0 : Bool → Option Res) (k1 : List UInt8 → Option Res) (s1 : List UInt8) (l1 : List AV) (i3 : Int) (i4 : Int) : Option Res :=
  bif decide ((i4 : Int) < i3) then
    (need (decide (0 ≤ (i4 : Int))) <|
    (l1[Int.toNat i4]?).bind fun e1 =>
    asS e1 fun s2 =>
    (R id_propsTake [AV.bytes s2]).bind fun r2 =>
    asAIBT r2.v fun s3 s4 i5 b1 =>
    bif b1 then
      (k0 false)
    else
      bif (i5 : Int) != 0 then
        (k0 false)
      else
        bif !((s3 == []) && ((s4 == []) && (true))) then
          (k0 false)
        else
          go s1 l1 i3 (IntKind.i64.wrap (i4 + 1)))
  else
    k1 s1
noncomputable def law10PropsForms_L1 (R : Nat → List AV → Option Res) (N : Nat) (k0 : Bool → Option Res) (k1 : List UInt8 → Option Res) : Nat → List UInt8 → List AV → Int → Int → Option Res
  | 0, _, _, _, _ => none
  | n + 1, s1, l1, i3, i4 => law10PropsForms_L1s R N (law10PropsForms_L1 R N k0 k1 n) k0 k1 s1 l1 i3 i4
def law10PropsForms_c0 : AC := .seq (.region [.op (some 41) none (.bin .lss (.t 40) (.t 39))]) (.seq (.cond (.t 41) (.skip) (.exit 0 [3] [])) (.seq (.block 1 (.seq (.region [.op (some 42) none (.iaddr (.t 38) (.t 40) 1 (.str)), .op (some 43) none (.load (.t 42) none (.str)), .op (some 5) none (.mv (.t 43))]) (.seq (.region [.op (some 45) none (.mv (.t 5)), .op (some 46) none (.cvBytes (.t 45)), .op (some 47) none (.call id_propsTake [.t 46] (.tup [.agg [.str, .str], .int .i64, .bool])), .op (some 44) none (.mv (.t 47)), .op (some 48) none (.extract (.t 44) 0), .op (some 49) none (.extract (.t 44) 1), .op (some 50) none (.extract (.t 44) 2), .op (some 6) none (.alloc 1006 [AV.str [], AV.str []]), .op none none (.store (.t 6) (.t 48) 2), .op (some 7) none (.mv (.t 49)), .op (some 8) none (.mv (.t 50))]) (.seq (.region [.op (some 51) none (.mv (.t 8)), .op (some 52) none (.mv (.t 51)), .split 52, .op (some 53) (some (52, false)) (.mv (.t 7)), .op (some 54) (some (52, false)) (.bin .neq (.t 53) (.k (AV.int .i64 0))), .op (some 55) none (.pick (.t 52) (.k (AV.bool true)) (.t 54)), .op (some 56) none (.mv (.t 55)), .split 56, .op (some 57) (some (56, false)) (.load (.t 6) (some 2) (.agg [.str, .str])), .op (some 58) (some (56, false)) (.build [AV.str [], AV.str []] []), .op (some 59) (some (56, false)) (.binA true (.t 57) (.t 58) [2, 2]), .op (some 60) none (.pick (.t 56) (.k (AV.bool true)) (.t 59))]) (.cond (.t 60) (.seq (.region [.op (some 2) none (.mv (.k (AV.bool false)))]) (.ret [2] [])) (.skip)))))) (.region [.op (some 61) none (.bin .add (.t 40) (.k (AV.int .i64 1))), .op (some 40) none (.mv (.t 61))])))
theorem law10PropsForms_L1s_eq (R : Nat → List AV → Option Res) (N : Nat) (K : Ex → St → Option Res) (W : St → Option Res) (s1 : List UInt8) (l1 : List AV) (i3 : Int) (i4 : Int) :
    evC gl R N law10PropsForms_c0 (Kseq (fun st' => W (prune [3, 38, 39, 40] [] st')) K) ⟨[(3, .imm (AV.str s1)), (38, .imm (AV.row 1 l1)), (39, .imm (AV.int .i64 i3)), (40, .imm (AV.int .i64 i4))], []⟩ =
    law10PropsForms_L1s R N (fun (s1 : List UInt8) (l1 : List AV) (i3 : Int) (i4 : Int) => W ⟨[(3, .imm (AV.str s1)), (38, .imm (AV.row 1 l1)), (39, .imm (AV.int .i64 i3)), (40, .imm (AV.int .i64 i4))], []⟩) (fun (b2 : Bool) => K .ret ⟨[(2, .imm (AV.bool b2))], []⟩) (fun (s5 : List UInt8) => K (.exit 0) ⟨[(3, .imm (AV.str s5))], []⟩) s1 l1 i3 i4 := by
  kernel_rfl
theorem law10PropsForms_L1_eq (R : Nat → List AV → Option Res) (N : Nat) (K : Ex → St → Option Res) : ∀ (n : Nat) (s1 : List UInt8) (l1 : List AV) (i3 : Int) (i4 : Int),
    rounds [3, 38, 39, 40] [] (evC gl R N law10PropsForms_c0) K n ⟨[(3, .imm (AV.str s1)), (38, .imm (AV.row 1 l1)), (39, .imm (AV.int .i64 i3)), (40, .imm (AV.int .i64 i4))], []⟩ = law10PropsForms_L1 R N (fun (b2 : Bool) => K .ret ⟨[(2, .imm (AV.bool b2))], []⟩) (fun (s5 : List UInt8) => K (.exit 0) ⟨[(3, .imm (AV.str s5))], []⟩) n s1 l1 i3 i4
  | 0, _, _, _, _ => rfl
  | n + 1, s1, l1, i3, i4 => (law10PropsForms_L1s_eq R N K (rounds [3, 38, 39, 40] [] (evC gl R N law10PropsForms_c0) K n) s1 l1 i3 i4).trans
      (congrArg (fun go => law10PropsForms_L1s R N go (fun (b2 : Bool) => K .ret ⟨[(2, .imm (AV.bool b2))], []⟩) (fun (s5 : List UInt8) => K (.exit 0) ⟨[(3, .imm (AV.str s5))], []⟩) s1 l1 i3 i4) (funext fun s1 => funext fun l1 => funext fun i3 => funext fun i4 => law10PropsForms_L1_eq R N K n s1 l1 i3 i4))
noncomputable def law10PropsForms_L2s (R : Nat → List AV → Option Res) (N : Nat) (go : List (AV × AV) → Option (AV × AV) → Option Res) (k0 : Option Res) (k1 : Bool → Option Res) (m1 : List (AV × AV)) (o1 : Option (AV × AV)) : Option Res :=
  bif Nat.beq m1.length 0 then
    (k0)
  else
    anyN m1.length fun j1 => (m1[j1]?).bind fun p1 =>
    asS p1.1 fun s8 =>
    asI .i64 p1.2 fun i6 =>
    (R id_propsTake [AV.bytes s8]).bind fun r3 =>
    asAIBT r3.v fun s9 s10 i7 b5 =>
    bif !b5 then
      (k1 false)
    else
      bif (i7 : Int) != i6 then
        (k1 false)
      else
        go (m1.eraseIdx j1) (some (AV.str s8, AV.int .i64 i6))
noncomputable def law10PropsForms_L2 (R : Nat → List AV → Option Res) (N : Nat) (k0 : Option Res) (k1 : Bool → Option Res) : Nat → List (AV × AV) → Option (AV × AV) → Option Res
  | 0, _, _ => none
  | n + 1, m1, o1 => law10PropsForms_L2s R N (law10PropsForms_L2 R N k0 k1 n) k0 k1 m1 o1
def law10PropsForms_c1 : AC := .seq (.regionM (.t 84) 85 (.str) (.int .i64) [.op (some 86) none (.extract (.t 85) 0)]) (.seq (.cond (.t 86) (.skip) (.exit 2 [] [])) (.block 3 (.seq (.region [.op (some 87) none (.entM (.t 84) (.str) (.int .i64)), .op (some 88) none (.extract (.t 87) 0), .op (some 89) none (.extract (.t 87) 1), .op (some 9) none (.mv (.t 88)), .op (some 10) none (.mv (.t 89))]) (.seq (.region [.op (some 91) none (.mv (.t 9)), .op (some 92) none (.cvBytes (.t 91)), .op (some 93) none (.call id_propsTake [.t 92] (.tup [.agg [.str, .str], .int .i64, .bool])), .op (some 90) none (.mv (.t 93)), .op (some 94) none (.extract (.t 90) 0), .op (some 95) none (.extract (.t 90) 1), .op (some 96) none (.extract (.t 90) 2), .op (some 11) none (.alloc 1011 [AV.str [], AV.str []]), .op none none (.store (.t 11) (.t 94) 2), .op (some 12) none (.mv (.t 95)), .op (some 13) none (.mv (.t 96))]) (.seq (.region [.op (some 97) none (.mv (.t 13)), .op (some 98) none (.un .not (.t 97)), .op (some 99) none (.mv (.t 98)), .split 99, .op (some 100) (some (99, false)) (.mv (.t 12)), .op (some 101) (some (99, false)) (.mv (.t 10)), .op (some 102) (some (99, false)) (.bin .neq (.t 100) (.t 101)), .op (some 103) none (.pick (.t 99) (.k (AV.bool true)) (.t 102))]) (.cond (.t 103) (.seq (.region [.op (some 2) none (.mv (.k (AV.bool false)))]) (.ret [2] [])) (.skip)))))))
theorem law10PropsForms_L2s_eq (R : Nat → List AV → Option Res) (N : Nat) (K : Ex → St → Option Res) (W : St → Option Res) (m1 : List (AV × AV)) (o1 : Option (AV × AV)) :
    evC gl R N law10PropsForms_c1 (Kseq (fun st' => W (prune [84] [1084] st')) K) ⟨[(84, .ptr 1084 0 0)], [(1084, .miter m1 o1)]⟩ =
    law10PropsForms_L2s R N (fun (m1 : List (AV × AV)) (o1 : Option (AV × AV)) => W ⟨[(84, .ptr 1084 0 0)], [(1084, .miter m1 o1)]⟩) (K (.exit 2) ⟨[], []⟩) (fun (b6 : Bool) => K .ret ⟨[(2, .imm (AV.bool b6))], []⟩) m1 o1 := by
  kernel_rfl
theorem law10PropsForms_L2_eq (R : Nat → List AV → Option Res) (N : Nat) (K : Ex → St → Option Res) : ∀ (n : Nat) (m1 : List (AV × AV)) (o1 : Option (AV × AV)),
    rounds [84] [1084] (evC gl R N law10PropsForms_c1) K n ⟨[(84, .ptr 1084 0 0)], [(1084, .miter m1 o1)]⟩ = law10PropsForms_L2 R N (K (.exit 2) ⟨[], []⟩) (fun (b6 : Bool) => K .ret ⟨[(2, .imm (AV.bool b6))], []⟩) n m1 o1
  | 0, _, _ => rfl
  | n + 1, m1, o1 => (law10PropsForms_L2s_eq R N K (rounds [84] [1084] (evC gl R N law10PropsForms_c1) K n) m1 o1).trans
      (congrArg (fun go => law10PropsForms_L2s R N go (K (.exit 2) ⟨[], []⟩) (fun (b6 : Bool) => K .ret ⟨[(2, .imm (AV.bool b6))], []⟩) m1 o1) (funext fun m1 => funext fun o1 => law10PropsForms_L2_eq R N K n m1 o1))
def law10PropsForms_c2 : AC := .seq (.region [.op (some 104) none (.call id_law10Wakes [] (.bool)), .op (some 2) none (.mv (.t 104))]) (.ret [2] [])
def law10PropsForms_c3 : AC := .seq (.seq (.regionL [84] [1084] 2062 [.op (some 62) none (.mkMap 2062), .op none none (.insM none (.t 62) (.k (AV.str ([] : List UInt8))) (.k (AV.int .i64 0))), .op (some 63) none (.mv (.t 3)), .op none none (.insM none (.t 62) (.t 63) (.k (AV.int .i64 0))), .op (some 64) none (.mv (.t 3)), .op (some 65) none (.bin .add (.k (AV.str ([32, 38] : List UInt8))) (.t 64)), .op none none (.insM none (.t 62) (.t 65) (.k (AV.int .i64 0))), .op (some 66) none (.mv (.t 3)), .op (some 67) none (.bin .add (.k (AV.str ([38] : List UInt8))) (.t 66)), .op none none (.insM none (.t 62) (.t 67) (.k (AV.int .i64 2))), .op none none (.insM none (.t 62) (.k (AV.str ([33] : List UInt8))) (.k (AV.int .i64 1))), .op (some 68) none (.mv (.t 3)), .op (some 69) none (.bin .add (.k (AV.str ([33, 32] : List UInt8))) (.t 68)), .op none none (.insM none (.t 62) (.t 69) (.k (AV.int .i64 1))), .op (some 70) none (.mv (.t 3)), .op (some 71) none (.bin .add (.k (AV.str ([33, 33] : List UInt8))) (.t 70)), .op (some 72) none (.bin .add (.t 71) (.k (AV.str ([32, 38] : List UInt8)))), .op (some 73) none (.mv (.t 3)), .op (some 74) none (.bin .add (.t 72) (.t 73)), .op (some 75) none (.bin .add (.t 74) (.k (AV.str ([32, 32] : List UInt8)))), .op (some 76) none (.mv (.t 3)), .op (some 77) none (.bin .add (.t 75) (.t 76)), .op none none (.insM none (.t 62) (.t 77) (.k (AV.int .i64 6))), .op (some 78) none (.mv (.t 3)), .op (some 79) none (.bin .add (.k (AV.str ([38] : List UInt8))) (.t 78)), .op (some 80) none (.bin .add (.t 79) (.k (AV.str ([32, 32, 32] : List UInt8)))), .op none none (.insM none (.t 62) (.t 80) (.k (AV.int .i64 2))), .op (some 81) none (.mv (.t 3)), .op (some 82) none (.bin .add (.k (AV.str ([42] : List UInt8))) (.t 81)), .op none none (.insM none (.t 62) (.t 82) (.k (AV.int .i64 0)))] [.op (some 83) none (.mv (.t 62)), .op (some 84) none (.rangeM 1084 (.t 83))]) (.block 2 (.loop [84] [1084] (law10PropsForms_c1)))) (law10PropsForms_c2)
def law10PropsForms_c4 : AC := .seq (.region [.op (some 2) none (.mv (.k (AV.bool false)))]) (.seq (.region [.op (some 14) none (.mv (.t 0)), .op (some 15) none (.call id_keepWithin [.t 14, .k (AV.int .i64 8)] (.int .i64)), .op (some 16) none (.sliceS (.k (AV.str ([97, 98, 99, 100, 101, 102, 103, 104] : List UInt8))) (some (.t 15)) none), .op (some 17) none (.sliceS (.t 16) none (some (.k (AV.int .i64 1)))), .op (some 3) none (.mv (.t 17))]) (.seq (.seq (.region [.op (some 18) none (.mv (.t 3)), .op (some 19) none (.bin .add (.k (AV.str ([38, 32] : List UInt8))) (.t 18)), .op (some 20) none (.mv (.t 3)), .op (some 21) none (.bin .add (.k (AV.str ([38] : List UInt8))) (.t 20)), .op (some 22) none (.bin .add (.t 21) (.k (AV.str ([33] : List UInt8)))), .op (some 23) none (.mv (.t 3)), .op (some 24) none (.bin .add (.k (AV.str ([38] : List UInt8))) (.t 23)), .op (some 25) none (.bin .add (.t 24) (.k (AV.str ([38, 98] : List UInt8)))), .op (some 26) none (.mv (.t 3)), .op (some 27) none (.bin .add (.k (AV.str ([38] : List UInt8))) (.t 26)), .op (some 28) none (.bin .add (.t 27) (.k (AV.str ([32, 38, 98] : List UInt8)))), .op (some 29) none (.mv (.t 3)), .op (some 30) none (.bin .add (.k (AV.str ([33] : List UInt8))) (.t 29)), .op (some 31) none (.bin .add (.t 30) (.k (AV.str ([33] : List UInt8)))), .op (some 32) none (.mv (.t 3)), .op (some 33) none (.bin .add (.k (AV.str ([33, 60] : List UInt8))) (.t 32)), .op (some 34) none (.bin .add (.t 33) (.k (AV.str ([62] : List UInt8)))), .op (some 35) none (.mv (.t 3)), .op (some 36) none (.bin .add (.k (AV.str ([38] : List UInt8))) (.t 35)), .op (some 37) none (.bin .add (.t 36) (.k (AV.str ([44] : List UInt8)))), .op (some 38) none (.bslice [.k (AV.str ([38] : List UInt8)), .t 19, .t 22, .t 25, .t 28, .k (AV.str ([33, 120, 32, 33, 121] : List UInt8)), .k (AV.str ([33, 33] : List UInt8)), .k (AV.str ([33, 33, 32, 120] : List UInt8)), .t 31, .k (AV.str ([33, 120, 33, 121] : List UInt8)), .t 34, .t 37, .k (AV.str ([33, 120, 93] : List UInt8)), .k (AV.str ([38, 195, 169] : List UInt8))] 1 false), .op (some 39) none (.len (.t 38) false), .op (some 40) none (.mv (.k (AV.int .i64 0)))]) (.block 0 (.loop [3, 38, 39, 40] [] (law10PropsForms_c0)))) (law10PropsForms_c3)))
def law10PropsForms : AFunc := ⟨1, 105, [.tmp 2], law10PropsForms_c4⟩
noncomputable def law10PropsFormsr (R : Nat → List AV → Option Res) (N : Nat) (i1 : Int) : Option Res :=
  (R id_keepWithin [AV.int .i64 i1, AV.int .i64 8]).bind fun r1 =>
  asI .i64 r1.v fun i2 =>
  need (decide (0 ≤ (i2 : Int)) && decide ((i2 : Int) ≤ (((([97, 98, 99, 100, 101, 102, 103, 104] : List UInt8) : List UInt8).length : Nat) : Int))) <|
  need (decide (0 ≤ (1 : Int)) && decide ((1 : Int) ≤ ((((([97, 98, 99, 100, 101, 102, 103, 104] : List UInt8).take ((([97, 98, 99, 100, 101, 102, 103, 104] : List UInt8) : List UInt8).length)).drop (Int.toNat i2) : List UInt8).length : Nat) : Int))) <|
  need (decide ((([38, 32] : List UInt8) : List UInt8).length + ((((([97, 98, 99, 100, 101, 102, 103, 104] : List UInt8).take ((([97, 98, 99, 100, 101, 102, 103, 104] : List UInt8) : List UInt8).length)).drop (Int.toNat i2)).take (Int.toNat 1)).drop 0 : List UInt8).length ≤ 9223372036854775807)) <|
  need (decide ((([38] : List UInt8) : List UInt8).length + ((((([97, 98, 99, 100, 101, 102, 103, 104] : List UInt8).take ((([97, 98, 99, 100, 101, 102, 103, 104] : List UInt8) : List UInt8).length)).drop (Int.toNat i2)).take (Int.toNat 1)).drop 0 : List UInt8).length ≤ 9223372036854775807)) <|
  need (decide ((([38] : List UInt8) ++ ((((([97, 98, 99, 100, 101, 102, 103, 104] : List UInt8).take ((([97, 98, 99, 100, 101, 102, 103, 104] : List UInt8) : List UInt8).length)).drop (Int.toNat i2)).take (Int.toNat 1)).drop 0) : List UInt8).length + (([33] : List UInt8) : List UInt8).length ≤ 9223372036854775807)) <|
  need (decide ((([38] : List UInt8) : List UInt8).length + ((((([97, 98, 99, 100, 101, 102, 103, 104] : List UInt8).take ((([97, 98, 99, 100, 101, 102, 103, 104] : List UInt8) : List UInt8).length)).drop (Int.toNat i2)).take (Int.toNat 1)).drop 0 : List UInt8).length ≤ 9223372036854775807)) <|
  need (decide ((([38] : List UInt8) ++ ((((([97, 98, 99, 100, 101, 102, 103, 104] : List UInt8).take ((([97, 98, 99, 100, 101, 102, 103, 104] : List UInt8) : List UInt8).length)).drop (Int.toNat i2)).take (Int.toNat 1)).drop 0) : List UInt8).length + (([38, 98] : List UInt8) : List UInt8).length ≤ 9223372036854775807)) <|
  need (decide ((([38] : List UInt8) : List UInt8).length + ((((([97, 98, 99, 100, 101, 102, 103, 104] : List UInt8).take ((([97, 98, 99, 100, 101, 102, 103, 104] : List UInt8) : List UInt8).length)).drop (Int.toNat i2)).take (Int.toNat 1)).drop 0 : List UInt8).length ≤ 9223372036854775807)) <|
  need (decide ((([38] : List UInt8) ++ ((((([97, 98, 99, 100, 101, 102, 103, 104] : List UInt8).take ((([97, 98, 99, 100, 101, 102, 103, 104] : List UInt8) : List UInt8).length)).drop (Int.toNat i2)).take (Int.toNat 1)).drop 0) : List UInt8).length + (([32, 38, 98] : List UInt8) : List UInt8).length ≤ 9223372036854775807)) <|
  need (decide ((([33] : List UInt8) : List UInt8).length + ((((([97, 98, 99, 100, 101, 102, 103, 104] : List UInt8).take ((([97, 98, 99, 100, 101, 102, 103, 104] : List UInt8) : List UInt8).length)).drop (Int.toNat i2)).take (Int.toNat 1)).drop 0 : List UInt8).length ≤ 9223372036854775807)) <|
  need (decide ((([33] : List UInt8) ++ ((((([97, 98, 99, 100, 101, 102, 103, 104] : List UInt8).take ((([97, 98, 99, 100, 101, 102, 103, 104] : List UInt8) : List UInt8).length)).drop (Int.toNat i2)).take (Int.toNat 1)).drop 0) : List UInt8).length + (([33] : List UInt8) : List UInt8).length ≤ 9223372036854775807)) <|
  need (decide ((([33, 60] : List UInt8) : List UInt8).length + ((((([97, 98, 99, 100, 101, 102, 103, 104] : List UInt8).take ((([97, 98, 99, 100, 101, 102, 103, 104] : List UInt8) : List UInt8).length)).drop (Int.toNat i2)).take (Int.toNat 1)).drop 0 : List UInt8).length ≤ 9223372036854775807)) <|
  need (decide ((([33, 60] : List UInt8) ++ ((((([97, 98, 99, 100, 101, 102, 103, 104] : List UInt8).take ((([97, 98, 99, 100, 101, 102, 103, 104] : List UInt8) : List UInt8).length)).drop (Int.toNat i2)).take (Int.toNat 1)).drop 0) : List UInt8).length + (([62] : List UInt8) : List UInt8).length ≤ 9223372036854775807)) <|
  need (decide ((([38] : List UInt8) : List UInt8).length + ((((([97, 98, 99, 100, 101, 102, 103, 104] : List UInt8).take ((([97, 98, 99, 100, 101, 102, 103, 104] : List UInt8) : List UInt8).length)).drop (Int.toNat i2)).take (Int.toNat 1)).drop 0 : List UInt8).length ≤ 9223372036854775807)) <|
  need (decide ((([38] : List UInt8) ++ ((((([97, 98, 99, 100, 101, 102, 103, 104] : List UInt8).take ((([97, 98, 99, 100, 101, 102, 103, 104] : List UInt8) : List UInt8).length)).drop (Int.toNat i2)).take (Int.toNat 1)).drop 0) : List UInt8).length + (([44] : List UInt8) : List UInt8).length ≤ 9223372036854775807)) <|
  law10PropsForms_L1 R N
    (fun b4 =>
      some ⟨AV.bool b4, false, []⟩)
    (fun s7 =>
      need (decide ((([32, 38] : List UInt8) : List UInt8).length + s7.length ≤ 9223372036854775807)) <|
      need (decide ((([38] : List UInt8) : List UInt8).length + s7.length ≤ 9223372036854775807)) <|
      need (decide ((([33, 32] : List UInt8) : List UInt8).length + s7.length ≤ 9223372036854775807)) <|
      need (decide ((([33, 33] : List UInt8) : List UInt8).length + s7.length ≤ 9223372036854775807)) <|
      need (decide ((([33, 33] : List UInt8) ++ s7 : List UInt8).length + (([32, 38] : List UInt8) : List UInt8).length ≤ 9223372036854775807)) <|
      need (decide (((([33, 33] : List UInt8) ++ s7) ++ ([32, 38] : List UInt8) : List UInt8).length + s7.length ≤ 9223372036854775807)) <|
      need (decide ((((([33, 33] : List UInt8) ++ s7) ++ ([32, 38] : List UInt8)) ++ s7 : List UInt8).length + (([32, 32] : List UInt8) : List UInt8).length ≤ 9223372036854775807)) <|
      need (decide (((((([33, 33] : List UInt8) ++ s7) ++ ([32, 38] : List UInt8)) ++ s7) ++ ([32, 32] : List UInt8) : List UInt8).length + s7.length ≤ 9223372036854775807)) <|
      need (decide ((([38] : List UInt8) : List UInt8).length + s7.length ≤ 9223372036854775807)) <|
      need (decide ((([38] : List UInt8) ++ s7 : List UInt8).length + (([32, 32, 32] : List UInt8) : List UInt8).length ≤ 9223372036854775807)) <|
      need (decide ((([42] : List UInt8) : List UInt8).length + s7.length ≤ 9223372036854775807)) <|
      need (apartB (((((((((([] : List (AV × AV)) ++ [(AV.str ([] : List UInt8), AV.int .i64 0)]) ++ [(AV.str s7, AV.int .i64 0)]) ++ [(AV.str (([32, 38] : List UInt8) ++ s7), AV.int .i64 0)]) ++ [(AV.str (([38] : List UInt8) ++ s7), AV.int .i64 2)]) ++ [(AV.str ([33] : List UInt8), AV.int .i64 1)]) ++ [(AV.str (([33, 32] : List UInt8) ++ s7), AV.int .i64 1)]) ++ [(AV.str (((((([33, 33] : List UInt8) ++ s7) ++ ([32, 38] : List UInt8)) ++ s7) ++ ([32, 32] : List UInt8)) ++ s7), AV.int .i64 6)]) ++ [(AV.str ((([38] : List UInt8) ++ s7) ++ ([32, 32, 32] : List UInt8)), AV.int .i64 2)]) ++ [(AV.str (([42] : List UInt8) ++ s7), AV.int .i64 0)])) <|
      law10PropsForms_L2 R N
        (
          (R id_law10Wakes []).bind fun r4 =>
          asB r4.v fun b8 =>
          some ⟨AV.bool b8, false, []⟩)
        (fun b9 =>
          some ⟨AV.bool b9, false, []⟩)
        N (((((((((([] : List (AV × AV)) ++ [(AV.str ([] : List UInt8), AV.int .i64 0)]) ++ [(AV.str s7, AV.int .i64 0)]) ++ [(AV.str (([32, 38] : List UInt8) ++ s7), AV.int .i64 0)]) ++ [(AV.str (([38] : List UInt8) ++ s7), AV.int .i64 2)]) ++ [(AV.str ([33] : List UInt8), AV.int .i64 1)]) ++ [(AV.str (([33, 32] : List UInt8) ++ s7), AV.int .i64 1)]) ++ [(AV.str (((((([33, 33] : List UInt8) ++ s7) ++ ([32, 38] : List UInt8)) ++ s7) ++ ([32, 32] : List UInt8)) ++ s7), AV.int .i64 6)]) ++ [(AV.str ((([38] : List UInt8) ++ s7) ++ ([32, 32, 32] : List UInt8)), AV.int .i64 2)]) ++ [(AV.str (([42] : List UInt8) ++ s7), AV.int .i64 0)]) (none : Option (AV × AV)))
    N ((((([97, 98, 99, 100, 101, 102, 103, 104] : List UInt8).take ((([97, 98, 99, 100, 101, 102, 103, 104] : List UInt8) : List UInt8).length)).drop (Int.toNat i2)).take (Int.toNat 1)).drop 0) [AV.str ([38] : List UInt8), AV.str (([38, 32] : List UInt8) ++ ((((([97, 98, 99, 100, 101, 102, 103, 104] : List UInt8).take ((([97, 98, 99, 100, 101, 102, 103, 104] : List UInt8) : List UInt8).length)).drop (Int.toNat i2)).take (Int.toNat 1)).drop 0)), AV.str ((([38] : List UInt8) ++ ((((([97, 98, 99, 100, 101, 102, 103, 104] : List UInt8).take ((([97, 98, 99, 100, 101, 102, 103, 104] : List UInt8) : List UInt8).length)).drop (Int.toNat i2)).take (Int.toNat 1)).drop 0)) ++ ([33] : List UInt8)), AV.str ((([38] : List UInt8) ++ ((((([97, 98, 99, 100, 101, 102, 103, 104] : List UInt8).take ((([97, 98, 99, 100, 101, 102, 103, 104] : List UInt8) : List UInt8).length)).drop (Int.toNat i2)).take (Int.toNat 1)).drop 0)) ++ ([38, 98] : List UInt8)), AV.str ((([38] : List UInt8) ++ ((((([97, 98, 99, 100, 101, 102, 103, 104] : List UInt8).take ((([97, 98, 99, 100, 101, 102, 103, 104] : List UInt8) : List UInt8).length)).drop (Int.toNat i2)).take (Int.toNat 1)).drop 0)) ++ ([32, 38, 98] : List UInt8)), AV.str ([33, 120, 32, 33, 121] : List UInt8), AV.str ([33, 33] : List UInt8), AV.str ([33, 33, 32, 120] : List UInt8), AV.str ((([33] : List UInt8) ++ ((((([97, 98, 99, 100, 101, 102, 103, 104] : List UInt8).take ((([97, 98, 99, 100, 101, 102, 103, 104] : List UInt8) : List UInt8).length)).drop (Int.toNat i2)).take (Int.toNat 1)).drop 0)) ++ ([33] : List UInt8)), AV.str ([33, 120, 33, 121] : List UInt8), AV.str ((([33, 60] : List UInt8) ++ ((((([97, 98, 99, 100, 101, 102, 103, 104] : List UInt8).take ((([97, 98, 99, 100, 101, 102, 103, 104] : List UInt8) : List UInt8).length)).drop (Int.toNat i2)).take (Int.toNat 1)).drop 0)) ++ ([62] : List UInt8)), AV.str ((([38] : List UInt8) ++ ((((([97, 98, 99, 100, 101, 102, 103, 104] : List UInt8).take ((([97, 98, 99, 100, 101, 102, 103, 104] : List UInt8) : List UInt8).length)).drop (Int.toNat i2)).take (Int.toNat 1)).drop 0)) ++ ([44] : List UInt8)), AV.str ([33, 120, 93] : List UInt8), AV.str ([38, 195, 169] : List UInt8)] (([AV.str ([38] : List UInt8), AV.str (([38, 32] : List UInt8) ++ ((((([97, 98, 99, 100, 101, 102, 103, 104] : List UInt8).take ((([97, 98, 99, 100, 101, 102, 103, 104] : List UInt8) : List UInt8).length)).drop (Int.toNat i2)).take (Int.toNat 1)).drop 0)), AV.str ((([38] : List UInt8) ++ ((((([97, 98, 99, 100, 101, 102, 103, 104] : List UInt8).take ((([97, 98, 99, 100, 101, 102, 103, 104] : List UInt8) : List UInt8).length)).drop (Int.toNat i2)).take (Int.toNat 1)).drop 0)) ++ ([33] : List UInt8)), AV.str ((([38] : List UInt8) ++ ((((([97, 98, 99, 100, 101, 102, 103, 104] : List UInt8).take ((([97, 98, 99, 100, 101, 102, 103, 104] : List UInt8) : List UInt8).length)).drop (Int.toNat i2)).take (Int.toNat 1)).drop 0)) ++ ([38, 98] : List UInt8)), AV.str ((([38] : List UInt8) ++ ((((([97, 98, 99, 100, 101, 102, 103, 104] : List UInt8).take ((([97, 98, 99, 100, 101, 102, 103, 104] : List UInt8) : List UInt8).length)).drop (Int.toNat i2)).take (Int.toNat 1)).drop 0)) ++ ([32, 38, 98] : List UInt8)), AV.str ([33, 120, 32, 33, 121] : List UInt8), AV.str ([33, 33] : List UInt8), AV.str ([33, 33, 32, 120] : List UInt8), AV.str ((([33] : List UInt8) ++ ((((([97, 98, 99, 100, 101, 102, 103, 104] : List UInt8).take ((([97, 98, 99, 100, 101, 102, 103, 104] : List UInt8) : List UInt8).length)).drop (Int.toNat i2)).take (Int.toNat 1)).drop 0)) ++ ([33] : List UInt8)), AV.str ([33, 120, 33, 121] : List UInt8), AV.str ((([33, 60] : List UInt8) ++ ((((([97, 98, 99, 100, 101, 102, 103, 104] : List UInt8).take ((([97, 98, 99, 100, 101, 102, 103, 104] : List UInt8) : List UInt8).length)).drop (Int.toNat i2)).take (Int.toNat 1)).drop 0)) ++ ([62] : List UInt8)), AV.str ((([38] : List UInt8) ++ ((((([97, 98, 99, 100, 101, 102, 103, 104] : List UInt8).take ((([97, 98, 99, 100, 101, 102, 103, 104] : List UInt8) : List UInt8).length)).drop (Int.toNat i2)).take (Int.toNat 1)).drop 0)) ++ ([44] : List UInt8)), AV.str ([33, 120, 93] : List UInt8), AV.str ([38, 195, 169] : List UInt8)].length : Nat) : Int) 0
theorem law10PropsForms_eq (R : Nat → List AV → Option Res) (N : Nat) (i1 : Int) : runF gl R N law10PropsForms [AV.int .i64 i1] = law10PropsFormsr R N i1 := by
  refine Eq.trans (b :=
      (R id_keepWithin [AV.int .i64 i1, AV.int .i64 8]).bind fun r1 =>
      asI .i64 r1.v fun i2 =>
      need (decide (0 ≤ (i2 : Int)) && decide ((i2 : Int) ≤ (((([97, 98, 99, 100, 101, 102, 103, 104] : List UInt8) : List UInt8).length : Nat) : Int))) <|
      need (decide (0 ≤ (1 : Int)) && decide ((1 : Int) ≤ ((((([97, 98, 99, 100, 101, 102, 103, 104] : List UInt8).take ((([97, 98, 99, 100, 101, 102, 103, 104] : List UInt8) : List UInt8).length)).drop (Int.toNat i2) : List UInt8).length : Nat) : Int))) <|
      need (decide ((([38, 32] : List UInt8) : List UInt8).length + ((((([97, 98, 99, 100, 101, 102, 103, 104] : List UInt8).take ((([97, 98, 99, 100, 101, 102, 103, 104] : List UInt8) : List UInt8).length)).drop (Int.toNat i2)).take (Int.toNat 1)).drop 0 : List UInt8).length ≤ 9223372036854775807)) <|
      need (decide ((([38] : List UInt8) : List UInt8).length + ((((([97, 98, 99, 100, 101, 102, 103, 104] : List UInt8).take ((([97, 98, 99, 100, 101, 102, 103, 104] : List UInt8) : List UInt8).length)).drop (Int.toNat i2)).take (Int.toNat 1)).drop 0 : List UInt8).length ≤ 9223372036854775807)) <|
      need (decide ((([38] : List UInt8) ++ ((((([97, 98, 99, 100, 101, 102, 103, 104] : List UInt8).take ((([97, 98, 99, 100, 101, 102, 103, 104] : List UInt8) : List UInt8).length)).drop (Int.toNat i2)).take (Int.toNat 1)).drop 0) : List UInt8).length + (([33] : List UInt8) : List UInt8).length ≤ 9223372036854775807)) <|
      need (decide ((([38] : List UInt8) : List UInt8).length + ((((([97, 98, 99, 100, 101, 102, 103, 104] : List UInt8).take ((([97, 98, 99, 100, 101, 102, 103, 104] : List UInt8) : List UInt8).length)).drop (Int.toNat i2)).take (Int.toNat 1)).drop 0 : List UInt8).length ≤ 9223372036854775807)) <|
      need (decide ((([38] : List UInt8) ++ ((((([97, 98, 99, 100, 101, 102, 103, 104] : List UInt8).take ((([97, 98, 99, 100, 101, 102, 103, 104] : List UInt8) : List UInt8).length)).drop (Int.toNat i2)).take (Int.toNat 1)).drop 0) : List UInt8).length + (([38, 98] : List UInt8) : List UInt8).length ≤ 9223372036854775807)) <|
      need (decide ((([38] : List UInt8) : List UInt8).length + ((((([97, 98, 99, 100, 101, 102, 103, 104] : List UInt8).take ((([97, 98, 99, 100, 101, 102, 103, 104] : List UInt8) : List UInt8).length)).drop (Int.toNat i2)).take (Int.toNat 1)).drop 0 : List UInt8).length ≤ 9223372036854775807)) <|
      need (decide ((([38] : List UInt8) ++ ((((([97, 98, 99, 100, 101, 102, 103, 104] : List UInt8).take ((([97, 98, 99, 100, 101, 102, 103, 104] : List UInt8) : List UInt8).length)).drop (Int.toNat i2)).take (Int.toNat 1)).drop 0) : List UInt8).length + (([32, 38, 98] : List UInt8) : List UInt8).length ≤ 9223372036854775807)) <|
      need (decide ((([33] : List UInt8) : List UInt8).length + ((((([97, 98, 99, 100, 101, 102, 103, 104] : List UInt8).take ((([97, 98, 99, 100, 101, 102, 103, 104] : List UInt8) : List UInt8).length)).drop (Int.toNat i2)).take (Int.toNat 1)).drop 0 : List UInt8).length ≤ 9223372036854775807)) <|
      need (decide ((([33] : List UInt8) ++ ((((([97, 98, 99, 100, 101, 102, 103, 104] : List UInt8).take ((([97, 98, 99, 100, 101, 102, 103, 104] : List UInt8) : List UInt8).length)).drop (Int.toNat i2)).take (Int.toNat 1)).drop 0) : List UInt8).length + (([33] : List UInt8) : List UInt8).length ≤ 9223372036854775807)) <|
      need (decide ((([33, 60] : List UInt8) : List UInt8).length + ((((([97, 98, 99, 100, 101, 102, 103, 104] : List UInt8).take ((([97, 98, 99, 100, 101, 102, 103, 104] : List UInt8) : List UInt8).length)).drop (Int.toNat i2)).take (Int.toNat 1)).drop 0 : List UInt8).length ≤ 9223372036854775807)) <|
      need (decide ((([33, 60] : List UInt8) ++ ((((([97, 98, 99, 100, 101, 102, 103, 104] : List UInt8).take ((([97, 98, 99, 100, 101, 102, 103, 104] : List UInt8) : List UInt8).length)).drop (Int.toNat i2)).take (Int.toNat 1)).drop 0) : List UInt8).length + (([62] : List UInt8) : List UInt8).length ≤ 9223372036854775807)) <|
      need (decide ((([38] : List UInt8) : List UInt8).length + ((((([97, 98, 99, 100, 101, 102, 103, 104] : List UInt8).take ((([97, 98, 99, 100, 101, 102, 103, 104] : List UInt8) : List UInt8).length)).drop (Int.toNat i2)).take (Int.toNat 1)).drop 0 : List UInt8).length ≤ 9223372036854775807)) <|
      need (decide ((([38] : List UInt8) ++ ((((([97, 98, 99, 100, 101, 102, 103, 104] : List UInt8).take ((([97, 98, 99, 100, 101, 102, 103, 104] : List UInt8) : List UInt8).length)).drop (Int.toNat i2)).take (Int.toNat 1)).drop 0) : List UInt8).length + (([44] : List UInt8) : List UInt8).length ≤ 9223372036854775807)) <|
      rounds [3, 38, 39, 40] [] (evC gl R N law10PropsForms_c0) (Kblock 0 (Kthen gl R N law10PropsForms_c3 (Kret law10PropsForms.rets []))) N ⟨[(3, .imm (AV.str ((((([97, 98, 99, 100, 101, 102, 103, 104] : List UInt8).take ((([97, 98, 99, 100, 101, 102, 103, 104] : List UInt8) : List UInt8).length)).drop (Int.toNat i2)).take (Int.toNat 1)).drop 0))), (38, .imm (AV.row 1 [AV.str ([38] : List UInt8), AV.str (([38, 32] : List UInt8) ++ ((((([97, 98, 99, 100, 101, 102, 103, 104] : List UInt8).take ((([97, 98, 99, 100, 101, 102, 103, 104] : List UInt8) : List UInt8).length)).drop (Int.toNat i2)).take (Int.toNat 1)).drop 0)), AV.str ((([38] : List UInt8) ++ ((((([97, 98, 99, 100, 101, 102, 103, 104] : List UInt8).take ((([97, 98, 99, 100, 101, 102, 103, 104] : List UInt8) : List UInt8).length)).drop (Int.toNat i2)).take (Int.toNat 1)).drop 0)) ++ ([33] : List UInt8)), AV.str ((([38] : List UInt8) ++ ((((([97, 98, 99, 100, 101, 102, 103, 104] : List UInt8).take ((([97, 98, 99, 100, 101, 102, 103, 104] : List UInt8) : List UInt8).length)).drop (Int.toNat i2)).take (Int.toNat 1)).drop 0)) ++ ([38, 98] : List UInt8)), AV.str ((([38] : List UInt8) ++ ((((([97, 98, 99, 100, 101, 102, 103, 104] : List UInt8).take ((([97, 98, 99, 100, 101, 102, 103, 104] : List UInt8) : List UInt8).length)).drop (Int.toNat i2)).take (Int.toNat 1)).drop 0)) ++ ([32, 38, 98] : List UInt8)), AV.str ([33, 120, 32, 33, 121] : List UInt8), AV.str ([33, 33] : List UInt8), AV.str ([33, 33, 32, 120] : List UInt8), AV.str ((([33] : List UInt8) ++ ((((([97, 98, 99, 100, 101, 102, 103, 104] : List UInt8).take ((([97, 98, 99, 100, 101, 102, 103, 104] : List UInt8) : List UInt8).length)).drop (Int.toNat i2)).take (Int.toNat 1)).drop 0)) ++ ([33] : List UInt8)), AV.str ([33, 120, 33, 121] : List UInt8), AV.str ((([33, 60] : List UInt8) ++ ((((([97, 98, 99, 100, 101, 102, 103, 104] : List UInt8).take ((([97, 98, 99, 100, 101, 102, 103, 104] : List UInt8) : List UInt8).length)).drop (Int.toNat i2)).take (Int.toNat 1)).drop 0)) ++ ([62] : List UInt8)), AV.str ((([38] : List UInt8) ++ ((((([97, 98, 99, 100, 101, 102, 103, 104] : List UInt8).take ((([97, 98, 99, 100, 101, 102, 103, 104] : List UInt8) : List UInt8).length)).drop (Int.toNat i2)).take (Int.toNat 1)).drop 0)) ++ ([44] : List UInt8)), AV.str ([33, 120, 93] : List UInt8), AV.str ([38, 195, 169] : List UInt8)])), (39, .imm (AV.int .i64 (([AV.str ([38] : List UInt8), AV.str (([38, 32] : List UInt8) ++ ((((([97, 98, 99, 100, 101, 102, 103, 104] : List UInt8).take ((([97, 98, 99, 100, 101, 102, 103, 104] : List UInt8) : List UInt8).length)).drop (Int.toNat i2)).take (Int.toNat 1)).drop 0)), AV.str ((([38] : List UInt8) ++ ((((([97, 98, 99, 100, 101, 102, 103, 104] : List UInt8).take ((([97, 98, 99, 100, 101, 102, 103, 104] : List UInt8) : List UInt8).length)).drop (Int.toNat i2)).take (Int.toNat 1)).drop 0)) ++ ([33] : List UInt8)), AV.str ((([38] : List UInt8) ++ ((((([97, 98, 99, 100, 101, 102, 103, 104] : List UInt8).take ((([97, 98, 99, 100, 101, 102, 103, 104] : List UInt8) : List UInt8).length)).drop (Int.toNat i2)).take (Int.toNat 1)).drop 0)) ++ ([38, 98] : List UInt8)), AV.str ((([38] : List UInt8) ++ ((((([97, 98, 99, 100, 101, 102, 103, 104] : List UInt8).take ((([97, 98, 99, 100, 101, 102, 103, 104] : List UInt8) : List UInt8).length)).drop (Int.toNat i2)).take (Int.toNat 1)).drop 0)) ++ ([32, 38, 98] : List UInt8)), AV.str ([33, 120, 32, 33, 121] : List UInt8), AV.str ([33, 33] : List UInt8), AV.str ([33, 33, 32, 120] : List UInt8), AV.str ((([33] : List UInt8) ++ ((((([97, 98, 99, 100, 101, 102, 103, 104] : List UInt8).take ((([97, 98, 99, 100, 101, 102, 103, 104] : List UInt8) : List UInt8).length)).drop (Int.toNat i2)).take (Int.toNat 1)).drop 0)) ++ ([33] : List UInt8)), AV.str ([33, 120, 33, 121] : List UInt8), AV.str ((([33, 60] : List UInt8) ++ ((((([97, 98, 99, 100, 101, 102, 103, 104] : List UInt8).take ((([97, 98, 99, 100, 101, 102, 103, 104] : List UInt8) : List UInt8).length)).drop (Int.toNat i2)).take (Int.toNat 1)).drop 0)) ++ ([62] : List UInt8)), AV.str ((([38] : List UInt8) ++ ((((([97, 98, 99, 100, 101, 102, 103, 104] : List UInt8).take ((([97, 98, 99, 100, 101, 102, 103, 104] : List UInt8) : List UInt8).length)).drop (Int.toNat i2)).take (Int.toNat 1)).drop 0)) ++ ([44] : List UInt8)), AV.str ([33, 120, 93] : List UInt8), AV.str ([38, 195, 169] : List UInt8)].length : Nat) : Int))), (40, .imm (AV.int .i64 0))], []⟩) (by kernel_rfl) ?_
  simp (config := { maxSteps := 100000000 }) only [law10PropsForms_L1_eq, law10PropsForms_L2_eq]
  refine Eq.trans (b :=
      (R id_keepWithin [AV.int .i64 i1, AV.int .i64 8]).bind fun r1 =>
      asI .i64 r1.v fun i2 =>
      need (decide (0 ≤ (i2 : Int)) && decide ((i2 : Int) ≤ (((([97, 98, 99, 100, 101, 102, 103, 104] : List UInt8) : List UInt8).length : Nat) : Int))) <|
      need (decide (0 ≤ (1 : Int)) && decide ((1 : Int) ≤ ((((([97, 98, 99, 100, 101, 102, 103, 104] : List UInt8).take ((([97, 98, 99, 100, 101, 102, 103, 104] : List UInt8) : List UInt8).length)).drop (Int.toNat i2) : List UInt8).length : Nat) : Int))) <|
      need (decide ((([38, 32] : List UInt8) : List UInt8).length + ((((([97, 98, 99, 100, 101, 102, 103, 104] : List UInt8).take ((([97, 98, 99, 100, 101, 102, 103, 104] : List UInt8) : List UInt8).length)).drop (Int.toNat i2)).take (Int.toNat 1)).drop 0 : List UInt8).length ≤ 9223372036854775807)) <|
      need (decide ((([38] : List UInt8) : List UInt8).length + ((((([97, 98, 99, 100, 101, 102, 103, 104] : List UInt8).take ((([97, 98, 99, 100, 101, 102, 103, 104] : List UInt8) : List UInt8).length)).drop (Int.toNat i2)).take (Int.toNat 1)).drop 0 : List UInt8).length ≤ 9223372036854775807)) <|
      need (decide ((([38] : List UInt8) ++ ((((([97, 98, 99, 100, 101, 102, 103, 104] : List UInt8).take ((([97, 98, 99, 100, 101, 102, 103, 104] : List UInt8) : List UInt8).length)).drop (Int.toNat i2)).take (Int.toNat 1)).drop 0) : List UInt8).length + (([33] : List UInt8) : List UInt8).length ≤ 9223372036854775807)) <|
      need (decide ((([38] : List UInt8) : List UInt8).length + ((((([97, 98, 99, 100, 101, 102, 103, 104] : List UInt8).take ((([97, 98, 99, 100, 101, 102, 103, 104] : List UInt8) : List UInt8).length)).drop (Int.toNat i2)).take (Int.toNat 1)).drop 0 : List UInt8).length ≤ 9223372036854775807)) <|
      need (decide ((([38] : List UInt8) ++ ((((([97, 98, 99, 100, 101, 102, 103, 104] : List UInt8).take ((([97, 98, 99, 100, 101, 102, 103, 104] : List UInt8) : List UInt8).length)).drop (Int.toNat i2)).take (Int.toNat 1)).drop 0) : List UInt8).length + (([38, 98] : List UInt8) : List UInt8).length ≤ 9223372036854775807)) <|
      need (decide ((([38] : List UInt8) : List UInt8).length + ((((([97, 98, 99, 100, 101, 102, 103, 104] : List UInt8).take ((([97, 98, 99, 100, 101, 102, 103, 104] : List UInt8) : List UInt8).length)).drop (Int.toNat i2)).take (Int.toNat 1)).drop 0 : List UInt8).length ≤ 9223372036854775807)) <|
      need (decide ((([38] : List UInt8) ++ ((((([97, 98, 99, 100, 101, 102, 103, 104] : List UInt8).take ((([97, 98, 99, 100, 101, 102, 103, 104] : List UInt8) : List UInt8).length)).drop (Int.toNat i2)).take (Int.toNat 1)).drop 0) : List UInt8).length + (([32, 38, 98] : List UInt8) : List UInt8).length ≤ 9223372036854775807)) <|
      need (decide ((([33] : List UInt8) : List UInt8).length + ((((([97, 98, 99, 100, 101, 102, 103, 104] : List UInt8).take ((([97, 98, 99, 100, 101, 102, 103, 104] : List UInt8) : List UInt8).length)).drop (Int.toNat i2)).take (Int.toNat 1)).drop 0 : List UInt8).length ≤ 9223372036854775807)) <|
      need (decide ((([33] : List UInt8) ++ ((((([97, 98, 99, 100, 101, 102, 103, 104] : List UInt8).take ((([97, 98, 99, 100, 101, 102, 103, 104] : List UInt8) : List UInt8).length)).drop (Int.toNat i2)).take (Int.toNat 1)).drop 0) : List UInt8).length + (([33] : List UInt8) : List UInt8).length ≤ 9223372036854775807)) <|
      need (decide ((([33, 60] : List UInt8) : List UInt8).length + ((((([97, 98, 99, 100, 101, 102, 103, 104] : List UInt8).take ((([97, 98, 99, 100, 101, 102, 103, 104] : List UInt8) : List UInt8).length)).drop (Int.toNat i2)).take (Int.toNat 1)).drop 0 : List UInt8).length ≤ 9223372036854775807)) <|
      need (decide ((([33, 60] : List UInt8) ++ ((((([97, 98, 99, 100, 101, 102, 103, 104] : List UInt8).take ((([97, 98, 99, 100, 101, 102, 103, 104] : List UInt8) : List UInt8).length)).drop (Int.toNat i2)).take (Int.toNat 1)).drop 0) : List UInt8).length + (([62] : List UInt8) : List UInt8).length ≤ 9223372036854775807)) <|
      need (decide ((([38] : List UInt8) : List UInt8).length + ((((([97, 98, 99, 100, 101, 102, 103, 104] : List UInt8).take ((([97, 98, 99, 100, 101, 102, 103, 104] : List UInt8) : List UInt8).length)).drop (Int.toNat i2)).take (Int.toNat 1)).drop 0 : List UInt8).length ≤ 9223372036854775807)) <|
      need (decide ((([38] : List UInt8) ++ ((((([97, 98, 99, 100, 101, 102, 103, 104] : List UInt8).take ((([97, 98, 99, 100, 101, 102, 103, 104] : List UInt8) : List UInt8).length)).drop (Int.toNat i2)).take (Int.toNat 1)).drop 0) : List UInt8).length + (([44] : List UInt8) : List UInt8).length ≤ 9223372036854775807)) <|
      law10PropsForms_L1 R N
        (fun b4 =>
          some ⟨AV.bool b4, false, []⟩)
        (fun s7 =>
          need (decide ((([32, 38] : List UInt8) : List UInt8).length + s7.length ≤ 9223372036854775807)) <|
          need (decide ((([38] : List UInt8) : List UInt8).length + s7.length ≤ 9223372036854775807)) <|
          need (decide ((([33, 32] : List UInt8) : List UInt8).length + s7.length ≤ 9223372036854775807)) <|
          need (decide ((([33, 33] : List UInt8) : List UInt8).length + s7.length ≤ 9223372036854775807)) <|
          need (decide ((([33, 33] : List UInt8) ++ s7 : List UInt8).length + (([32, 38] : List UInt8) : List UInt8).length ≤ 9223372036854775807)) <|
          need (decide (((([33, 33] : List UInt8) ++ s7) ++ ([32, 38] : List UInt8) : List UInt8).length + s7.length ≤ 9223372036854775807)) <|
          need (decide ((((([33, 33] : List UInt8) ++ s7) ++ ([32, 38] : List UInt8)) ++ s7 : List UInt8).length + (([32, 32] : List UInt8) : List UInt8).length ≤ 9223372036854775807)) <|
          need (decide (((((([33, 33] : List UInt8) ++ s7) ++ ([32, 38] : List UInt8)) ++ s7) ++ ([32, 32] : List UInt8) : List UInt8).length + s7.length ≤ 9223372036854775807)) <|
          need (decide ((([38] : List UInt8) : List UInt8).length + s7.length ≤ 9223372036854775807)) <|
          need (decide ((([38] : List UInt8) ++ s7 : List UInt8).length + (([32, 32, 32] : List UInt8) : List UInt8).length ≤ 9223372036854775807)) <|
          need (decide ((([42] : List UInt8) : List UInt8).length + s7.length ≤ 9223372036854775807)) <|
          need (apartB (((((((((([] : List (AV × AV)) ++ [(AV.str ([] : List UInt8), AV.int .i64 0)]) ++ [(AV.str s7, AV.int .i64 0)]) ++ [(AV.str (([32, 38] : List UInt8) ++ s7), AV.int .i64 0)]) ++ [(AV.str (([38] : List UInt8) ++ s7), AV.int .i64 2)]) ++ [(AV.str ([33] : List UInt8), AV.int .i64 1)]) ++ [(AV.str (([33, 32] : List UInt8) ++ s7), AV.int .i64 1)]) ++ [(AV.str (((((([33, 33] : List UInt8) ++ s7) ++ ([32, 38] : List UInt8)) ++ s7) ++ ([32, 32] : List UInt8)) ++ s7), AV.int .i64 6)]) ++ [(AV.str ((([38] : List UInt8) ++ s7) ++ ([32, 32, 32] : List UInt8)), AV.int .i64 2)]) ++ [(AV.str (([42] : List UInt8) ++ s7), AV.int .i64 0)])) <|
          rounds [84] [1084] (evC gl R N law10PropsForms_c1) (Kblock 2 (Kthen gl R N law10PropsForms_c2 (Kret law10PropsForms.rets []))) N ⟨[(84, .ptr 1084 0 0)], [(1084, .miter (((((((((([] : List (AV × AV)) ++ [(AV.str ([] : List UInt8), AV.int .i64 0)]) ++ [(AV.str s7, AV.int .i64 0)]) ++ [(AV.str (([32, 38] : List UInt8) ++ s7), AV.int .i64 0)]) ++ [(AV.str (([38] : List UInt8) ++ s7), AV.int .i64 2)]) ++ [(AV.str ([33] : List UInt8), AV.int .i64 1)]) ++ [(AV.str (([33, 32] : List UInt8) ++ s7), AV.int .i64 1)]) ++ [(AV.str (((((([33, 33] : List UInt8) ++ s7) ++ ([32, 38] : List UInt8)) ++ s7) ++ ([32, 32] : List UInt8)) ++ s7), AV.int .i64 6)]) ++ [(AV.str ((([38] : List UInt8) ++ s7) ++ ([32, 32, 32] : List UInt8)), AV.int .i64 2)]) ++ [(AV.str (([42] : List UInt8) ++ s7), AV.int .i64 0)]) (none : Option (AV × AV)))]⟩)
        N ((((([97, 98, 99, 100, 101, 102, 103, 104] : List UInt8).take ((([97, 98, 99, 100, 101, 102, 103, 104] : List UInt8) : List UInt8).length)).drop (Int.toNat i2)).take (Int.toNat 1)).drop 0) [AV.str ([38] : List UInt8), AV.str (([38, 32] : List UInt8) ++ ((((([97, 98, 99, 100, 101, 102, 103, 104] : List UInt8).take ((([97, 98, 99, 100, 101, 102, 103, 104] : List UInt8) : List UInt8).length)).drop (Int.toNat i2)).take (Int.toNat 1)).drop 0)), AV.str ((([38] : List UInt8) ++ ((((([97, 98, 99, 100, 101, 102, 103, 104] : List UInt8).take ((([97, 98, 99, 100, 101, 102, 103, 104] : List UInt8) : List UInt8).length)).drop (Int.toNat i2)).take (Int.toNat 1)).drop 0)) ++ ([33] : List UInt8)), AV.str ((([38] : List UInt8) ++ ((((([97, 98, 99, 100, 101, 102, 103, 104] : List UInt8).take ((([97, 98, 99, 100, 101, 102, 103, 104] : List UInt8) : List UInt8).length)).drop (Int.toNat i2)).take (Int.toNat 1)).drop 0)) ++ ([38, 98] : List UInt8)), AV.str ((([38] : List UInt8) ++ ((((([97, 98, 99, 100, 101, 102, 103, 104] : List UInt8).take ((([97, 98, 99, 100, 101, 102, 103, 104] : List UInt8) : List UInt8).length)).drop (Int.toNat i2)).take (Int.toNat 1)).drop 0)) ++ ([32, 38, 98] : List UInt8)), AV.str ([33, 120, 32, 33, 121] : List UInt8), AV.str ([33, 33] : List UInt8), AV.str ([33, 33, 32, 120] : List UInt8), AV.str ((([33] : List UInt8) ++ ((((([97, 98, 99, 100, 101, 102, 103, 104] : List UInt8).take ((([97, 98, 99, 100, 101, 102, 103, 104] : List UInt8) : List UInt8).length)).drop (Int.toNat i2)).take (Int.toNat 1)).drop 0)) ++ ([33] : List UInt8)), AV.str ([33, 120, 33, 121] : List UInt8), AV.str ((([33, 60] : List UInt8) ++ ((((([97, 98, 99, 100, 101, 102, 103, 104] : List UInt8).take ((([97, 98, 99, 100, 101, 102, 103, 104] : List UInt8) : List UInt8).length)).drop (Int.toNat i2)).take (Int.toNat 1)).drop 0)) ++ ([62] : List UInt8)), AV.str ((([38] : List UInt8) ++ ((((([97, 98, 99, 100, 101, 102, 103, 104] : List UInt8).take ((([97, 98, 99, 100, 101, 102, 103, 104] : List UInt8) : List UInt8).length)).drop (Int.toNat i2)).take (Int.toNat 1)).drop 0)) ++ ([44] : List UInt8)), AV.str ([33, 120, 93] : List UInt8), AV.str ([38, 195, 169] : List UInt8)] (([AV.str ([38] : List UInt8), AV.str (([38, 32] : List UInt8) ++ ((((([97, 98, 99, 100, 101, 102, 103, 104] : List UInt8).take ((([97, 98, 99, 100, 101, 102, 103, 104] : List UInt8) : List UInt8).length)).drop (Int.toNat i2)).take (Int.toNat 1)).drop 0)), AV.str ((([38] : List UInt8) ++ ((((([97, 98, 99, 100, 101, 102, 103, 104] : List UInt8).take ((([97, 98, 99, 100, 101, 102, 103, 104] : List UInt8) : List UInt8).length)).drop (Int.toNat i2)).take (Int.toNat 1)).drop 0)) ++ ([33] : List UInt8)), AV.str ((([38] : List UInt8) ++ ((((([97, 98, 99, 100, 101, 102, 103, 104] : List UInt8).take ((([97, 98, 99, 100, 101, 102, 103, 104] : List UInt8) : List UInt8).length)).drop (Int.toNat i2)).take (Int.toNat 1)).drop 0)) ++ ([38, 98] : List UInt8)), AV.str ((([38] : List UInt8) ++ ((((([97, 98, 99, 100, 101, 102, 103, 104] : List UInt8).take ((([97, 98, 99, 100, 101, 102, 103, 104] : List UInt8) : List UInt8).length)).drop (Int.toNat i2)).take (Int.toNat 1)).drop 0)) ++ ([32, 38, 98] : List UInt8)), AV.str ([33, 120, 32, 33, 121] : List UInt8), AV.str ([33, 33] : List UInt8), AV.str ([33, 33, 32, 120] : List UInt8), AV.str ((([33] : List UInt8) ++ ((((([97, 98, 99, 100, 101, 102, 103, 104] : List UInt8).take ((([97, 98, 99, 100, 101, 102, 103, 104] : List UInt8) : List UInt8).length)).drop (Int.toNat i2)).take (Int.toNat 1)).drop 0)) ++ ([33] : List UInt8)), AV.str ([33, 120, 33, 121] : List UInt8), AV.str ((([33, 60] : List UInt8) ++ ((((([97, 98, 99, 100, 101, 102, 103, 104] : List UInt8).take ((([97, 98, 99, 100, 101, 102, 103, 104] : List UInt8) : List UInt8).length)).drop (Int.toNat i2)).take (Int.toNat 1)).drop 0)) ++ ([62] : List UInt8)), AV.str ((([38] : List UInt8) ++ ((((([97, 98, 99, 100, 101, 102, 103, 104] : List UInt8).take ((([97, 98, 99, 100, 101, 102, 103, 104] : List UInt8) : List UInt8).length)).drop (Int.toNat i2)).take (Int.toNat 1)).drop 0)) ++ ([44] : List UInt8)), AV.str ([33, 120, 93] : List UInt8), AV.str ([38, 195, 169] : List UInt8)].length : Nat) : Int) 0) (by kernel_rfl) ?_
  simp (config := { maxSteps := 100000000 }) only [law10PropsForms_L1_eq, law10PropsForms_L2_eq]
  kernel_rfl
theorem law10PropsForms_fit : fitF Tryd.prog law10PropsForms Tryd.f3 = true := by
  kernel_rfl

def law10PropsLong_L1s (R : Nat → List AV → Option Res) (N : Nat) (go : Int → Bool → Bool → List UInt8 → Int → Option Res) (k0 : Int → Bool → Bool → List UInt8 → Option Res) (i3 : Int) (b3 : Bool) (b4 : Bool) (s1 : List UInt8) (i4 : Int) : Option Res :=
  bif decide ((i4 : Int) < i3) then
    (need (!decide (5 = 0)) <|
    need (decide (0 ≤ (Int.tmod i4 5 : Int)) && decide ((Int.tmod i4 5 : Int) ≤ (((([97, 90, 48, 45, 95] : List UInt8) : List UInt8).length : Nat) : Int))) <|
    need (decide (0 ≤ (1 : Int)) && decide ((1 : Int) ≤ ((((([97, 90, 48, 45, 95] : List UInt8).take ((([97, 90, 48, 45, 95] : List UInt8) : List UInt8).length)).drop (Int.toNat (Int.tmod i4 5)) : List UInt8).length : Nat) : Int))) <|
    need (decide (s1.length + ((((([97, 90, 48, 45, 95] : List UInt8).take ((([97, 90, 48, 45, 95] : List UInt8) : List UInt8).length)).drop (Int.toNat (Int.tmod i4 5))).take (Int.toNat 1)).drop 0 : List UInt8).length ≤ 9223372036854775807)) <|
    go i3 b3 b4 (s1 ++ ((((([97, 90, 48, 45, 95] : List UInt8).take ((([97, 90, 48, 45, 95] : List UInt8) : List UInt8).length)).drop (Int.toNat (Int.tmod i4 5))).take (Int.toNat 1)).drop 0)) (IntKind.i64.wrap (i4 + 1)))
  else
    k0 i3 b3 b4 s1
def law10PropsLong_L1 (R : Nat → List AV → Option Res) (N : Nat) (k0 : Int → Bool → Bool → List UInt8 → Option Res) : Nat → Int → Bool → Bool → List UInt8 → Int → Option Res
  | 0, _, _, _, _, _ => none
  | n + 1, i3, b3, b4, s1, i4 => law10PropsLong_L1s R N (law10PropsLong_L1 R N k0 n) k0 i3 b3 b4 s1 i4
def law10PropsLong_c0 : AC := .seq (.seq (.region [.op (some 16) none (.mv (.t 8)), .op (some 17) none (.mv (.t 0)), .op (some 18) none (.bin .lss (.t 16) (.t 17))]) (.cond (.t 18) (.skip) (.exit 0 [0, 1, 2, 7] []))) (.seq (.block 1 (.region [.op (some 21) none (.mv (.t 7)), .op (some 22) none (.mv (.t 8)), .op (some 23) none (.bin .rem (.t 22) (.k (AV.int .i64 5))), .op (some 24) none (.sliceS (.k (AV.str ([97, 90, 48, 45, 95] : List UInt8))) (some (.t 23)) none), .op (some 25) none (.sliceS (.t 24) none (some (.k (AV.int .i64 1)))), .op (some 26) none (.bin .add (.t 21) (.t 25)), .op (some 7) none (.mv (.t 26))])) (.region [.op (some 19) none (.mv (.t 8)), .op (some 20) none (.bin .add (.t 19) (.k (AV.int .i64 1))), .op (some 8) none (.mv (.t 20))]))
theorem law10PropsLong_L1s_eq (R : Nat → List AV → Option Res) (N : Nat) (K : Ex → St → Option Res) (W : St → Option Res) (i3 : Int) (b3 : Bool) (b4 : Bool) (s1 : List UInt8) (i4 : Int) :
    evC gl R N law10PropsLong_c0 (Kseq (fun st' => W (prune [0, 1, 2, 7, 8] [] st')) K) ⟨[(0, .imm (AV.int .i64 i3)), (1, .imm (AV.bool b3)), (2, .imm (AV.bool b4)), (7, .imm (AV.str s1)), (8, .imm (AV.int .i64 i4))], []⟩ =
    law10PropsLong_L1s R N (fun (i3 : Int) (b3 : Bool) (b4 : Bool) (s1 : List UInt8) (i4 : Int) => W ⟨[(0, .imm (AV.int .i64 i3)), (1, .imm (AV.bool b3)), (2, .imm (AV.bool b4)), (7, .imm (AV.str s1)), (8, .imm (AV.int .i64 i4))], []⟩) (fun (i5 : Int) (b5 : Bool) (b6 : Bool) (s2 : List UInt8) => K (.exit 0) ⟨[(0, .imm (AV.int .i64 i5)), (1, .imm (AV.bool b5)), (2, .imm (AV.bool b6)), (7, .imm (AV.str s2))], []⟩) i3 b3 b4 s1 i4 := by
  kernel_rfl
theorem law10PropsLong_L1_eq (R : Nat → List AV → Option Res) (N : Nat) (K : Ex → St → Option Res) : ∀ (n : Nat) (i3 : Int) (b3 : Bool) (b4 : Bool) (s1 : List UInt8) (i4 : Int),
    rounds [0, 1, 2, 7, 8] [] (evC gl R N law10PropsLong_c0) K n ⟨[(0, .imm (AV.int .i64 i3)), (1, .imm (AV.bool b3)), (2, .imm (AV.bool b4)), (7, .imm (AV.str s1)), (8, .imm (AV.int .i64 i4))], []⟩ = law10PropsLong_L1 R N (fun (i5 : Int) (b5 : Bool) (b6 : Bool) (s2 : List UInt8) => K (.exit 0) ⟨[(0, .imm (AV.int .i64 i5)), (1, .imm (AV.bool b5)), (2, .imm (AV.bool b6)), (7, .imm (AV.str s2))], []⟩) n i3 b3 b4 s1 i4
  | 0, _, _, _, _, _ => rfl
  | n + 1, i3, b3, b4, s1, i4 => (law10PropsLong_L1s_eq R N K (rounds [0, 1, 2, 7, 8] [] (evC gl R N law10PropsLong_c0) K n) i3 b3 b4 s1 i4).trans
      (congrArg (fun go => law10PropsLong_L1s R N go (fun (i5 : Int) (b5 : Bool) (b6 : Bool) (s2 : List UInt8) => K (.exit 0) ⟨[(0, .imm (AV.int .i64 i5)), (1, .imm (AV.bool b5)), (2, .imm (AV.bool b6)), (7, .imm (AV.str s2))], []⟩) i3 b3 b4 s1 i4) (funext fun i3 => funext fun b3 => funext fun b4 => funext fun s1 => funext fun i4 => law10PropsLong_L1_eq R N K n i3 b3 b4 s1 i4))
def law10PropsLong_c1 : AC := .seq (.region [.op (some 27) none (.mv (.t 7)), .op (some 28) none (.bin .add (.k (AV.str ([38] : List UInt8))) (.t 27)), .op (some 9) none (.mv (.t 28))]) (.seq (.seq (.region [.op (some 29) none (.mv (.t 1))]) (.cond (.t 29) (.seq (.region [.op (some 30) none (.mv (.t 7)), .op (some 31) none (.bin .add (.k (AV.str ([33] : List UInt8))) (.t 30)), .op (some 9) none (.mv (.t 31))]) (.seq (.region [.op (some 32) none (.mv (.t 2))]) (.cond (.t 32) (.region [.op (some 33) none (.mv (.t 7)), .op (some 34) none (.bin .add (.k (AV.str ([33, 33] : List UInt8))) (.t 33)), .op (some 9) none (.mv (.t 34))]) (.skip)))) (.skip))) (.seq (.region [.op (some 36) none (.mv (.t 9)), .op (some 37) none (.bin .add (.t 36) (.k (AV.str ([32, 120] : List UInt8)))), .op (some 38) none (.cvBytes (.t 37)), .op (some 39) none (.call id_propsTake [.t 38] (.tup [.agg [.str, .str], .int .i64, .bool])), .op (some 35) none (.mv (.t 39)), .op (some 40) none (.extract (.t 35) 0), .op (some 41) none (.extract (.t 35) 1), .op (some 42) none (.extract (.t 35) 2), .op (some 10) none (.alloc 1010 [AV.str [], AV.str []]), .op none none (.store (.t 10) (.t 40) 2), .op (some 11) none (.mv (.t 41)), .op (some 12) none (.mv (.t 42))]) (.seq (.seq (.region [.op (some 43) none (.mv (.t 12)), .op (some 44) none (.mv (.t 0)), .op (some 45) none (.bin .leq (.t 44) (.k (AV.int .i64 32))), .op (some 46) none (.binB .neq (.t 43) (.t 45)), .op (some 47) none (.mv (.t 46)), .split 47, .op (some 48) (some (47, false)) (.mv (.t 12)), .op (some 49) (some (47, false)) (.mv (.t 48)), .split 49, .op (some 50) (some (49, true)) (.mv (.t 11)), .op (some 51) (some (49, true)) (.mv (.t 9)), .op (some 52) (some (49, true)) (.len (.t 51) true), .op (some 53) (some (49, true)) (.bin .neq (.t 50) (.t 52)), .op (some 54) (some (47, false)) (.pick (.t 49) (.t 53) (.k (AV.bool false))), .op (some 55) none (.pick (.t 47) (.k (AV.bool true)) (.t 54))]) (.cond (.t 55) (.seq (.region [.op (some 6) none (.mv (.k (AV.bool false)))]) (.ret [6] [])) (.skip))) (.seq (.seq (.region [.op (some 56) none (.mv (.t 12)), .op (some 57) none (.un .not (.t 56))]) (.cond (.t 57) (.seq (.region [.op (some 58) none (.load (.t 10) (some 2) (.agg [.str, .str])), .op (some 59) none (.build [AV.str [], AV.str []] []), .op (some 60) none (.binA false (.t 58) (.t 59) [2, 2]), .op (some 61) none (.mv (.t 60)), .split 61, .op (some 62) (some (61, true)) (.mv (.t 11)), .op (some 63) (some (61, true)) (.bin .eql (.t 62) (.k (AV.int .i64 0))), .op (some 64) none (.pick (.t 61) (.t 63) (.k (AV.bool false))), .op (some 65) none (.mv (.t 64)), .split 65, .op (some 66) (some (65, true)) (.call id_law10Wakes [] (.bool)), .op (some 67) none (.pick (.t 65) (.t 66) (.k (AV.bool false))), .op (some 6) none (.mv (.t 67))]) (.ret [6] [])) (.skip))) (.seq (.region [.op (some 68) none (.faddr (.t 10) 1), .op (some 69) none (.load (.t 68) none (.str)), .op (some 70) none (.mv (.t 7)), .op (some 71) none (.bin .eql (.t 69) (.t 70)), .op (some 72) none (.mv (.t 1)), .op (some 73) none (.un .not (.t 72)), .op (some 74) none (.binB .eql (.t 71) (.t 73)), .op (some 75) none (.mv (.t 74)), .split 75, .op (some 76) (some (75, true)) (.faddr (.t 10) 0), .op (some 77) (some (75, true)) (.load (.t 76) none (.str)), .op (some 78) (some (75, true)) (.mv (.t 9)), .op (some 79) (some (75, true)) (.bin .eql (.t 77) (.t 78)), .op (some 80) (some (75, true)) (.mv (.t 1)), .op (some 81) (some (75, true)) (.binB .eql (.t 79) (.t 80)), .op (some 82) none (.pick (.t 75) (.t 81) (.k (AV.bool false))), .op (some 83) none (.mv (.t 82)), .split 83, .op (some 84) (some (83, true)) (.mv (.t 9)), .op (some 85) (some (83, true)) (.call id_propsValidTag [.t 84] (.bool)), .op (some 86) (some (83, true)) (.mv (.t 1)), .op (some 87) (some (83, true)) (.binB .eql (.t 85) (.t 86)), .op (some 88) none (.pick (.t 83) (.t 87) (.k (AV.bool false))), .op (some 89) none (.mv (.t 88)), .split 89, .op (some 90) (some (89, true)) (.call id_law10Wakes [] (.bool)), .op (some 91) none (.pick (.t 89) (.t 90) (.k (AV.bool false))), .op (some 6) none (.mv (.t 91))]) (.ret [6] []))))))
def law10PropsLong_c2 : AC := .seq (.region [.op (some 6) none (.mv (.k (AV.bool false)))]) (.seq (.region [.op (some 13) none (.mv (.t 0)), .op (some 14) none (.call id_keepWithin [.t 13, .k (AV.int .i64 5)] (.int .i64)), .op (some 15) none (.bin .add (.k (AV.int .i64 30)) (.t 14)), .op (some 0) none (.mv (.t 15))]) (.seq (.region [.op (some 7) none (.mv (.k (AV.str ([] : List UInt8))))]) (.seq (.seq (.region [.op (some 8) none (.mv (.k (AV.int .i64 0)))]) (.block 0 (.loop [0, 1, 2, 7, 8] [] (law10PropsLong_c0)))) (law10PropsLong_c1))))
def law10PropsLong : AFunc := ⟨3, 92, [.tmp 6], law10PropsLong_c2⟩
def law10PropsLongr (R : Nat → List AV → Option Res) (N : Nat) (i1 : Int) (b1 : Bool) (b2 : Bool) : Option Res :=
  (R id_keepWithin [AV.int .i64 i1, AV.int .i64 5]).bind fun r1 =>
  asI .i64 r1.v fun i2 =>
  law10PropsLong_L1 R N
    (fun i7 b9 b10 s4 =>
      need (decide ((([38] : List UInt8) : List UInt8).length + s4.length ≤ 9223372036854775807)) <|
      bif b9 then
        (need (decide ((([33] : List UInt8) : List UInt8).length + s4.length ≤ 9223372036854775807)) <|
        bif b10 then
          (need (decide ((([33, 33] : List UInt8) : List UInt8).length + s4.length ≤ 9223372036854775807)) <|
          need (decide ((([33, 33] : List UInt8) ++ s4 : List UInt8).length + (([32, 120] : List UInt8) : List UInt8).length ≤ 9223372036854775807)) <|
          (R id_propsTake [AV.bytes ((([33, 33] : List UInt8) ++ s4) ++ ([32, 120] : List UInt8))]).bind fun r2 =>
          asAIBT r2.v fun s5 s6 i8 b11 =>
          bif !(b11 == (decide ((i7 : Int) ≤ 32))) then
            (some ⟨AV.bool false, false, []⟩)
          else
            bif b11 then
              (bif (i8 : Int) != (((([33, 33] : List UInt8) ++ s4 : List UInt8).length : Nat) : Int) then
                (some ⟨AV.bool false, false, []⟩)
              else
                bif !b11 then
                  (bif (s5 == []) && ((s6 == []) && (true)) then
                    (bif (i8 : Int) == 0 then
                      ((R id_law10Wakes []).bind fun r3 =>
                      asB r3.v fun b12 =>
                      some ⟨AV.bool b12, false, []⟩)
                    else
                      some ⟨AV.bool false, false, []⟩)
                  else
                    some ⟨AV.bool false, false, []⟩)
                else
                  bif (s6 == s4) == (!b9) then
                    (bif (s5 == (([33, 33] : List UInt8) ++ s4)) == b9 then
                      ((R id_propsValidTag [AV.str (([33, 33] : List UInt8) ++ s4)]).bind fun r4 =>
                      asB r4.v fun b13 =>
                      bif b13 == b9 then
                        ((R id_law10Wakes []).bind fun r5 =>
                        asB r5.v fun b14 =>
                        some ⟨AV.bool b14, false, []⟩)
                      else
                        some ⟨AV.bool false, false, []⟩)
                    else
                      some ⟨AV.bool false, false, []⟩)
                  else
                    some ⟨AV.bool false, false, []⟩)
            else
              bif !b11 then
                (bif (s5 == []) && ((s6 == []) && (true)) then
                  (bif (i8 : Int) == 0 then
                    ((R id_law10Wakes []).bind fun r6 =>
                    asB r6.v fun b15 =>
                    some ⟨AV.bool b15, false, []⟩)
                  else
                    some ⟨AV.bool false, false, []⟩)
                else
                  some ⟨AV.bool false, false, []⟩)
              else
                bif (s6 == s4) == (!b9) then
                  (bif (s5 == (([33, 33] : List UInt8) ++ s4)) == b9 then
                    ((R id_propsValidTag [AV.str (([33, 33] : List UInt8) ++ s4)]).bind fun r7 =>
                    asB r7.v fun b16 =>
                    bif b16 == b9 then
                      ((R id_law10Wakes []).bind fun r8 =>
                      asB r8.v fun b17 =>
                      some ⟨AV.bool b17, false, []⟩)
                    else
                      some ⟨AV.bool false, false, []⟩)
                  else
                    some ⟨AV.bool false, false, []⟩)
                else
                  some ⟨AV.bool false, false, []⟩)
        else
          need (decide ((([33] : List UInt8) ++ s4 : List UInt8).length + (([32, 120] : List UInt8) : List UInt8).length ≤ 9223372036854775807)) <|
          (R id_propsTake [AV.bytes ((([33] : List UInt8) ++ s4) ++ ([32, 120] : List UInt8))]).bind fun r9 =>
          asAIBT r9.v fun s7 s8 i9 b18 =>
          bif !(b18 == (decide ((i7 : Int) ≤ 32))) then
            (some ⟨AV.bool false, false, []⟩)
          else
            bif b18 then
              (bif (i9 : Int) != (((([33] : List UInt8) ++ s4 : List UInt8).length : Nat) : Int) then
                (some ⟨AV.bool false, false, []⟩)
              else
                bif !b18 then
                  (bif (s7 == []) && ((s8 == []) && (true)) then
                    (bif (i9 : Int) == 0 then
                      ((R id_law10Wakes []).bind fun r10 =>
                      asB r10.v fun b19 =>
                      some ⟨AV.bool b19, false, []⟩)
                    else
                      some ⟨AV.bool false, false, []⟩)
                  else
                    some ⟨AV.bool false, false, []⟩)
                else
                  bif (s8 == s4) == (!b9) then
                    (bif (s7 == (([33] : List UInt8) ++ s4)) == b9 then
                      ((R id_propsValidTag [AV.str (([33] : List UInt8) ++ s4)]).bind fun r11 =>
                      asB r11.v fun b20 =>
                      bif b20 == b9 then
                        ((R id_law10Wakes []).bind fun r12 =>
                        asB r12.v fun b21 =>
                        some ⟨AV.bool b21, false, []⟩)
                      else
                        some ⟨AV.bool false, false, []⟩)
                    else
                      some ⟨AV.bool false, false, []⟩)
                  else
                    some ⟨AV.bool false, false, []⟩)
            else
              bif !b18 then
                (bif (s7 == []) && ((s8 == []) && (true)) then
                  (bif (i9 : Int) == 0 then
                    ((R id_law10Wakes []).bind fun r13 =>
                    asB r13.v fun b22 =>
                    some ⟨AV.bool b22, false, []⟩)
                  else
                    some ⟨AV.bool false, false, []⟩)
                else
                  some ⟨AV.bool false, false, []⟩)
              else
                bif (s8 == s4) == (!b9) then
                  (bif (s7 == (([33] : List UInt8) ++ s4)) == b9 then
                    ((R id_propsValidTag [AV.str (([33] : List UInt8) ++ s4)]).bind fun r14 =>
                    asB r14.v fun b23 =>
                    bif b23 == b9 then
                      ((R id_law10Wakes []).bind fun r15 =>
                      asB r15.v fun b24 =>
                      some ⟨AV.bool b24, false, []⟩)
                    else
                      some ⟨AV.bool false, false, []⟩)
                  else
                    some ⟨AV.bool false, false, []⟩)
                else
                  some ⟨AV.bool false, false, []⟩)
      else
        need (decide ((([38] : List UInt8) ++ s4 : List UInt8).length + (([32, 120] : List UInt8) : List UInt8).length ≤ 9223372036854775807)) <|
        (R id_propsTake [AV.bytes ((([38] : List UInt8) ++ s4) ++ ([32, 120] : List UInt8))]).bind fun r16 =>
        asAIBT r16.v fun s9 s10 i10 b25 =>
        bif !(b25 == (decide ((i7 : Int) ≤ 32))) then
          (some ⟨AV.bool false, false, []⟩)
        else
          bif b25 then
            (bif (i10 : Int) != (((([38] : List UInt8) ++ s4 : List UInt8).length : Nat) : Int) then
              (some ⟨AV.bool false, false, []⟩)
            else
              bif !b25 then
                (bif (s9 == []) && ((s10 == []) && (true)) then
                  (bif (i10 : Int) == 0 then
                    ((R id_law10Wakes []).bind fun r17 =>
                    asB r17.v fun b26 =>
                    some ⟨AV.bool b26, false, []⟩)
                  else
                    some ⟨AV.bool false, false, []⟩)
                else
                  some ⟨AV.bool false, false, []⟩)
              else
                bif (s10 == s4) == (!b9) then
                  (bif (s9 == (([38] : List UInt8) ++ s4)) == b9 then
                    ((R id_propsValidTag [AV.str (([38] : List UInt8) ++ s4)]).bind fun r18 =>
                    asB r18.v fun b27 =>
                    bif b27 == b9 then
                      ((R id_law10Wakes []).bind fun r19 =>
                      asB r19.v fun b28 =>
                      some ⟨AV.bool b28, false, []⟩)
                    else
                      some ⟨AV.bool false, false, []⟩)
                  else
                    some ⟨AV.bool false, false, []⟩)
                else
                  some ⟨AV.bool false, false, []⟩)
          else
            bif !b25 then
              (bif (s9 == []) && ((s10 == []) && (true)) then
                (bif (i10 : Int) == 0 then
                  ((R id_law10Wakes []).bind fun r20 =>
                  asB r20.v fun b29 =>
                  some ⟨AV.bool b29, false, []⟩)
                else
                  some ⟨AV.bool false, false, []⟩)
              else
                some ⟨AV.bool false, false, []⟩)
            else
              bif (s10 == s4) == (!b9) then
                (bif (s9 == (([38] : List UInt8) ++ s4)) == b9 then
                  ((R id_propsValidTag [AV.str (([38] : List UInt8) ++ s4)]).bind fun r21 =>
                  asB r21.v fun b30 =>
                  bif b30 == b9 then
                    ((R id_law10Wakes []).bind fun r22 =>
                    asB r22.v fun b31 =>
                    some ⟨AV.bool b31, false, []⟩)
                  else
                    some ⟨AV.bool false, false, []⟩)
                else
                  some ⟨AV.bool false, false, []⟩)
              else
                some ⟨AV.bool false, false, []⟩)
    N (IntKind.i64.wrap (30 + i2)) b1 b2 ([] : List UInt8) 0
theorem law10PropsLong_eq (R : Nat → List AV → Option Res) (N : Nat) (i1 : Int) (b1 : Bool) (b2 : Bool) : runF gl R N law10PropsLong [AV.int .i64 i1, AV.bool b1, AV.bool b2] = law10PropsLongr R N i1 b1 b2 := by
  refine Eq.trans (b :=
      (R id_keepWithin [AV.int .i64 i1, AV.int .i64 5]).bind fun r1 =>
      asI .i64 r1.v fun i2 =>
      rounds [0, 1, 2, 7, 8] [] (evC gl R N law10PropsLong_c0) (Kblock 0 (Kthen gl R N law10PropsLong_c1 (Kret law10PropsLong.rets []))) N ⟨[(0, .imm (AV.int .i64 (IntKind.i64.wrap (30 + i2)))), (1, .imm (AV.bool b1)), (2, .imm (AV.bool b2)), (7, .imm (AV.str ([] : List UInt8))), (8, .imm (AV.int .i64 0))], []⟩) (by kernel_rfl) ?_
  simp (config := { maxSteps := 100000000 }) only [law10PropsLong_L1_eq]
  kernel_rfl
theorem law10PropsLong_fit : fitF Tryd.prog law10PropsLong Tryd.f4 = true := by
  kernel_rfl

def propsTakeAlias_L1s (R : Nat → List AV → Option Res) (N : Nat) (go : List UInt8 → Int → Option Res) (k0 : List UInt8 → Int → Option Res) (s2 : List UInt8) (i1 : Int) : Option Res :=
  bif decide ((i1 : Int) < ((s2.length : Nat) : Int)) then
    (bif decide ((i1 : Int) ≤ 33) then
      (need (decide (0 ≤ (IntKind.i64.wrap (i1 + 1) : Int)) && decide ((IntKind.i64.wrap (i1 + 1) : Int) ≤ ((s2.length : Nat) : Int))) <|
      need (decide (0 ≤ (i1 : Int)) && decide ((i1 : Int) ≤ ((Int.toNat (IntKind.i64.wrap (i1 + 1)) : Nat) : Int))) <|
      (R id_charsName [AV.str ((s2.take (Int.toNat (IntKind.i64.wrap (i1 + 1)))).drop (Int.toNat i1))]).bind fun r1 =>
      asB r1.v fun b1 =>
      bif b1 then
        (go s2 (IntKind.i64.wrap (i1 + 1)))
      else
        k0 s2 i1)
    else
      k0 s2 i1)
  else
    k0 s2 i1
def propsTakeAlias_L1 (R : Nat → List AV → Option Res) (N : Nat) (k0 : List UInt8 → Int → Option Res) : Nat → List UInt8 → Int → Option Res
  | 0, _, _ => none
  | n + 1, s2, i1 => propsTakeAlias_L1s R N (propsTakeAlias_L1 R N k0 n) k0 s2 i1
def propsTakeAlias_c0 : AC := .seq (.seq (.region [.op (some 14) none (.mv (.t 3)), .op (some 15) none (.mv (.t 0)), .op (some 16) none (.len (.t 15) false), .op (some 17) none (.bin .lss (.t 14) (.t 16)), .op (some 18) none (.mv (.t 17)), .split 18, .op (some 19) (some (18, true)) (.mv (.t 3)), .op (some 20) (some (18, true)) (.bin .leq (.t 19) (.k (AV.int .i64 33))), .op (some 21) none (.pick (.t 18) (.t 20) (.k (AV.bool false))), .op (some 22) none (.mv (.t 21)), .split 22, .op (some 23) (some (22, true)) (.mv (.t 0)), .op (some 24) (some (22, true)) (.mv (.t 3)), .op (some 25) (some (22, true)) (.mv (.t 3)), .op (some 26) (some (22, true)) (.bin .add (.t 25) (.k (AV.int .i64 1))), .op (some 27) (some (22, true)) (.slice (.t 23) (some (.t 24)) (some (.t 26)) 1), .op (some 28) (some (22, true)) (.cvStr (.t 27)), .op (some 29) (some (22, true)) (.call id_charsName [.t 28] (.bool)), .op (some 30) none (.pick (.t 22) (.t 29) (.k (AV.bool false)))]) (.cond (.t 30) (.skip) (.exit 0 [0, 3] []))) (.block 1 (.region [.op (some 31) none (.mv (.t 3)), .op (some 32) none (.bin .add (.t 31) (.k (AV.int .i64 1))), .op (some 3) none (.mv (.t 32))]))
theorem propsTakeAlias_L1s_eq (R : Nat → List AV → Option Res) (N : Nat) (K : Ex → St → Option Res) (W : St → Option Res) (s2 : List UInt8) (i1 : Int) :
    evC gl R N propsTakeAlias_c0 (Kseq (fun st' => W (prune [0, 3] [] st')) K) ⟨[(0, .imm (AV.bytes s2)), (3, .imm (AV.int .i64 i1))], []⟩ =
    propsTakeAlias_L1s R N (fun (s2 : List UInt8) (i1 : Int) => W ⟨[(0, .imm (AV.bytes s2)), (3, .imm (AV.int .i64 i1))], []⟩) (fun (s3 : List UInt8) (i2 : Int) => K (.exit 0) ⟨[(0, .imm (AV.bytes s3)), (3, .imm (AV.int .i64 i2))], []⟩) s2 i1 := by
  kernel_rfl
theorem propsTakeAlias_L1_eq (R : Nat → List AV → Option Res) (N : Nat) (K : Ex → St → Option Res) : ∀ (n : Nat) (s2 : List UInt8) (i1 : Int),
    rounds [0, 3] [] (evC gl R N propsTakeAlias_c0) K n ⟨[(0, .imm (AV.bytes s2)), (3, .imm (AV.int .i64 i1))], []⟩ = propsTakeAlias_L1 R N (fun (s3 : List UInt8) (i2 : Int) => K (.exit 0) ⟨[(0, .imm (AV.bytes s3)), (3, .imm (AV.int .i64 i2))], []⟩) n s2 i1
  | 0, _, _ => rfl
  | n + 1, s2, i1 => (propsTakeAlias_L1s_eq R N K (rounds [0, 3] [] (evC gl R N propsTakeAlias_c0) K n) s2 i1).trans
      (congrArg (fun go => propsTakeAlias_L1s R N go (fun (s3 : List UInt8) (i2 : Int) => K (.exit 0) ⟨[(0, .imm (AV.bytes s3)), (3, .imm (AV.int .i64 i2))], []⟩) s2 i1) (funext fun s2 => funext fun i1 => propsTakeAlias_L1_eq R N K n s2 i1))
def propsTakeAlias_c1 : AC := .seq (.region [.op (some 33) none (.mv (.t 0)), .op (some 34) none (.mv (.t 3)), .op (some 35) none (.slice (.t 33) (some (.k (AV.int .i64 1))) (some (.t 34)) 1), .op (some 36) none (.cvStr (.t 35)), .op (some 2) none (.mv (.t 36))]) (.seq (.seq (.region [.op (some 37) none (.mv (.t 2)), .op (some 38) none (.call id_charsName [.t 37] (.bool)), .op (some 39) none (.un .not (.t 38))]) (.cond (.t 39) (.seq (.region [.op (some 2) none (.mv (.k (AV.str ([] : List UInt8)))), .op (some 3) none (.mv (.k (AV.int .i64 0))), .op (some 4) none (.mv (.k (AV.bool false)))]) (.ret [2, 3, 4] [])) (.skip))) (.seq (.region [.op (some 40) none (.mv (.t 2)), .op (some 41) none (.mv (.t 3)), .op (some 2) none (.mv (.t 40)), .op (some 3) none (.mv (.t 41)), .op (some 4) none (.mv (.k (AV.bool true)))]) (.ret [2, 3, 4] [])))
def propsTakeAlias_c2 : AC := .seq (.region [.op (some 2) none (.mv (.k (AV.str ([] : List UInt8)))), .op (some 3) none (.mv (.k (AV.int .i64 0))), .op (some 4) none (.mv (.k (AV.bool false)))]) (.seq (.seq (.region [.op (some 5) none (.mv (.t 0)), .op (some 6) none (.len (.t 5) false), .op (some 7) none (.bin .eql (.t 6) (.k (AV.int .i64 0))), .op (some 8) none (.mv (.t 7)), .split 8, .op (some 9) (some (8, false)) (.mv (.t 0)), .op (some 10) (some (8, false)) (.iaddr (.t 9) (.k (AV.int .i64 0)) 1 (.int .u8)), .op (some 11) (some (8, false)) (.load (.t 10) none (.int .u8)), .op (some 12) (some (8, false)) (.bin .neq (.t 11) (.k (AV.int .u8 42))), .op (some 13) none (.pick (.t 8) (.k (AV.bool true)) (.t 12))]) (.cond (.t 13) (.seq (.region [.op (some 2) none (.mv (.k (AV.str ([] : List UInt8)))), .op (some 3) none (.mv (.k (AV.int .i64 0))), .op (some 4) none (.mv (.k (AV.bool false)))]) (.ret [2, 3, 4] [])) (.skip))) (.seq (.region [.op (some 3) none (.mv (.k (AV.int .i64 1)))]) (.seq (.block 0 (.loop [0, 3] [] (propsTakeAlias_c0))) (propsTakeAlias_c1))))
def propsTakeAlias : AFunc := ⟨1, 42, [.tmp 2, .tmp 3, .tmp 4], propsTakeAlias_c2⟩
def propsTakeAliasr (R : Nat → List AV → Option Res) (N : Nat) (s1 : List UInt8) : Option Res :=
  bif (((s1.length : Nat) : Int) : Int) == 0 then
    (some ⟨AV.tup [AV.str ([] : List UInt8), AV.int .i64 0, AV.bool false], false, []⟩)
  else
    need (decide (0 ≤ (0 : Int))) <|
    (s1[Int.toNat 0]?).bind fun c1 =>
    bif ((c1.toNat : Int) : Int) != 42 then
      (some ⟨AV.tup [AV.str ([] : List UInt8), AV.int .i64 0, AV.bool false], false, []⟩)
    else
      propsTakeAlias_L1 R N
        (fun s5 i4 =>
          need (decide (0 ≤ (i4 : Int)) && decide ((i4 : Int) ≤ ((s5.length : Nat) : Int))) <|
          need (decide (0 ≤ (1 : Int)) && decide ((1 : Int) ≤ ((Int.toNat i4 : Nat) : Int))) <|
          (R id_charsName [AV.str ((s5.take (Int.toNat i4)).drop (Int.toNat 1))]).bind fun r2 =>
          asB r2.v fun b2 =>
          bif !b2 then
            (some ⟨AV.tup [AV.str ([] : List UInt8), AV.int .i64 0, AV.bool false], false, []⟩)
          else
            some ⟨AV.tup [AV.str ((s5.take (Int.toNat i4)).drop (Int.toNat 1)), AV.int .i64 i4, AV.bool true], false, []⟩)
        N s1 1
theorem propsTakeAlias_eq (R : Nat → List AV → Option Res) (N : Nat) (s1 : List UInt8) : runF gl R N propsTakeAlias [AV.bytes s1] = propsTakeAliasr R N s1 := by
  refine Eq.trans (b :=
      bif (((s1.length : Nat) : Int) : Int) == 0 then
        (some ⟨AV.tup [AV.str ([] : List UInt8), AV.int .i64 0, AV.bool false], false, []⟩)
      else
        need (decide (0 ≤ (0 : Int))) <|
        (s1[Int.toNat 0]?).bind fun c1 =>
        bif ((c1.toNat : Int) : Int) != 42 then
          (some ⟨AV.tup [AV.str ([] : List UInt8), AV.int .i64 0, AV.bool false], false, []⟩)
        else
          rounds [0, 3] [] (evC gl R N propsTakeAlias_c0) (Kblock 0 (Kthen gl R N propsTakeAlias_c1 (Kret propsTakeAlias.rets []))) N ⟨[(0, .imm (AV.bytes s1)), (3, .imm (AV.int .i64 1))], []⟩) (by kernel_rfl) ?_
  simp (config := { maxSteps := 100000000 }) only [propsTakeAlias_L1_eq]
  kernel_rfl
theorem propsTakeAlias_fit : fitF Tryd.prog propsTakeAlias Tryd.f18 = true := by
  kernel_rfl
end Go.Proofs.YtmpjohnbddnehaaDoor.Vf
