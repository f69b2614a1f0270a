/- The code of the functions that the statements reach, as our evaluator takes it, and what each of them comes to, readably: printed by a program of ours. No condition. -/
import Derived.Test.YtpgcjcggnfagfaaDoorVf3
import Derived.Test.YtpgcjcggnfagfaaDoorChecked
import Derived.Lib.DecodeN
namespace Go.Proofs.YtpgcjcggnfagfaaDoor.Vf
set_option linter.unusedVariables false
set_option linter.unusedSimpArgs false
set_option maxRecDepth 100000

def g_maxLen : Nat := 2
def g_first : Nat := 0
def g_accept : Nat := 1
def gl : List (Nat × List AV) := [(g_first, (List.range 256).map fun c => AV.int .u8 (Lib.firstT c)), (g_accept, (List.range 32).map fun i => AV.int .u8 (bif Nat.beq (i % 2) 0 then Lib.accLo (i / 2) else Lib.accHi (i / 2))), (g_maxLen, [])]
def id_charsPrintable : Nat := 46
def id_charsRune : Nat := 45
def id_doubleDigits : Nat := 51
def id_doubleEscape : Nat := 32
def id_doubleHex : Nat := 16
def id_doubleNumber : Nat := 52
def id_doubleOne : Nat := 40
def id_doublePut : Nat := 22
def id_doubleRunes : Nat := 50
def id_doubleTake : Nat := 18
def id_internalBytealgCountString : Nat := 67
def id_internalBytealgCutover : Nat := 73
def id_internalBytealgHashStrString : Nat := 75
def id_internalBytealgIndexByteString : Nat := 65
def id_internalBytealgIndexRabinKarpString : Nat := 74
def id_internalBytealgIndexString : Nat := 72
def id_internalStringsliteIndex : Nat := 69
def id_internalStringsliteIndexByte : Nat := 58
def id_keepIntact : Nat := 25
def id_keepLend : Nat := 20
def id_keepText : Nat := 19
def id_keepWithin : Nat := 15
def id_law06DoubleEscapes : Nat := 4
def id_law06Wakes : Nat := 17
def id_stringsBuilderCopyCheckLow : Nat := 55
def id_stringsBuilderGrow : Nat := 62
def id_stringsBuilderGrowLow : Nat := 68
def id_stringsBuilderReset : Nat := 91
def id_stringsBuilderString : Nat := 41
def id_stringsBuilderWriteByte : Nat := 38
def id_stringsBuilderWriteString : Nat := 39
def id_stringsCount : Nat := 61
def id_stringsIndex : Nat := 63
def id_stringsIndexByte : Nat := 49
def id_stringsReplace : Nat := 57
def id_stringsReplaceAll : Nat := 47
def id_unicodeUtf8AppendRune : Nat := 33
def id_unicodeUtf8AppendRuneNonASCII : Nat := 53
def id_unicodeUtf8DecodeRune : Nat := 56
def id_unicodeUtf8DecodeRuneInString : Nat := 64
def id_unicodeUtf8DecodeRuneInStringSlow : Nat := 70
def id_unicodeUtf8DecodeRuneSlow : Nat := 60
def id_unicodeUtf8RuneCountInString : Nat := 66
def id_unicodeUtf8ValidString : Nat := 37
def id_unicodeUtf8WordString : Nat := 54
def asSBT {α : Type} (v : AV) (K : List UInt8 → Bool → Option α) : Option α :=
  asT v fun l1 => asC l1 fun x2 r2 => asS x2 fun a0 => asC r2 fun x3 r3 => asB x3 fun a1 => asN r3 <| K a0 a1
def asJBT {α : Type} (v : AV) (K : Int → Bool → Option α) : Option α :=
  asT v fun l1 => asC l1 fun x2 r2 => asI .u32 x2 fun a0 => asC r2 fun x3 r3 => asB x3 fun a1 => asN r3 <| K a0 a1
def asJIBT {α : Type} (v : AV) (K : Int → Int → Bool → Option α) : Option α :=
  asT v fun l1 => asC l1 fun x2 r2 => asI .i32 x2 fun a0 => asC r2 fun x3 r3 => asI .i64 x3 fun a1 => asC r3 fun x4 r4 => asB x4 fun a2 => asN r4 <| K a0 a1 a2
def asSIBT {α : Type} (v : AV) (K : List UInt8 → Int → Bool → Option α) : Option α :=
  asT v fun l1 => asC l1 fun x2 r2 => asS x2 fun a0 => asC r2 fun x3 r3 => asI .i64 x3 fun a1 => asC r3 fun x4 r4 => asB x4 fun a2 => asN r4 <| K a0 a1 a2
def asJIT {α : Type} (v : AV) (K : Int → Int → Option α) : Option α :=
  asT v fun l1 => asC l1 fun x2 r2 => asI .i32 x2 fun a0 => asC r2 fun x3 r3 => asI .i64 x3 fun a1 => asN r3 <| K a0 a1

def keepWithin_c0 : AC := .seq (.region [.op (some 4) none (.mv (.k (AV.int .i64 0)))]) (.seq (.seq (.region [.op (some 6) none (.mv (.t 1)), .op (some 7) none (.bin .lss (.t 6) (.k (AV.int .i64 1)))]) (.cond (.t 7) (.seq (.region [.op (some 4) none (.mv (.k (AV.int .i64 0)))]) (.ret [4] [])) (.skip))) (.seq (.region [.op (some 8) none (.mv (.t 0)), .op (some 9) none (.mv (.t 1)), .op (some 10) none (.bin .rem (.t 8) (.t 9)), .op (some 5) none (.mv (.t 10))]) (.seq (.seq (.region [.op (some 11) none (.mv (.t 5)), .op (some 12) none (.bin .lss (.t 11) (.k (AV.int .i64 0)))]) (.cond (.t 12) (.region [.op (some 13) none (.mv (.t 5)), .op (some 14) none (.mv (.t 1)), .op (some 15) none (.bin .add (.t 13) (.t 14)), .op (some 5) none (.mv (.t 15))]) (.skip))) (.seq (.region [.op (some 16) none (.mv (.t 5)), .op (some 4) none (.mv (.t 16))]) (.ret [4] [])))))
def keepWithin : AFunc := ⟨2, 17, [.tmp 4], keepWithin_c0⟩
def keepWithinr (R : Nat → List AV → Option Res) (N : Nat) (i1 : Int) (i2 : Int) : Option Res :=
  bif decide ((i2 : Int) < 1) then
    (some ⟨AV.int .i64 0, false, []⟩)
  else
    need (!decide (i2 = 0)) <|
    bif decide (((Int.tmod i1 i2) : Int) < 0) then
      (some ⟨AV.int .i64 (IntKind.i64.wrap ((Int.tmod i1 i2) + i2)), false, []⟩)
    else
      some ⟨AV.int .i64 (Int.tmod i1 i2), false, []⟩
theorem keepWithin_eq (R : Nat → List AV → Option Res) (N : Nat) (i1 : Int) (i2 : Int) : runF gl R N keepWithin [AV.int .i64 i1, AV.int .i64 i2] = keepWithinr R N i1 i2 := by
  kernel_rfl
theorem keepWithin_fit : fitF Tryd.prog keepWithin Tryd.f15 = true := by
  kernel_rfl

def doubleHex_L1s (R : Nat → List AV → Option Res) (N : Nat) (go : Int → List UInt8 → Int → Int → Option Res) (k0 : List UInt8 → Option Res) (i3 : Int) (s1 : List UInt8) (i4 : Int) (i5 : Int) : Option Res :=
  bif decide ((i5 : Int) < i4) then
    (need (decide (0 ≤ (IntKind.u32.wrap (BitVec.ofInt IntKind.u32.bits i3 &&& BitVec.ofInt IntKind.u32.bits 15).toNat : Int))) <|
    ((([48, 49, 50, 51, 52, 53, 54, 55, 56, 57, 65, 66, 67, 68, 69, 70] : List UInt8) : List UInt8)[Int.toNat (IntKind.u32.wrap (BitVec.ofInt IntKind.u32.bits i3 &&& BitVec.ofInt IntKind.u32.bits 15).toNat)]?).bind fun c1 =>
    need (decide (((Utf8.encode (c1.toNat : Int)).data.toList).length + s1.length ≤ 9223372036854775807)) <|
    need (!decide (4 < 0)) <|
    go (Int.fdiv i3 (2 ^ (min (Int.toNat 4) IntKind.u32.bits))) (((Utf8.encode (c1.toNat : Int)).data.toList) ++ s1) i4 (IntKind.i64.wrap (i5 + 1)))
  else
    k0 s1
def doubleHex_L1 (R : Nat → List AV → Option Res) (N : Nat) (k0 : List UInt8 → Option Res) : Nat → Int → List UInt8 → Int → Int → Option Res
  | 0, _, _, _, _ => none
  | n + 1, i3, s1, i4, i5 => doubleHex_L1s R N (doubleHex_L1 R N k0 n) k0 i3 s1 i4 i5
def doubleHex_c0 : AC := .seq (.region [.op (some 14) none (.bin .lss (.t 13) (.t 12))]) (.seq (.cond (.t 14) (.skip) (.exit 0 [5] [])) (.seq (.block 1 (.seq (.region [.op (some 15) none (.mv (.t 0)), .op (some 16) none (.bin .and (.t 15) (.k (AV.int .u32 15))), .op (some 17) none (.index (.k (AV.str ([48, 49, 50, 51, 52, 53, 54, 55, 56, 57, 65, 66, 67, 68, 69, 70] : List UInt8))) (.t 16)), .op (some 18) none (.cvRune (.t 17)), .op (some 19) none (.mv (.t 5)), .op (some 20) none (.bin .add (.t 18) (.t 19)), .op (some 5) none (.mv (.t 20))]) (.region [.op (some 21) none (.mv (.t 0)), .op (some 22) none (.bin .shr (.t 21) (.k (AV.int .u64 4))), .op (some 0) none (.mv (.t 22))]))) (.region [.op (some 23) none (.bin .add (.t 13) (.k (AV.int .i64 1))), .op (some 13) none (.mv (.t 23))])))
theorem doubleHex_L1s_eq (R : Nat → List AV → Option Res) (N : Nat) (K : Ex → St → Option Res) (W : St → Option Res) (i3 : Int) (s1 : List UInt8) (i4 : Int) (i5 : Int) :
    evC gl R N doubleHex_c0 (Kseq (fun st' => W (prune [0, 5, 12, 13] [] st')) K) ⟨[(0, .imm (AV.int .u32 i3)), (5, .imm (AV.str s1)), (12, .imm (AV.int .i64 i4)), (13, .imm (AV.int .i64 i5))], []⟩ =
    doubleHex_L1s R N (fun (i3 : Int) (s1 : List UInt8) (i4 : Int) (i5 : Int) => W ⟨[(0, .imm (AV.int .u32 i3)), (5, .imm (AV.str s1)), (12, .imm (AV.int .i64 i4)), (13, .imm (AV.int .i64 i5))], []⟩) (fun (s2 : List UInt8) => K (.exit 0) ⟨[(5, .imm (AV.str s2))], []⟩) i3 s1 i4 i5 := by
  kernel_rfl
theorem doubleHex_L1_eq (R : Nat → List AV → Option Res) (N : Nat) (K : Ex → St → Option Res) : ∀ (n : Nat) (i3 : Int) (s1 : List UInt8) (i4 : Int) (i5 : Int),
    rounds [0, 5, 12, 13] [] (evC gl R N doubleHex_c0) K n ⟨[(0, .imm (AV.int .u32 i3)), (5, .imm (AV.str s1)), (12, .imm (AV.int .i64 i4)), (13, .imm (AV.int .i64 i5))], []⟩ = doubleHex_L1 R N (fun (s2 : List UInt8) => K (.exit 0) ⟨[(5, .imm (AV.str s2))], []⟩) n i3 s1 i4 i5
  | 0, _, _, _, _ => rfl
  | n + 1, i3, s1, i4, i5 => (doubleHex_L1s_eq R N K (rounds [0, 5, 12, 13] [] (evC gl R N doubleHex_c0) K n) i3 s1 i4 i5).trans
      (congrArg (fun go => doubleHex_L1s R N go (fun (s2 : List UInt8) => K (.exit 0) ⟨[(5, .imm (AV.str s2))], []⟩) i3 s1 i4 i5) (funext fun i3 => funext fun s1 => funext fun i4 => funext fun i5 => doubleHex_L1_eq R N K n i3 s1 i4 i5))
def doubleHex_c1 : AC := .seq (.region [.op (some 24) none (.mv (.t 5)), .op (some 4) none (.mv (.t 24))]) (.ret [4] [])
def doubleHex_c2 : AC := .seq (.region [.op (some 4) none (.mv (.k (AV.str ([] : List UInt8))))]) (.seq (.seq (.region [.op (some 6) none (.mv (.t 1)), .op (some 7) none (.bin .lss (.t 6) (.k (AV.int .i64 0))), .op (some 8) none (.mv (.t 7)), .split 8, .op (some 9) (some (8, false)) (.mv (.t 1)), .op (some 10) (some (8, false)) (.bin .gtr (.t 9) (.k (AV.int .i64 8))), .op (some 11) none (.pick (.t 8) (.k (AV.bool true)) (.t 10))]) (.cond (.t 11) (.seq (.region [.op (some 4) none (.mv (.k (AV.str ([] : List UInt8))))]) (.ret [4] [])) (.skip))) (.seq (.region [.op (some 5) none (.mv (.k (AV.str ([] : List UInt8))))]) (.seq (.seq (.region [.op (some 12) none (.mv (.t 1)), .op (some 13) none (.mv (.k (AV.int .i64 0)))]) (.block 0 (.loop [0, 5, 12, 13] [] (doubleHex_c0)))) (doubleHex_c1))))
def doubleHex : AFunc := ⟨2, 25, [.tmp 4], doubleHex_c2⟩
def doubleHexr (R : Nat → List AV → Option Res) (N : Nat) (i1 : Int) (i2 : Int) : Option Res :=
  bif decide ((i2 : Int) < 0) then
    (some ⟨AV.str ([] : List UInt8), false, []⟩)
  else
    bif decide ((i2 : Int) > 8) then
      (some ⟨AV.str ([] : List UInt8), false, []⟩)
    else
      doubleHex_L1 R N
        (fun s4 =>
          some ⟨AV.str s4, false, []⟩)
        N i1 ([] : List UInt8) i2 0
theorem doubleHex_eq (R : Nat → List AV → Option Res) (N : Nat) (i1 : Int) (i2 : Int) : runF gl R N doubleHex [AV.int .u32 i1, AV.int .i64 i2] = doubleHexr R N i1 i2 := by
  refine Eq.trans (b :=
      bif decide ((i2 : Int) < 0) then
        (some ⟨AV.str ([] : List UInt8), false, []⟩)
      else
        bif decide ((i2 : Int) > 8) then
          (some ⟨AV.str ([] : List UInt8), false, []⟩)
        else
          rounds [0, 5, 12, 13] [] (evC gl R N doubleHex_c0) (Kblock 0 (Kthen gl R N doubleHex_c1 (Kret doubleHex.rets []))) N ⟨[(0, .imm (AV.int .u32 i1)), (5, .imm (AV.str ([] : List UInt8))), (12, .imm (AV.int .i64 i2)), (13, .imm (AV.int .i64 0))], []⟩) (by kernel_rfl) ?_
  simp (config := { maxSteps := 100000000 }) only [doubleHex_L1_eq]
  kernel_rfl
theorem doubleHex_fit : fitF Tryd.prog doubleHex Tryd.f16 = true := by
  kernel_rfl

def unicodeUtf8WordString_c0 : AC := .seq (.region [.op (some 2) none (.mv (.k (AV.int .u64 0)))]) (.seq (.cond (.k (AV.bool false)) (.seq (.regionD [] [] [.op (some 3) none (.mv (.t 0)), .op (some 4) none (.index (.t 3) (.k (AV.int .i64 0))), .op (some 5) none (.cvInt .u64 (.t 4)), .op (some 6) none (.mv (.t 0)), .op (some 7) none (.index (.t 6) (.k (AV.int .i64 1))), .op (some 8) none (.cvInt .u64 (.t 7)), .op (some 9) none (.bin .shl (.t 8) (.k (AV.int .u64 8))), .op (some 10) none (.bin .or (.t 5) (.t 9)), .op (some 11) none (.mv (.t 0)), .op (some 12) none (.index (.t 11) (.k (AV.int .i64 2))), .op (some 13) none (.cvInt .u64 (.t 12)), .op (some 14) none (.bin .shl (.t 13) (.k (AV.int .u64 16))), .op (some 15) none (.bin .or (.t 10) (.t 14)), .op (some 16) none (.mv (.t 0)), .op (some 17) none (.index (.t 16) (.k (AV.int .i64 3))), .op (some 18) none (.cvInt .u64 (.t 17)), .op (some 19) none (.bin .shl (.t 18) (.k (AV.int .u64 24))), .op (some 20) none (.bin .or (.t 15) (.t 19)), .op (some 2) none (.mv (.t 20))] []) (.ret [] [])) (.skip)) (.seq (.regionD [2] [] [.op (some 21) none (.mv (.t 0)), .op (some 22) none (.index (.t 21) (.k (AV.int .i64 0))), .op (some 23) none (.cvInt .u64 (.t 22)), .op (some 24) none (.mv (.t 0)), .op (some 25) none (.index (.t 24) (.k (AV.int .i64 1))), .op (some 26) none (.cvInt .u64 (.t 25)), .op (some 27) none (.bin .shl (.t 26) (.k (AV.int .u64 8))), .op (some 28) none (.bin .or (.t 23) (.t 27)), .op (some 29) none (.mv (.t 0)), .op (some 30) none (.index (.t 29) (.k (AV.int .i64 2))), .op (some 31) none (.cvInt .u64 (.t 30)), .op (some 32) none (.bin .shl (.t 31) (.k (AV.int .u64 16))), .op (some 33) none (.bin .or (.t 28) (.t 32)), .op (some 34) none (.mv (.t 0)), .op (some 35) none (.index (.t 34) (.k (AV.int .i64 3))), .op (some 36) none (.cvInt .u64 (.t 35)), .op (some 37) none (.bin .shl (.t 36) (.k (AV.int .u64 24))), .op (some 38) none (.bin .or (.t 33) (.t 37)), .op (some 39) none (.mv (.t 0)), .op (some 40) none (.index (.t 39) (.k (AV.int .i64 4))), .op (some 41) none (.cvInt .u64 (.t 40)), .op (some 42) none (.bin .shl (.t 41) (.k (AV.int .u64 32))), .op (some 43) none (.bin .or (.t 38) (.t 42)), .op (some 44) none (.mv (.t 0)), .op (some 45) none (.index (.t 44) (.k (AV.int .i64 5))), .op (some 46) none (.cvInt .u64 (.t 45)), .op (some 47) none (.bin .shl (.t 46) (.k (AV.int .u64 40))), .op (some 48) none (.bin .or (.t 43) (.t 47)), .op (some 49) none (.mv (.t 0)), .op (some 50) none (.index (.t 49) (.k (AV.int .i64 6))), .op (some 51) none (.cvInt .u64 (.t 50)), .op (some 52) none (.bin .shl (.t 51) (.k (AV.int .u64 48))), .op (some 53) none (.bin .or (.t 48) (.t 52)), .op (some 54) none (.mv (.t 0)), .op (some 55) none (.index (.t 54) (.k (AV.int .i64 7))), .op (some 56) none (.cvInt .u64 (.t 55)), .op (some 57) none (.bin .shl (.t 56) (.k (AV.int .u64 56))), .op (some 58) none (.bin .or (.t 53) (.t 57)), .op (some 2) none (.mv (.t 58))] []) (.ret [2] [])))
def unicodeUtf8WordString : AFunc := ⟨1, 59, [.tmp 2], unicodeUtf8WordString_c0⟩
def unicodeUtf8WordStringr (R : Nat → List AV → Option Res) (N : Nat) (s1 : List UInt8) : Option Res :=
  need (decide (0 ≤ (0 : Int))) <|
  (s1[Int.toNat 0]?).bind fun c1 =>
  need (decide (0 ≤ (1 : Int))) <|
  (s1[Int.toNat 1]?).bind fun c2 =>
  need (!decide (8 < 0)) <|
  need (decide (0 ≤ (2 : Int))) <|
  (s1[Int.toNat 2]?).bind fun c3 =>
  need (!decide (16 < 0)) <|
  need (decide (0 ≤ (3 : Int))) <|
  (s1[Int.toNat 3]?).bind fun c4 =>
  need (!decide (24 < 0)) <|
  need (decide (0 ≤ (4 : Int))) <|
  (s1[Int.toNat 4]?).bind fun c5 =>
  need (!decide (32 < 0)) <|
  need (decide (0 ≤ (5 : Int))) <|
  (s1[Int.toNat 5]?).bind fun c6 =>
  need (!decide (40 < 0)) <|
  need (decide (0 ≤ (6 : Int))) <|
  (s1[Int.toNat 6]?).bind fun c7 =>
  need (!decide (48 < 0)) <|
  need (decide (0 ≤ (7 : Int))) <|
  (s1[Int.toNat 7]?).bind fun c8 =>
  need (!decide (56 < 0)) <|
  some ⟨AV.int .u64 (IntKind.u64.wrap (BitVec.ofInt IntKind.u64.bits (IntKind.u64.wrap (BitVec.ofInt IntKind.u64.bits (IntKind.u64.wrap (BitVec.ofInt IntKind.u64.bits (IntKind.u64.wrap (BitVec.ofInt IntKind.u64.bits (IntKind.u64.wrap (BitVec.ofInt IntKind.u64.bits (IntKind.u64.wrap (BitVec.ofInt IntKind.u64.bits (IntKind.u64.wrap (BitVec.ofInt IntKind.u64.bits (IntKind.u64.wrap (c1.toNat : Int)) ||| BitVec.ofInt IntKind.u64.bits (IntKind.u64.wrap ((IntKind.u64.wrap (c2.toNat : Int)) * 2 ^ (min (Int.toNat 8) IntKind.u64.bits)))).toNat) ||| BitVec.ofInt IntKind.u64.bits (IntKind.u64.wrap ((IntKind.u64.wrap (c3.toNat : Int)) * 2 ^ (min (Int.toNat 16) IntKind.u64.bits)))).toNat) ||| BitVec.ofInt IntKind.u64.bits (IntKind.u64.wrap ((IntKind.u64.wrap (c4.toNat : Int)) * 2 ^ (min (Int.toNat 24) IntKind.u64.bits)))).toNat) ||| BitVec.ofInt IntKind.u64.bits (IntKind.u64.wrap ((IntKind.u64.wrap (c5.toNat : Int)) * 2 ^ (min (Int.toNat 32) IntKind.u64.bits)))).toNat) ||| BitVec.ofInt IntKind.u64.bits (IntKind.u64.wrap ((IntKind.u64.wrap (c6.toNat : Int)) * 2 ^ (min (Int.toNat 40) IntKind.u64.bits)))).toNat) ||| BitVec.ofInt IntKind.u64.bits (IntKind.u64.wrap ((IntKind.u64.wrap (c7.toNat : Int)) * 2 ^ (min (Int.toNat 48) IntKind.u64.bits)))).toNat) ||| BitVec.ofInt IntKind.u64.bits (IntKind.u64.wrap ((IntKind.u64.wrap (c8.toNat : Int)) * 2 ^ (min (Int.toNat 56) IntKind.u64.bits)))).toNat), false, []⟩
theorem unicodeUtf8WordString_eq (R : Nat → List AV → Option Res) (N : Nat) (s1 : List UInt8) : runF gl R N unicodeUtf8WordString [AV.str s1] = unicodeUtf8WordStringr R N s1 := by
  kernel_rfl
theorem unicodeUtf8WordString_fit : fitF Tryd.prog unicodeUtf8WordString Tryd.f54 = true := by
  kernel_rfl

def charsPrintable_c0 : AC := .seq (.region [.op (some 2) none (.mv (.k (AV.bool false)))]) (.seq (.block 0 (.seq (.region [.op (some 4) none (.mv (.t 0)), .op (some 5) none (.bin .lss (.t 4) (.k (AV.int .i32 32))), .op (some 3) none (.mv (.t 5))]) (.cond (.t 3) (.seq (.region [.op (some 6) none (.mv (.t 0)), .op (some 7) none (.bin .eql (.t 6) (.k (AV.int .i32 9))), .op (some 8) none (.mv (.t 7)), .split 8, .op (some 9) (some (8, false)) (.mv (.t 0)), .op (some 10) (some (8, false)) (.bin .eql (.t 9) (.k (AV.int .i32 10))), .op (some 11) none (.pick (.t 8) (.k (AV.bool true)) (.t 10)), .op (some 12) none (.mv (.t 11)), .split 12, .op (some 13) (some (12, false)) (.mv (.t 0)), .op (some 14) (some (12, false)) (.bin .eql (.t 13) (.k (AV.int .i32 13))), .op (some 15) none (.pick (.t 12) (.k (AV.bool true)) (.t 14)), .op (some 2) none (.mv (.t 15))]) (.ret [2] [])) (.seq (.region [.op (some 17) none (.mv (.t 0)), .op (some 18) none (.bin .gtr (.t 17) (.k (AV.int .i32 126))), .op (some 19) none (.mv (.t 18)), .split 19, .op (some 20) (some (19, true)) (.mv (.t 0)), .op (some 21) (some (19, true)) (.bin .lss (.t 20) (.k (AV.int .i32 160))), .op (some 22) none (.pick (.t 19) (.t 21) (.k (AV.bool false))), .op (some 16) none (.mv (.t 22))]) (.cond (.t 16) (.seq (.region [.op (some 23) none (.mv (.t 0)), .op (some 24) none (.bin .eql (.t 23) (.k (AV.int .i32 133))), .op (some 2) none (.mv (.t 24))]) (.ret [2] [])) (.seq (.region [.op (some 26) none (.mv (.t 0)), .op (some 27) none (.bin .geq (.t 26) (.k (AV.int .i32 55296))), .op (some 28) none (.mv (.t 27)), .split 28, .op (some 29) (some (28, true)) (.mv (.t 0)), .op (some 30) (some (28, true)) (.bin .leq (.t 29) (.k (AV.int .i32 57343))), .op (some 31) none (.pick (.t 28) (.t 30) (.k (AV.bool false))), .op (some 32) none (.mv (.t 31)), .split 32, .op (some 33) (some (32, false)) (.mv (.t 0)), .op (some 34) (some (32, false)) (.bin .eql (.t 33) (.k (AV.int .i32 65279))), .op (some 35) none (.pick (.t 32) (.k (AV.bool true)) (.t 34)), .op (some 36) none (.mv (.t 35)), .split 36, .op (some 37) (some (36, false)) (.mv (.t 0)), .op (some 38) (some (36, false)) (.bin .eql (.t 37) (.k (AV.int .i32 65534))), .op (some 39) none (.pick (.t 36) (.k (AV.bool true)) (.t 38)), .op (some 40) none (.mv (.t 39)), .split 40, .op (some 41) (some (40, false)) (.mv (.t 0)), .op (some 42) (some (40, false)) (.bin .eql (.t 41) (.k (AV.int .i32 65535))), .op (some 43) none (.pick (.t 40) (.k (AV.bool true)) (.t 42)), .op (some 25) none (.mv (.t 43))]) (.cond (.t 25) (.seq (.region [.op (some 2) none (.mv (.k (AV.bool false)))]) (.ret [2] [])) (.skip)))))))) (.seq (.region [.op (some 44) none (.mv (.t 0)), .op (some 45) none (.bin .leq (.t 44) (.k (AV.int .i32 1114111))), .op (some 2) none (.mv (.t 45))]) (.ret [2] [])))
def charsPrintable : AFunc := ⟨1, 46, [.tmp 2], charsPrintable_c0⟩
def charsPrintabler (R : Nat → List AV → Option Res) (N : Nat) (i1 : Int) : Option Res :=
  bif decide ((i1 : Int) < 32) then
    (bif (i1 : Int) == 9 then
      (some ⟨AV.bool true, false, []⟩)
    else
      bif (i1 : Int) == 10 then
        (some ⟨AV.bool true, false, []⟩)
      else
        some ⟨AV.bool ((i1 : Int) == 13), false, []⟩)
  else
    bif decide ((i1 : Int) > 126) then
      (bif decide ((i1 : Int) < 160) then
        (some ⟨AV.bool ((i1 : Int) == 133), false, []⟩)
      else
        bif decide ((i1 : Int) ≥ 55296) then
          (bif decide ((i1 : Int) ≤ 57343) then
            (some ⟨AV.bool false, false, []⟩)
          else
            bif (i1 : Int) == 65279 then
              (some ⟨AV.bool false, false, []⟩)
            else
              bif (i1 : Int) == 65534 then
                (some ⟨AV.bool false, false, []⟩)
              else
                bif (i1 : Int) == 65535 then
                  (some ⟨AV.bool false, false, []⟩)
                else
                  some ⟨AV.bool (decide ((i1 : Int) ≤ 1114111)), false, []⟩)
        else
          bif (i1 : Int) == 65279 then
            (some ⟨AV.bool false, false, []⟩)
          else
            bif (i1 : Int) == 65534 then
              (some ⟨AV.bool false, false, []⟩)
            else
              bif (i1 : Int) == 65535 then
                (some ⟨AV.bool false, false, []⟩)
              else
                some ⟨AV.bool (decide ((i1 : Int) ≤ 1114111)), false, []⟩)
    else
      bif decide ((i1 : Int) ≥ 55296) then
        (bif decide ((i1 : Int) ≤ 57343) then
          (some ⟨AV.bool false, false, []⟩)
        else
          bif (i1 : Int) == 65279 then
            (some ⟨AV.bool false, false, []⟩)
          else
            bif (i1 : Int) == 65534 then
              (some ⟨AV.bool false, false, []⟩)
            else
              bif (i1 : Int) == 65535 then
                (some ⟨AV.bool false, false, []⟩)
              else
                some ⟨AV.bool (decide ((i1 : Int) ≤ 1114111)), false, []⟩)
      else
        bif (i1 : Int) == 65279 then
          (some ⟨AV.bool false, false, []⟩)
        else
          bif (i1 : Int) == 65534 then
            (some ⟨AV.bool false, false, []⟩)
          else
            bif (i1 : Int) == 65535 then
              (some ⟨AV.bool false, false, []⟩)
            else
              some ⟨AV.bool (decide ((i1 : Int) ≤ 1114111)), false, []⟩
theorem charsPrintable_eq (R : Nat → List AV → Option Res) (N : Nat) (i1 : Int) : runF gl R N charsPrintable [AV.int .i32 i1] = charsPrintabler R N i1 := by
  kernel_rfl
theorem charsPrintable_fit : fitF Tryd.prog charsPrintable Tryd.f46 = true := by
  kernel_rfl

def doubleRunes_c0 : AC := .seq (.region [.op (some 0) none (.mv (.k (AV.row 1 [])))]) (.seq (.region [.op (some 1) none (.bslice [.k (AV.int .i32 0), .k (AV.int .i32 7), .k (AV.int .i32 8), .k (AV.int .i32 9), .k (AV.int .i32 10), .k (AV.int .i32 11), .k (AV.int .i32 12), .k (AV.int .i32 13), .k (AV.int .i32 27), .k (AV.int .i32 133), .k (AV.int .i32 160), .k (AV.int .i32 8232), .k (AV.int .i32 8233)] 1 false), .op (some 0) none (.mv (.t 1))]) (.ret [0] []))
def doubleRunes : AFunc := ⟨0, 2, [.tmp 0], doubleRunes_c0⟩
def doubleRunesr (R : Nat → List AV → Option Res) (N : Nat) : Option Res :=
  some ⟨AV.row 1 [AV.int .i32 0, AV.int .i32 7, AV.int .i32 8, AV.int .i32 9, AV.int .i32 10, AV.int .i32 11, AV.int .i32 12, AV.int .i32 13, AV.int .i32 27, AV.int .i32 133, AV.int .i32 160, AV.int .i32 8232, AV.int .i32 8233], false, []⟩
theorem doubleRunes_eq (R : Nat → List AV → Option Res) (N : Nat) : runF gl R N doubleRunes [] = doubleRunesr R N := by
  kernel_rfl
theorem doubleRunes_fit : fitF Tryd.prog doubleRunes Tryd.f50 = true := by
  kernel_rfl

def doubleOne_L1s (R : Nat → List AV → Option Res) (N : Nat) (go : Int → List AV → Int → Int → Option Res) (k0 : List UInt8 → Option Res) (k1 : Int → Option Res) (i2 : Int) (l2 : List AV) (i3 : Int) (i4 : Int) : Option Res :=
  bif decide ((i4 : Int) < i3) then
    (need (decide (0 ≤ (i4 : Int))) <|
    (l2[Int.toNat i4]?).bind fun e1 =>
    asI .i32 e1 fun i5 =>
    bif (i5 : Int) == i2 then
      (need (decide (0 ≤ (IntKind.i64.wrap (i4 + 1) : Int)) && decide ((IntKind.i64.wrap (i4 + 1) : Int) ≤ (((([48, 97, 98, 116, 110, 118, 102, 114, 101, 78, 95, 76, 80] : List UInt8) : List UInt8).length : Nat) : Int))) <|
      need (decide (0 ≤ (i4 : Int)) && decide ((i4 : Int) ≤ ((Int.toNat (IntKind.i64.wrap (i4 + 1)) : Nat) : Int))) <|
      need (decide ((([92] : List UInt8) : List UInt8).length + ((([48, 97, 98, 116, 110, 118, 102, 114, 101, 78, 95, 76, 80] : List UInt8).take (Int.toNat (IntKind.i64.wrap (i4 + 1)))).drop (Int.toNat i4) : List UInt8).length ≤ 9223372036854775807)) <|
      k0 (([92] : List UInt8) ++ ((([48, 97, 98, 116, 110, 118, 102, 114, 101, 78, 95, 76, 80] : List UInt8).take (Int.toNat (IntKind.i64.wrap (i4 + 1)))).drop (Int.toNat i4))))
    else
      go i2 l2 i3 (IntKind.i64.wrap (i4 + 1)))
  else
    k1 i2
def doubleOne_L1 (R : Nat → List AV → Option Res) (N : Nat) (k0 : List UInt8 → Option Res) (k1 : Int → Option Res) : Nat → Int → List AV → Int → Int → Option Res
  | 0, _, _, _, _ => none
  | n + 1, i2, l2, i3, i4 => doubleOne_L1s R N (doubleOne_L1 R N k0 k1 n) k0 k1 i2 l2 i3 i4
def doubleOne_c0 : AC := .seq (.region [.op (some 8) none (.bin .lss (.t 7) (.t 6))]) (.seq (.cond (.t 8) (.skip) (.exit 0 [0] [])) (.seq (.block 1 (.seq (.region [.op (some 9) none (.mv (.t 7)), .op (some 10) none (.iaddr (.t 5) (.t 7) 1 (.int .i32)), .op (some 11) none (.load (.t 10) none (.int .i32)), .op (some 3) none (.mv (.t 9)), .op (some 4) none (.mv (.t 11))]) (.seq (.region [.op (some 12) none (.mv (.t 4)), .op (some 13) none (.mv (.t 0)), .op (some 14) none (.bin .eql (.t 12) (.t 13))]) (.cond (.t 14) (.seq (.region [.op (some 15) none (.mv (.t 3)), .op (some 16) none (.mv (.t 3)), .op (some 17) none (.bin .add (.t 16) (.k (AV.int .i64 1))), .op (some 18) none (.sliceS (.k (AV.str ([48, 97, 98, 116, 110, 118, 102, 114, 101, 78, 95, 76, 80] : List UInt8))) (some (.t 15)) (some (.t 17))), .op (some 19) none (.bin .add (.k (AV.str ([92] : List UInt8))) (.t 18)), .op (some 2) none (.mv (.t 19))]) (.ret [2] [])) (.skip))))) (.region [.op (some 20) none (.bin .add (.t 7) (.k (AV.int .i64 1))), .op (some 7) none (.mv (.t 20))])))
theorem doubleOne_L1s_eq (R : Nat → List AV → Option Res) (N : Nat) (K : Ex → St → Option Res) (W : St → Option Res) (i2 : Int) (l2 : List AV) (i3 : Int) (i4 : Int) :
    evC gl R N doubleOne_c0 (Kseq (fun st' => W (prune [0, 5, 6, 7] [] st')) K) ⟨[(0, .imm (AV.int .i32 i2)), (5, .imm (AV.row 1 l2)), (6, .imm (AV.int .i64 i3)), (7, .imm (AV.int .i64 i4))], []⟩ =
    doubleOne_L1s R N (fun (i2 : Int) (l2 : List AV) (i3 : Int) (i4 : Int) => W ⟨[(0, .imm (AV.int .i32 i2)), (5, .imm (AV.row 1 l2)), (6, .imm (AV.int .i64 i3)), (7, .imm (AV.int .i64 i4))], []⟩) (fun (s1 : List UInt8) => K .ret ⟨[(2, .imm (AV.str s1))], []⟩) (fun (i6 : Int) => K (.exit 0) ⟨[(0, .imm (AV.int .i32 i6))], []⟩) i2 l2 i3 i4 := by
  kernel_rfl
theorem doubleOne_L1_eq (R : Nat → List AV → Option Res) (N : Nat) (K : Ex → St → Option Res) : ∀ (n : Nat) (i2 : Int) (l2 : List AV) (i3 : Int) (i4 : Int),
    rounds [0, 5, 6, 7] [] (evC gl R N doubleOne_c0) K n ⟨[(0, .imm (AV.int .i32 i2)), (5, .imm (AV.row 1 l2)), (6, .imm (AV.int .i64 i3)), (7, .imm (AV.int .i64 i4))], []⟩ = doubleOne_L1 R N (fun (s1 : List UInt8) => K .ret ⟨[(2, .imm (AV.str s1))], []⟩) (fun (i6 : Int) => K (.exit 0) ⟨[(0, .imm (AV.int .i32 i6))], []⟩) n i2 l2 i3 i4
  | 0, _, _, _, _ => rfl
  | n + 1, i2, l2, i3, i4 => (doubleOne_L1s_eq R N K (rounds [0, 5, 6, 7] [] (evC gl R N doubleOne_c0) K n) i2 l2 i3 i4).trans
      (congrArg (fun go => doubleOne_L1s R N go (fun (s1 : List UInt8) => K .ret ⟨[(2, .imm (AV.str s1))], []⟩) (fun (i6 : Int) => K (.exit 0) ⟨[(0, .imm (AV.int .i32 i6))], []⟩) i2 l2 i3 i4) (funext fun i2 => funext fun l2 => funext fun i3 => funext fun i4 => doubleOne_L1_eq R N K n i2 l2 i3 i4))
def doubleOne_c1 : AC := .seq (.block 2 (.seq (.region [.op (some 22) none (.mv (.t 0)), .op (some 23) none (.bin .eql (.t 22) (.k (AV.int .i32 34))), .op (some 24) none (.mv (.t 23)), .split 24, .op (some 25) (some (24, false)) (.mv (.t 0)), .op (some 26) (some (24, false)) (.bin .eql (.t 25) (.k (AV.int .i32 92))), .op (some 27) none (.pick (.t 24) (.k (AV.bool true)) (.t 26)), .op (some 21) none (.mv (.t 27))]) (.cond (.t 21) (.seq (.region [.op (some 28) none (.mv (.t 0)), .op (some 29) none (.cvRune (.t 28)), .op (some 30) none (.bin .add (.k (AV.str ([92] : List UInt8))) (.t 29)), .op (some 2) none (.mv (.t 30))]) (.ret [2] [])) (.seq (.region [.op (some 32) none (.mv (.t 0)), .op (some 33) none (.call id_charsPrintable [.t 32] (.bool)), .op (some 31) none (.mv (.t 33))]) (.cond (.t 31) (.seq (.region [.op (some 34) none (.mv (.t 0)), .op (some 35) none (.cvRune (.t 34)), .op (some 2) none (.mv (.t 35))]) (.ret [2] [])) (.seq (.region [.op (some 37) none (.mv (.t 0)), .op (some 38) none (.bin .lss (.t 37) (.k (AV.int .i32 256))), .op (some 36) none (.mv (.t 38))]) (.cond (.t 36) (.seq (.region [.op (some 39) none (.mv (.t 0)), .op (some 40) none (.cvInt .u32 (.t 39)), .op (some 41) none (.call id_doubleHex [.t 40, .k (AV.int .i64 2)] (.str)), .op (some 42) none (.bin .add (.k (AV.str ([92, 120] : List UInt8))) (.t 41)), .op (some 2) none (.mv (.t 42))]) (.ret [2] [])) (.seq (.region [.op (some 44) none (.mv (.t 0)), .op (some 45) none (.bin .lss (.t 44) (.k (AV.int .i32 65536))), .op (some 43) none (.mv (.t 45))]) (.cond (.t 43) (.seq (.region [.op (some 46) none (.mv (.t 0)), .op (some 47) none (.cvInt .u32 (.t 46)), .op (some 48) none (.call id_doubleHex [.t 47, .k (AV.int .i64 4)] (.str)), .op (some 49) none (.bin .add (.k (AV.str ([92, 117] : List UInt8))) (.t 48)), .op (some 2) none (.mv (.t 49))]) (.ret [2] [])) (.skip)))))))))) (.seq (.region [.op (some 50) none (.mv (.t 0)), .op (some 51) none (.cvInt .u32 (.t 50)), .op (some 52) none (.call id_doubleHex [.t 51, .k (AV.int .i64 8)] (.str)), .op (some 53) none (.bin .add (.k (AV.str ([92, 85] : List UInt8))) (.t 52)), .op (some 2) none (.mv (.t 53))]) (.ret [2] []))
def doubleOne_c2 : AC := .seq (.region [.op (some 2) none (.mv (.k (AV.str ([] : List UInt8))))]) (.seq (.seq (.region [.op (some 5) none (.call id_doubleRunes [] (.row 1)), .op (some 6) none (.len (.t 5) false), .op (some 7) none (.mv (.k (AV.int .i64 0)))]) (.block 0 (.loop [0, 5, 6, 7] [] (doubleOne_c0)))) (doubleOne_c1))
def doubleOne : AFunc := ⟨1, 54, [.tmp 2], doubleOne_c2⟩
def doubleOner (R : Nat → List AV → Option Res) (N : Nat) (i1 : Int) : Option Res :=
  (R id_doubleRunes []).bind fun r1 =>
  asR 1 r1.v fun l1 =>
  doubleOne_L1 R N
    (fun s3 =>
      some ⟨AV.str s3, false, []⟩)
    (fun i8 =>
      bif (i8 : Int) == 34 then
        (need (decide ((([92] : List UInt8) : List UInt8).length + ((Utf8.encode i8).data.toList).length ≤ 9223372036854775807)) <|
        some ⟨AV.str (([92] : List UInt8) ++ ((Utf8.encode i8).data.toList)), false, []⟩)
      else
        bif (i8 : Int) == 92 then
          (need (decide ((([92] : List UInt8) : List UInt8).length + ((Utf8.encode i8).data.toList).length ≤ 9223372036854775807)) <|
          some ⟨AV.str (([92] : List UInt8) ++ ((Utf8.encode i8).data.toList)), false, []⟩)
        else
          (R id_charsPrintable [AV.int .i32 i8]).bind fun r2 =>
          asB r2.v fun b1 =>
          bif b1 then
            (some ⟨AV.str ((Utf8.encode i8).data.toList), false, []⟩)
          else
            bif decide ((i8 : Int) < 256) then
              ((R id_doubleHex [AV.int .u32 (IntKind.u32.wrap i8), AV.int .i64 2]).bind fun r3 =>
              asS r3.v fun s4 =>
              need (decide ((([92, 120] : List UInt8) : List UInt8).length + s4.length ≤ 9223372036854775807)) <|
              some ⟨AV.str (([92, 120] : List UInt8) ++ s4), false, []⟩)
            else
              bif decide ((i8 : Int) < 65536) then
                ((R id_doubleHex [AV.int .u32 (IntKind.u32.wrap i8), AV.int .i64 4]).bind fun r4 =>
                asS r4.v fun s5 =>
                need (decide ((([92, 117] : List UInt8) : List UInt8).length + s5.length ≤ 9223372036854775807)) <|
                some ⟨AV.str (([92, 117] : List UInt8) ++ s5), false, []⟩)
              else
                (R id_doubleHex [AV.int .u32 (IntKind.u32.wrap i8), AV.int .i64 8]).bind fun r5 =>
                asS r5.v fun s6 =>
                need (decide ((([92, 85] : List UInt8) : List UInt8).length + s6.length ≤ 9223372036854775807)) <|
                some ⟨AV.str (([92, 85] : List UInt8) ++ s6), false, []⟩)
    N i1 l1 ((l1.length : Nat) : Int) 0
theorem doubleOne_eq (R : Nat → List AV → Option Res) (N : Nat) (i1 : Int) : runF gl R N doubleOne [AV.int .i32 i1] = doubleOner R N i1 := by
  refine Eq.trans (b :=
      (R id_doubleRunes []).bind fun r1 =>
      asR 1 r1.v fun l1 =>
      rounds [0, 5, 6, 7] [] (evC gl R N doubleOne_c0) (Kblock 0 (Kthen gl R N doubleOne_c1 (Kret doubleOne.rets []))) N ⟨[(0, .imm (AV.int .i32 i1)), (5, .imm (AV.row 1 l1)), (6, .imm (AV.int .i64 ((l1.length : Nat) : Int))), (7, .imm (AV.int .i64 0))], []⟩) (by kernel_rfl) ?_
  simp (config := { maxSteps := 100000000 }) only [doubleOne_L1_eq]
  kernel_rfl
theorem doubleOne_fit : fitF Tryd.prog doubleOne Tryd.f40 = true := by
  kernel_rfl

def law06Wakes_c0 : AC := .seq (.region [.op (some 0) none (.mv (.k (AV.bool false)))]) (.seq (.region [.op (some 4) none (.call id_doublePut [.k (AV.str ([97, 10] : List UInt8))] (.tup [.str, .bool])), .op (some 3) none (.mv (.t 4)), .op (some 5) none (.extract (.t 3) 0), .op (some 6) none (.extract (.t 3) 1), .op (some 1) none (.mv (.t 5)), .op (some 2) none (.mv (.t 6))]) (.seq (.region [.op (some 7) none (.mv (.t 2)), .op (some 8) none (.mv (.t 7)), .split 8, .op (some 9) (some (8, true)) (.mv (.t 1)), .op (some 10) (some (8, true)) (.bin .eql (.t 9) (.k (AV.str ([34, 97, 92, 110, 34] : List UInt8)))), .op (some 11) none (.pick (.t 8) (.t 10) (.k (AV.bool false))), .op (some 0) none (.mv (.t 11))]) (.ret [0] [])))
def law06Wakes : AFunc := ⟨0, 12, [.tmp 0], law06Wakes_c0⟩
def law06Wakesr (R : Nat → List AV → Option Res) (N : Nat) : Option Res :=
  (R id_doublePut [AV.str ([97, 10] : List UInt8)]).bind fun r1 =>
  asSBT r1.v fun s1 b1 =>
  bif b1 then
    (some ⟨AV.bool (s1 == ([34, 97, 92, 110, 34] : List UInt8)), false, []⟩)
  else
    some ⟨AV.bool false, false, []⟩
theorem law06Wakes_eq (R : Nat → List AV → Option Res) (N : Nat) : runF gl R N law06Wakes [] = law06Wakesr R N := by
  kernel_rfl
theorem law06Wakes_fit : fitF Tryd.prog law06Wakes Tryd.f17 = true := by
  kernel_rfl

def internalStringsliteIndexByte_c0 : AC := .seq (.region [.op (some 4) none (.mv (.k (AV.int .i64 0)))]) (.seq (.region [.op (some 5) none (.mv (.t 0)), .op (some 6) none (.mv (.t 1)), .op (some 7) none (.call id_internalBytealgIndexByteString [.t 5, .t 6] (.int .i64)), .op (some 4) none (.mv (.t 7))]) (.ret [4] []))
def internalStringsliteIndexByte : AFunc := ⟨2, 8, [.tmp 4], internalStringsliteIndexByte_c0⟩
def internalStringsliteIndexByter (R : Nat → List AV → Option Res) (N : Nat) (s1 : List UInt8) (i1 : Int) : Option Res :=
  (R id_internalBytealgIndexByteString [AV.str s1, AV.int .u8 i1]).bind fun r1 =>
  asI .i64 r1.v fun i2 =>
  some ⟨AV.int .i64 i2, false, []⟩
theorem internalStringsliteIndexByte_eq (R : Nat → List AV → Option Res) (N : Nat) (s1 : List UInt8) (i1 : Int) : runF gl R N internalStringsliteIndexByte [AV.str s1, AV.int .u8 i1] = internalStringsliteIndexByter R N s1 i1 := by
  kernel_rfl
theorem internalStringsliteIndexByte_fit : fitF Tryd.prog internalStringsliteIndexByte Tryd.f58 = true := by
  kernel_rfl

def stringsIndexByte_c0 : AC := .seq (.region [.op (some 4) none (.mv (.k (AV.int .i64 0)))]) (.seq (.region [.op (some 5) none (.mv (.t 0)), .op (some 6) none (.mv (.t 1)), .op (some 7) none (.call id_internalStringsliteIndexByte [.t 5, .t 6] (.int .i64)), .op (some 4) none (.mv (.t 7))]) (.ret [4] []))
def stringsIndexByte : AFunc := ⟨2, 8, [.tmp 4], stringsIndexByte_c0⟩
def stringsIndexByter (R : Nat → List AV → Option Res) (N : Nat) (s1 : List UInt8) (i1 : Int) : Option Res :=
  (R id_internalStringsliteIndexByte [AV.str s1, AV.int .u8 i1]).bind fun r1 =>
  asI .i64 r1.v fun i2 =>
  some ⟨AV.int .i64 i2, false, []⟩
theorem stringsIndexByte_eq (R : Nat → List AV → Option Res) (N : Nat) (s1 : List UInt8) (i1 : Int) : runF gl R N stringsIndexByte [AV.str s1, AV.int .u8 i1] = stringsIndexByter R N s1 i1 := by
  kernel_rfl
theorem stringsIndexByte_fit : fitF Tryd.prog stringsIndexByte Tryd.f49 = true := by
  kernel_rfl

def doubleDigits_c0 : AC := .seq (.region [.op (some 2) none (.mv (.k (AV.int .i64 0)))]) (.seq (.seq (.region [.op (some 3) none (.mv (.t 0))]) (.block 0 (.seq (.region [.op (some 5) none (.bin .eql (.t 3) (.k (AV.int .u8 120))), .op (some 4) none (.mv (.t 5))]) (.cond (.t 4) (.seq (.region [.op (some 2) none (.mv (.k (AV.int .i64 2)))]) (.ret [2] [])) (.seq (.region [.op (some 7) none (.bin .eql (.t 3) (.k (AV.int .u8 117))), .op (some 6) none (.mv (.t 7))]) (.cond (.t 6) (.seq (.region [.op (some 2) none (.mv (.k (AV.int .i64 4)))]) (.ret [2] [])) (.seq (.region [.op (some 9) none (.bin .eql (.t 3) (.k (AV.int .u8 85))), .op (some 8) none (.mv (.t 9))]) (.cond (.t 8) (.seq (.region [.op (some 2) none (.mv (.k (AV.int .i64 8)))]) (.ret [2] [])) (.skip))))))))) (.seq (.region [.op (some 2) none (.mv (.k (AV.int .i64 0)))]) (.ret [2] [])))
def doubleDigits : AFunc := ⟨1, 10, [.tmp 2], doubleDigits_c0⟩
def doubleDigitsr (R : Nat → List AV → Option Res) (N : Nat) (i1 : Int) : Option Res :=
  bif (i1 : Int) == 120 then
    (some ⟨AV.int .i64 2, false, []⟩)
  else
    bif (i1 : Int) == 117 then
      (some ⟨AV.int .i64 4, false, []⟩)
    else
      bif (i1 : Int) == 85 then
        (some ⟨AV.int .i64 8, false, []⟩)
      else
        some ⟨AV.int .i64 0, false, []⟩
theorem doubleDigits_eq (R : Nat → List AV → Option Res) (N : Nat) (i1 : Int) : runF gl R N doubleDigits [AV.int .u8 i1] = doubleDigitsr R N i1 := by
  kernel_rfl
theorem doubleDigits_fit : fitF Tryd.prog doubleDigits Tryd.f51 = true := by
  kernel_rfl

def doubleNumber_L1s (R : Nat → List AV → Option Res) (N : Nat) (go : Int → List UInt8 → Int → Int → Option Res) (k0 : Int → Bool → Option Res) (k1 : Int → Option Res) (i2 : Int) (s2 : List UInt8) (i3 : Int) (i4 : Int) : Option Res :=
  bif decide ((i4 : Int) < i3) then
    (need (decide (0 ≤ (i4 : Int))) <|
    (s2[Int.toNat i4]?).bind fun c1 =>
    bif decide (((c1.toNat : Int) : Int) ≥ 97) then
      (bif decide (((c1.toNat : Int) : Int) ≤ 102) then
        ((R id_stringsIndexByte [AV.str ([48, 49, 50, 51, 52, 53, 54, 55, 56, 57, 65, 66, 67, 68, 69, 70] : List UInt8), AV.int .u8 (IntKind.u8.wrap ((IntKind.u8.wrap ((c1.toNat : Int) - 97)) + 65))]).bind fun r1 =>
        asI .i64 r1.v fun i5 =>
        bif decide ((i5 : Int) < 0) then
          (k0 0 false)
        else
          need (!decide (4 < 0)) <|
          go (IntKind.u32.wrap (BitVec.ofInt IntKind.u32.bits (IntKind.u32.wrap (i2 * 2 ^ (min (Int.toNat 4) IntKind.u32.bits))) ||| BitVec.ofInt IntKind.u32.bits (IntKind.u32.wrap i5)).toNat) s2 i3 (IntKind.i64.wrap (i4 + 1)))
      else
        (R id_stringsIndexByte [AV.str ([48, 49, 50, 51, 52, 53, 54, 55, 56, 57, 65, 66, 67, 68, 69, 70] : List UInt8), AV.int .u8 (c1.toNat : Int)]).bind fun r2 =>
        asI .i64 r2.v fun i6 =>
        bif decide ((i6 : Int) < 0) then
          (k0 0 false)
        else
          need (!decide (4 < 0)) <|
          go (IntKind.u32.wrap (BitVec.ofInt IntKind.u32.bits (IntKind.u32.wrap (i2 * 2 ^ (min (Int.toNat 4) IntKind.u32.bits))) ||| BitVec.ofInt IntKind.u32.bits (IntKind.u32.wrap i6)).toNat) s2 i3 (IntKind.i64.wrap (i4 + 1)))
    else
      (R id_stringsIndexByte [AV.str ([48, 49, 50, 51, 52, 53, 54, 55, 56, 57, 65, 66, 67, 68, 69, 70] : List UInt8), AV.int .u8 (c1.toNat : Int)]).bind fun r3 =>
      asI .i64 r3.v fun i7 =>
      bif decide ((i7 : Int) < 0) then
        (k0 0 false)
      else
        need (!decide (4 < 0)) <|
        go (IntKind.u32.wrap (BitVec.ofInt IntKind.u32.bits (IntKind.u32.wrap (i2 * 2 ^ (min (Int.toNat 4) IntKind.u32.bits))) ||| BitVec.ofInt IntKind.u32.bits (IntKind.u32.wrap i7)).toNat) s2 i3 (IntKind.i64.wrap (i4 + 1)))
  else
    k1 i2
def doubleNumber_L1 (R : Nat → List AV → Option Res) (N : Nat) (k0 : Int → Bool → Option Res) (k1 : Int → Option Res) : Nat → Int → List UInt8 → Int → Int → Option Res
  | 0, _, _, _, _ => none
  | n + 1, i2, s2, i3, i4 => doubleNumber_L1s R N (doubleNumber_L1 R N k0 k1 n) k0 k1 i2 s2 i3 i4
def doubleNumber_c0 : AC := .seq (.region [.op (some 19) none (.bin .lss (.t 18) (.t 17))]) (.seq (.cond (.t 19) (.skip) (.exit 0 [6] [])) (.seq (.block 1 (.seq (.region [.op (some 20) none (.iaddr (.t 16) (.t 18) 1 (.int .u8)), .op (some 21) none (.load (.t 20) none (.int .u8)), .op (some 8) none (.mv (.t 21))]) (.seq (.seq (.region [.op (some 22) none (.mv (.t 8)), .op (some 23) none (.bin .geq (.t 22) (.k (AV.int .u8 97))), .op (some 24) none (.mv (.t 23)), .split 24, .op (some 25) (some (24, true)) (.mv (.t 8)), .op (some 26) (some (24, true)) (.bin .leq (.t 25) (.k (AV.int .u8 102))), .op (some 27) none (.pick (.t 24) (.t 26) (.k (AV.bool false)))]) (.cond (.t 27) (.region [.op (some 28) none (.mv (.t 8)), .op (some 29) none (.bin .sub (.t 28) (.k (AV.int .u8 97))), .op (some 30) none (.bin .add (.t 29) (.k (AV.int .u8 65))), .op (some 8) none (.mv (.t 30))]) (.skip))) (.seq (.region [.op (some 31) none (.mv (.t 8)), .op (some 32) none (.call id_stringsIndexByte [.k (AV.str ([48, 49, 50, 51, 52, 53, 54, 55, 56, 57, 65, 66, 67, 68, 69, 70] : List UInt8)), .t 31] (.int .i64)), .op (some 9) none (.mv (.t 32))]) (.seq (.seq (.region [.op (some 33) none (.mv (.t 9)), .op (some 34) none (.bin .lss (.t 33) (.k (AV.int .i64 0)))]) (.cond (.t 34) (.seq (.region [.op (some 4) none (.mv (.k (AV.int .u32 0))), .op (some 5) none (.mv (.k (AV.bool false)))]) (.ret [4, 5] [])) (.skip))) (.region [.op (some 35) none (.mv (.t 6)), .op (some 36) none (.bin .shl (.t 35) (.k (AV.int .u64 4))), .op (some 37) none (.mv (.t 9)), .op (some 38) none (.cvInt .u32 (.t 37)), .op (some 39) none (.bin .or (.t 36) (.t 38)), .op (some 6) none (.mv (.t 39))])))))) (.region [.op (some 40) none (.bin .add (.t 18) (.k (AV.int .i64 1))), .op (some 18) none (.mv (.t 40))])))
theorem doubleNumber_L1s_eq (R : Nat → List AV → Option Res) (N : Nat) (K : Ex → St → Option Res) (W : St → Option Res) (i2 : Int) (s2 : List UInt8) (i3 : Int) (i4 : Int) :
    evC gl R N doubleNumber_c0 (Kseq (fun st' => W (prune [6, 16, 17, 18] [] st')) K) ⟨[(6, .imm (AV.int .u32 i2)), (16, .imm (AV.bytes s2)), (17, .imm (AV.int .i64 i3)), (18, .imm (AV.int .i64 i4))], []⟩ =
    doubleNumber_L1s R N (fun (i2 : Int) (s2 : List UInt8) (i3 : Int) (i4 : Int) => W ⟨[(6, .imm (AV.int .u32 i2)), (16, .imm (AV.bytes s2)), (17, .imm (AV.int .i64 i3)), (18, .imm (AV.int .i64 i4))], []⟩) (fun (i8 : Int) (b1 : Bool) => K .ret ⟨[(4, .imm (AV.int .u32 i8)), (5, .imm (AV.bool b1))], []⟩) (fun (i9 : Int) => K (.exit 0) ⟨[(6, .imm (AV.int .u32 i9))], []⟩) i2 s2 i3 i4 := by
  kernel_rfl
theorem doubleNumber_L1_eq (R : Nat → List AV → Option Res) (N : Nat) (K : Ex → St → Option Res) : ∀ (n : Nat) (i2 : Int) (s2 : List UInt8) (i3 : Int) (i4 : Int),
    rounds [6, 16, 17, 18] [] (evC gl R N doubleNumber_c0) K n ⟨[(6, .imm (AV.int .u32 i2)), (16, .imm (AV.bytes s2)), (17, .imm (AV.int .i64 i3)), (18, .imm (AV.int .i64 i4))], []⟩ = doubleNumber_L1 R N (fun (i8 : Int) (b1 : Bool) => K .ret ⟨[(4, .imm (AV.int .u32 i8)), (5, .imm (AV.bool b1))], []⟩) (fun (i9 : Int) => K (.exit 0) ⟨[(6, .imm (AV.int .u32 i9))], []⟩) n i2 s2 i3 i4
  | 0, _, _, _, _ => rfl
  | n + 1, i2, s2, i3, i4 => (doubleNumber_L1s_eq R N K (rounds [6, 16, 17, 18] [] (evC gl R N doubleNumber_c0) K n) i2 s2 i3 i4).trans
      (congrArg (fun go => doubleNumber_L1s R N go (fun (i8 : Int) (b1 : Bool) => K .ret ⟨[(4, .imm (AV.int .u32 i8)), (5, .imm (AV.bool b1))], []⟩) (fun (i9 : Int) => K (.exit 0) ⟨[(6, .imm (AV.int .u32 i9))], []⟩) i2 s2 i3 i4) (funext fun i2 => funext fun s2 => funext fun i3 => funext fun i4 => doubleNumber_L1_eq R N K n i2 s2 i3 i4))
def doubleNumber_c1 : AC := .seq (.region [.op (some 41) none (.mv (.t 6)), .op (some 4) none (.mv (.t 41)), .op (some 5) none (.mv (.k (AV.bool true)))]) (.ret [4, 5] [])
def doubleNumber_c2 : AC := .seq (.region [.op (some 4) none (.mv (.k (AV.int .u32 0))), .op (some 5) none (.mv (.k (AV.bool false)))]) (.seq (.seq (.region [.op (some 10) none (.mv (.t 0)), .op (some 11) none (.len (.t 10) false), .op (some 12) none (.mv (.t 1)), .op (some 13) none (.bin .lss (.t 11) (.t 12))]) (.cond (.t 13) (.seq (.region [.op (some 4) none (.mv (.k (AV.int .u32 0))), .op (some 5) none (.mv (.k (AV.bool false)))]) (.ret [4, 5] [])) (.skip))) (.seq (.region [.op (some 6) none (.mv (.k (AV.int .u32 0)))]) (.seq (.seq (.region [.op (some 14) none (.mv (.t 0)), .op (some 15) none (.mv (.t 1)), .op (some 16) none (.slice (.t 14) none (some (.t 15)) 1), .op (some 17) none (.len (.t 16) false), .op (some 18) none (.mv (.k (AV.int .i64 0)))]) (.block 0 (.loop [6, 16, 17, 18] [] (doubleNumber_c0)))) (doubleNumber_c1))))
def doubleNumber : AFunc := ⟨2, 42, [.tmp 4, .tmp 5], doubleNumber_c2⟩
def doubleNumberr (R : Nat → List AV → Option Res) (N : Nat) (s1 : List UInt8) (i1 : Int) : Option Res :=
  bif decide ((((s1.length : Nat) : Int) : Int) < i1) then
    (some ⟨AV.tup [AV.int .u32 0, AV.bool false], false, []⟩)
  else
    need (decide (0 ≤ (i1 : Int)) && decide ((i1 : Int) ≤ ((s1.length : Nat) : Int))) <|
    doubleNumber_L1 R N
      (fun i12 b3 =>
        some ⟨AV.tup [AV.int .u32 i12, AV.bool b3], false, []⟩)
      (fun i13 =>
        some ⟨AV.tup [AV.int .u32 i13, AV.bool true], false, []⟩)
      N 0 ((s1.take (Int.toNat i1)).drop 0) ((((s1.take (Int.toNat i1)).drop 0).length : Nat) : Int) 0
theorem doubleNumber_eq (R : Nat → List AV → Option Res) (N : Nat) (s1 : List UInt8) (i1 : Int) : runF gl R N doubleNumber [AV.bytes s1, AV.int .i64 i1] = doubleNumberr R N s1 i1 := by
  refine Eq.trans (b :=
      bif decide ((((s1.length : Nat) : Int) : Int) < i1) then
        (some ⟨AV.tup [AV.int .u32 0, AV.bool false], false, []⟩)
      else
        need (decide (0 ≤ (i1 : Int)) && decide ((i1 : Int) ≤ ((s1.length : Nat) : Int))) <|
        rounds [6, 16, 17, 18] [] (evC gl R N doubleNumber_c0) (Kblock 0 (Kthen gl R N doubleNumber_c1 (Kret doubleNumber.rets []))) N ⟨[(6, .imm (AV.int .u32 0)), (16, .imm (AV.bytes ((s1.take (Int.toNat i1)).drop 0))), (17, .imm (AV.int .i64 ((((s1.take (Int.toNat i1)).drop 0).length : Nat) : Int))), (18, .imm (AV.int .i64 0))], []⟩) (by kernel_rfl) ?_
  simp (config := { maxSteps := 100000000 }) only [doubleNumber_L1_eq]
  kernel_rfl
theorem doubleNumber_fit : fitF Tryd.prog doubleNumber Tryd.f52 = true := by
  kernel_rfl

def doubleEscape_c0 : AC := .seq (.region [.op (some 2) none (.mv (.k (AV.int .i32 0))), .op (some 3) none (.mv (.k (AV.int .i64 0))), .op (some 4) none (.mv (.k (AV.bool false)))]) (.seq (.seq (.region [.op (some 9) none (.mv (.t 0)), .op (some 10) none (.len (.t 9) false), .op (some 11) none (.bin .eql (.t 10) (.k (AV.int .i64 0)))]) (.cond (.t 11) (.seq (.region [.op (some 2) none (.mv (.k (AV.int .i32 0))), .op (some 3) none (.mv (.k (AV.int .i64 0))), .op (some 4) none (.mv (.k (AV.bool false)))]) (.ret [2, 3, 4] [])) (.skip))) (.seq (.seq (.region [.op (some 12) none (.mv (.t 0)), .op (some 13) none (.iaddr (.t 12) (.k (AV.int .i64 0)) 1 (.int .u8)), .op (some 14) none (.load (.t 13) none (.int .u8)), .op (some 15) none (.call id_stringsIndexByte [.k (AV.str ([48, 97, 98, 116, 110, 118, 102, 114, 101, 78, 95, 76, 80] : List UInt8)), .t 14] (.int .i64)), .op (some 5) none (.mv (.t 15))]) (.seq (.region [.op (some 16) none (.mv (.t 5)), .op (some 17) none (.bin .geq (.t 16) (.k (AV.int .i64 0)))]) (.cond (.t 17) (.seq (.region [.op (some 18) none (.call id_doubleRunes [] (.row 1)), .op (some 19) none (.mv (.t 5)), .op (some 20) none (.iaddr (.t 18) (.t 19) 1 (.int .i32)), .op (some 21) none (.load (.t 20) none (.int .i32)), .op (some 2) none (.mv (.t 21)), .op (some 3) none (.mv (.k (AV.int .i64 1))), .op (some 4) none (.mv (.k (AV.bool true)))]) (.ret [2, 3, 4] [])) (.skip)))) (.seq (.seq (.region [.op (some 22) none (.mv (.t 0)), .op (some 23) none (.iaddr (.t 22) (.k (AV.int .i64 0)) 1 (.int .u8)), .op (some 24) none (.load (.t 23) none (.int .u8)), .op (some 25) none (.call id_stringsIndexByte [.k (AV.str ([34, 47, 92, 32] : List UInt8)), .t 24] (.int .i64)), .op (some 26) none (.bin .geq (.t 25) (.k (AV.int .i64 0)))]) (.cond (.t 26) (.seq (.region [.op (some 27) none (.mv (.t 0)), .op (some 28) none (.iaddr (.t 27) (.k (AV.int .i64 0)) 1 (.int .u8)), .op (some 29) none (.load (.t 28) none (.int .u8)), .op (some 30) none (.cvInt .i32 (.t 29)), .op (some 2) none (.mv (.t 30)), .op (some 3) none (.mv (.k (AV.int .i64 1))), .op (some 4) none (.mv (.k (AV.bool true)))]) (.ret [2, 3, 4] [])) (.skip))) (.seq (.region [.op (some 31) none (.mv (.t 0)), .op (some 32) none (.iaddr (.t 31) (.k (AV.int .i64 0)) 1 (.int .u8)), .op (some 33) none (.load (.t 32) none (.int .u8)), .op (some 34) none (.call id_doubleDigits [.t 33] (.int .i64)), .op (some 6) none (.mv (.t 34))]) (.seq (.seq (.region [.op (some 35) none (.mv (.t 6)), .op (some 36) none (.bin .eql (.t 35) (.k (AV.int .i64 0)))]) (.cond (.t 36) (.seq (.region [.op (some 2) none (.mv (.k (AV.int .i32 0))), .op (some 3) none (.mv (.k (AV.int .i64 0))), .op (some 4) none (.mv (.k (AV.bool false)))]) (.ret [2, 3, 4] [])) (.skip))) (.seq (.region [.op (some 38) none (.mv (.t 0)), .op (some 39) none (.slice (.t 38) (some (.k (AV.int .i64 1))) none 1), .op (some 40) none (.mv (.t 6)), .op (some 41) none (.call id_doubleNumber [.t 39, .t 40] (.tup [.int .u32, .bool])), .op (some 37) none (.mv (.t 41)), .op (some 42) none (.extract (.t 37) 0), .op (some 43) none (.extract (.t 37) 1), .op (some 7) none (.mv (.t 42)), .op (some 8) none (.mv (.t 43))]) (.seq (.seq (.region [.op (some 44) none (.mv (.t 8)), .op (some 45) none (.un .not (.t 44)), .op (some 46) none (.mv (.t 45)), .split 46, .op (some 47) (some (46, false)) (.mv (.t 7)), .op (some 48) (some (46, false)) (.bin .gtr (.t 47) (.k (AV.int .u32 1114111))), .op (some 49) none (.pick (.t 46) (.k (AV.bool true)) (.t 48)), .op (some 50) none (.mv (.t 49)), .split 50, .op (some 51) (some (50, false)) (.mv (.t 7)), .op (some 52) (some (50, false)) (.bin .geq (.t 51) (.k (AV.int .u32 55296))), .op (some 53) (some (50, false)) (.mv (.t 52)), .split 53, .op (some 54) (some (53, true)) (.mv (.t 7)), .op (some 55) (some (53, true)) (.bin .leq (.t 54) (.k (AV.int .u32 57343))), .op (some 56) (some (50, false)) (.pick (.t 53) (.t 55) (.k (AV.bool false))), .op (some 57) none (.pick (.t 50) (.k (AV.bool true)) (.t 56))]) (.cond (.t 57) (.seq (.region [.op (some 2) none (.mv (.k (AV.int .i32 0))), .op (some 3) none (.mv (.k (AV.int .i64 0))), .op (some 4) none (.mv (.k (AV.bool false)))]) (.ret [2, 3, 4] [])) (.skip))) (.seq (.region [.op (some 58) none (.mv (.t 7)), .op (some 59) none (.cvInt .i32 (.t 58)), .op (some 60) none (.mv (.t 6)), .op (some 61) none (.bin .add (.t 60) (.k (AV.int .i64 1))), .op (some 2) none (.mv (.t 59)), .op (some 3) none (.mv (.t 61)), .op (some 4) none (.mv (.k (AV.bool true)))]) (.ret [2, 3, 4] [])))))))))
def doubleEscape : AFunc := ⟨1, 62, [.tmp 2, .tmp 3, .tmp 4], doubleEscape_c0⟩
def doubleEscaper (R : Nat → List AV → Option Res) (N : Nat) (s1 : List UInt8) : Option Res :=
  bif (((s1.length : Nat) : Int) : Int) == 0 then
    (some ⟨AV.tup [AV.int .i32 0, AV.int .i64 0, AV.bool false], false, []⟩)
  else
    need (decide (0 ≤ (0 : Int))) <|
    (s1[Int.toNat 0]?).bind fun c1 =>
    (R id_stringsIndexByte [AV.str ([48, 97, 98, 116, 110, 118, 102, 114, 101, 78, 95, 76, 80] : List UInt8), AV.int .u8 (c1.toNat : Int)]).bind fun r1 =>
    asI .i64 r1.v fun i1 =>
    bif decide ((i1 : Int) ≥ 0) then
      ((R id_doubleRunes []).bind fun r2 =>
      asR 1 r2.v fun l1 =>
      need (decide (0 ≤ (i1 : Int))) <|
      (l1[Int.toNat i1]?).bind fun e1 =>
      asI .i32 e1 fun i2 =>
      some ⟨AV.tup [AV.int .i32 i2, AV.int .i64 1, AV.bool true], false, []⟩)
    else
      need (decide (0 ≤ (0 : Int))) <|
      (s1[Int.toNat 0]?).bind fun c2 =>
      (R id_stringsIndexByte [AV.str ([34, 47, 92, 32] : List UInt8), AV.int .u8 (c2.toNat : Int)]).bind fun r3 =>
      asI .i64 r3.v fun i3 =>
      bif decide ((i3 : Int) ≥ 0) then
        (need (decide (0 ≤ (0 : Int))) <|
        (s1[Int.toNat 0]?).bind fun c3 =>
        some ⟨AV.tup [AV.int .i32 (IntKind.i32.wrap (c3.toNat : Int)), AV.int .i64 1, AV.bool true], false, []⟩)
      else
        need (decide (0 ≤ (0 : Int))) <|
        (s1[Int.toNat 0]?).bind fun c4 =>
        (R id_doubleDigits [AV.int .u8 (c4.toNat : Int)]).bind fun r4 =>
        asI .i64 r4.v fun i4 =>
        bif (i4 : Int) == 0 then
          (some ⟨AV.tup [AV.int .i32 0, AV.int .i64 0, AV.bool false], false, []⟩)
        else
          need (decide (0 ≤ (1 : Int)) && decide ((1 : Int) ≤ ((s1.length : Nat) : Int))) <|
          (R id_doubleNumber [AV.bytes ((s1.take s1.length).drop (Int.toNat 1)), AV.int .i64 i4]).bind fun r5 =>
          asJBT r5.v fun i5 b1 =>
          bif !b1 then
            (some ⟨AV.tup [AV.int .i32 0, AV.int .i64 0, AV.bool false], false, []⟩)
          else
            bif decide ((i5 : Int) > 1114111) then
              (some ⟨AV.tup [AV.int .i32 0, AV.int .i64 0, AV.bool false], false, []⟩)
            else
              bif decide ((i5 : Int) ≥ 55296) then
                (bif decide ((i5 : Int) ≤ 57343) then
                  (some ⟨AV.tup [AV.int .i32 0, AV.int .i64 0, AV.bool false], false, []⟩)
                else
                  some ⟨AV.tup [AV.int .i32 (IntKind.i32.wrap i5), AV.int .i64 (IntKind.i64.wrap (i4 + 1)), AV.bool true], false, []⟩)
              else
                some ⟨AV.tup [AV.int .i32 (IntKind.i32.wrap i5), AV.int .i64 (IntKind.i64.wrap (i4 + 1)), AV.bool true], false, []⟩
theorem doubleEscape_eq (R : Nat → List AV → Option Res) (N : Nat) (s1 : List UInt8) : runF gl R N doubleEscape [AV.bytes s1] = doubleEscaper R N s1 := by
  kernel_rfl
theorem doubleEscape_fit : fitF Tryd.prog doubleEscape Tryd.f32 = true := by
  kernel_rfl

def unicodeUtf8AppendRuneNonASCII_c0 : AC := .seq (.region [.op (some 4) none (.nilOwn 0 none)]) (.seq (.region [.op (some 6) none (.mv (.t 1)), .op (some 7) none (.cvInt .u32 (.t 6)), .op (some 5) none (.mv (.t 7))]) (.block 0 (.seq (.region [.op (some 12) none (.mv (.t 5)), .op (some 13) none (.bin .leq (.t 12) (.k (AV.int .u32 2047))), .op (some 11) none (.mv (.t 13))]) (.cond (.t 11) (.seq (.region [.op (some 14) none (.mv (.t 0)), .op (some 15) none (.mv (.t 1)), .op (some 16) none (.bin .shr (.t 15) (.k (AV.int .u64 6))), .op (some 17) none (.cvInt .u8 (.t 16)), .op (some 18) none (.bin .or (.k (AV.int .u8 192)) (.t 17)), .op (some 19) none (.mv (.t 1)), .op (some 20) none (.cvInt .u8 (.t 19)), .op (some 21) none (.bin .and (.t 20) (.k (AV.int .u8 63))), .op (some 22) none (.bin .or (.k (AV.int .u8 128)) (.t 21)), .op (some 23) none (.bslice [.t 18, .t 22] 1 true), .op (some 24) none (.app 0 (.t 14) (.t 23) 1 .any true), .op (some 4) none (.mv (.t 24))]) (.ret [4] [0])) (.seq (.seq (.region [.op (some 26) none (.mv (.t 5)), .op (some 27) none (.bin .lss (.t 26) (.k (AV.int .u32 55296))), .op (some 25) none (.mv (.t 27))]) (.cond (.t 25) (.skip) (.region [.op (some 28) none (.mv (.t 5)), .op (some 29) none (.bin .lss (.k (AV.int .u32 57343)) (.t 28)), .op (some 30) none (.mv (.t 29)), .split 30, .op (some 31) (some (30, true)) (.mv (.t 5)), .op (some 32) (some (30, true)) (.bin .leq (.t 31) (.k (AV.int .u32 65535))), .op (some 33) none (.pick (.t 30) (.t 32) (.k (AV.bool false))), .op (some 25) none (.mv (.t 33))]))) (.cond (.t 25) (.seq (.region [.op (some 34) none (.mv (.t 0)), .op (some 35) none (.mv (.t 1)), .op (some 36) none (.bin .shr (.t 35) (.k (AV.int .u64 12))), .op (some 37) none (.cvInt .u8 (.t 36)), .op (some 38) none (.bin .or (.k (AV.int .u8 224)) (.t 37)), .op (some 39) none (.mv (.t 1)), .op (some 40) none (.bin .shr (.t 39) (.k (AV.int .u64 6))), .op (some 41) none (.cvInt .u8 (.t 40)), .op (some 42) none (.bin .and (.t 41) (.k (AV.int .u8 63))), .op (some 43) none (.bin .or (.k (AV.int .u8 128)) (.t 42)), .op (some 44) none (.mv (.t 1)), .op (some 45) none (.cvInt .u8 (.t 44)), .op (some 46) none (.bin .and (.t 45) (.k (AV.int .u8 63))), .op (some 47) none (.bin .or (.k (AV.int .u8 128)) (.t 46)), .op (some 48) none (.bslice [.t 38, .t 43, .t 47] 1 true), .op (some 49) none (.app 0 (.t 34) (.t 48) 1 .any true), .op (some 4) none (.mv (.t 49))]) (.ret [4] [0])) (.seq (.region [.op (some 51) none (.mv (.t 5)), .op (some 52) none (.bin .gtr (.t 51) (.k (AV.int .u32 65535))), .op (some 53) none (.mv (.t 52)), .split 53, .op (some 54) (some (53, true)) (.mv (.t 5)), .op (some 55) (some (53, true)) (.bin .leq (.t 54) (.k (AV.int .u32 1114111))), .op (some 56) none (.pick (.t 53) (.t 55) (.k (AV.bool false))), .op (some 50) none (.mv (.t 56))]) (.cond (.t 50) (.seq (.region [.op (some 57) none (.mv (.t 0)), .op (some 58) none (.mv (.t 1)), .op (some 59) none (.bin .shr (.t 58) (.k (AV.int .u64 18))), .op (some 60) none (.cvInt .u8 (.t 59)), .op (some 61) none (.bin .or (.k (AV.int .u8 240)) (.t 60)), .op (some 62) none (.mv (.t 1)), .op (some 63) none (.bin .shr (.t 62) (.k (AV.int .u64 12))), .op (some 64) none (.cvInt .u8 (.t 63)), .op (some 65) none (.bin .and (.t 64) (.k (AV.int .u8 63))), .op (some 66) none (.bin .or (.k (AV.int .u8 128)) (.t 65)), .op (some 67) none (.mv (.t 1)), .op (some 68) none (.bin .shr (.t 67) (.k (AV.int .u64 6))), .op (some 69) none (.cvInt .u8 (.t 68)), .op (some 70) none (.bin .and (.t 69) (.k (AV.int .u8 63))), .op (some 71) none (.bin .or (.k (AV.int .u8 128)) (.t 70)), .op (some 72) none (.mv (.t 1)), .op (some 73) none (.cvInt .u8 (.t 72)), .op (some 74) none (.bin .and (.t 73) (.k (AV.int .u8 63))), .op (some 75) none (.bin .or (.k (AV.int .u8 128)) (.t 74)), .op (some 76) none (.bslice [.t 61, .t 66, .t 71, .t 75] 1 true), .op (some 77) none (.app 0 (.t 57) (.t 76) 1 .any true), .op (some 4) none (.mv (.t 77))]) (.ret [4] [0])) (.seq (.region [.op (some 8) none (.mv (.t 0)), .op (some 9) none (.bslice [.k (AV.int .u8 239), .k (AV.int .u8 191), .k (AV.int .u8 189)] 1 true), .op (some 10) none (.app 0 (.t 8) (.t 9) 1 .any true), .op (some 4) none (.mv (.t 10))]) (.ret [4] [0]))))))))))
def unicodeUtf8AppendRuneNonASCII : AFunc := ⟨2, 78, [.tmp 4], unicodeUtf8AppendRuneNonASCII_c0⟩
def unicodeUtf8AppendRuneNonASCIIr (R : Nat → List AV → Option Res) (N : Nat) (s1 : List UInt8) (i1 : Int) : Option Res :=
  bif decide (((IntKind.u32.wrap i1) : Int) ≤ 2047) then
    (need (!decide (6 < 0)) <|
    need (decide (0 ≤ (IntKind.u8.wrap (BitVec.ofInt IntKind.u8.bits 192 ||| BitVec.ofInt IntKind.u8.bits (IntKind.u8.wrap (Int.fdiv i1 (2 ^ (min (Int.toNat 6) IntKind.i32.bits))))).toNat : Int)) && decide ((IntKind.u8.wrap (BitVec.ofInt IntKind.u8.bits 192 ||| BitVec.ofInt IntKind.u8.bits (IntKind.u8.wrap (Int.fdiv i1 (2 ^ (min (Int.toNat 6) IntKind.i32.bits))))).toNat : Int) < 256)) <|
    need (decide (0 ≤ (IntKind.u8.wrap (BitVec.ofInt IntKind.u8.bits 128 ||| BitVec.ofInt IntKind.u8.bits (IntKind.u8.wrap (BitVec.ofInt IntKind.u8.bits (IntKind.u8.wrap i1) &&& BitVec.ofInt IntKind.u8.bits 63).toNat)).toNat : Int)) && decide ((IntKind.u8.wrap (BitVec.ofInt IntKind.u8.bits 128 ||| BitVec.ofInt IntKind.u8.bits (IntKind.u8.wrap (BitVec.ofInt IntKind.u8.bits (IntKind.u8.wrap i1) &&& BitVec.ofInt IntKind.u8.bits 63).toNat)).toNat : Int) < 256)) <|
    need (decide (((s1.drop 0).take s1.length).length + ([UInt8.ofNat (Int.toNat (IntKind.u8.wrap (BitVec.ofInt IntKind.u8.bits 192 ||| BitVec.ofInt IntKind.u8.bits (IntKind.u8.wrap (Int.fdiv i1 (2 ^ (min (Int.toNat 6) IntKind.i32.bits))))).toNat)), UInt8.ofNat (Int.toNat (IntKind.u8.wrap (BitVec.ofInt IntKind.u8.bits 128 ||| BitVec.ofInt IntKind.u8.bits (IntKind.u8.wrap (BitVec.ofInt IntKind.u8.bits (IntKind.u8.wrap i1) &&& BitVec.ofInt IntKind.u8.bits 63).toNat)).toNat))] : List UInt8).length ≤ 1099511627776)) <|
    some ⟨AV.bytes (((((s1.drop 0).take s1.length) ++ [UInt8.ofNat (Int.toNat (IntKind.u8.wrap (BitVec.ofInt IntKind.u8.bits 192 ||| BitVec.ofInt IntKind.u8.bits (IntKind.u8.wrap (Int.fdiv i1 (2 ^ (min (Int.toNat 6) IntKind.i32.bits))))).toNat)), UInt8.ofNat (Int.toNat (IntKind.u8.wrap (BitVec.ofInt IntKind.u8.bits 128 ||| BitVec.ofInt IntKind.u8.bits (IntKind.u8.wrap (BitVec.ofInt IntKind.u8.bits (IntKind.u8.wrap i1) &&& BitVec.ofInt IntKind.u8.bits 63).toNat)).toNat))]).drop 0).take ((((s1.drop 0).take s1.length) ++ [UInt8.ofNat (Int.toNat (IntKind.u8.wrap (BitVec.ofInt IntKind.u8.bits 192 ||| BitVec.ofInt IntKind.u8.bits (IntKind.u8.wrap (Int.fdiv i1 (2 ^ (min (Int.toNat 6) IntKind.i32.bits))))).toNat)), UInt8.ofNat (Int.toNat (IntKind.u8.wrap (BitVec.ofInt IntKind.u8.bits 128 ||| BitVec.ofInt IntKind.u8.bits (IntKind.u8.wrap (BitVec.ofInt IntKind.u8.bits (IntKind.u8.wrap i1) &&& BitVec.ofInt IntKind.u8.bits 63).toNat)).toNat))]).length)), true, [AV.nilI]⟩)
  else
    bif decide (((IntKind.u32.wrap i1) : Int) < 55296) then
      (bif decide (((IntKind.u32.wrap i1) : Int) < 55296) then
        (need (!decide (12 < 0)) <|
        need (!decide (6 < 0)) <|
        need (decide (0 ≤ (IntKind.u8.wrap (BitVec.ofInt IntKind.u8.bits 224 ||| BitVec.ofInt IntKind.u8.bits (IntKind.u8.wrap (Int.fdiv i1 (2 ^ (min (Int.toNat 12) IntKind.i32.bits))))).toNat : Int)) && decide ((IntKind.u8.wrap (BitVec.ofInt IntKind.u8.bits 224 ||| BitVec.ofInt IntKind.u8.bits (IntKind.u8.wrap (Int.fdiv i1 (2 ^ (min (Int.toNat 12) IntKind.i32.bits))))).toNat : Int) < 256)) <|
        need (decide (0 ≤ (IntKind.u8.wrap (BitVec.ofInt IntKind.u8.bits 128 ||| BitVec.ofInt IntKind.u8.bits (IntKind.u8.wrap (BitVec.ofInt IntKind.u8.bits (IntKind.u8.wrap (Int.fdiv i1 (2 ^ (min (Int.toNat 6) IntKind.i32.bits)))) &&& BitVec.ofInt IntKind.u8.bits 63).toNat)).toNat : Int)) && decide ((IntKind.u8.wrap (BitVec.ofInt IntKind.u8.bits 128 ||| BitVec.ofInt IntKind.u8.bits (IntKind.u8.wrap (BitVec.ofInt IntKind.u8.bits (IntKind.u8.wrap (Int.fdiv i1 (2 ^ (min (Int.toNat 6) IntKind.i32.bits)))) &&& BitVec.ofInt IntKind.u8.bits 63).toNat)).toNat : Int) < 256)) <|
        need (decide (0 ≤ (IntKind.u8.wrap (BitVec.ofInt IntKind.u8.bits 128 ||| BitVec.ofInt IntKind.u8.bits (IntKind.u8.wrap (BitVec.ofInt IntKind.u8.bits (IntKind.u8.wrap i1) &&& BitVec.ofInt IntKind.u8.bits 63).toNat)).toNat : Int)) && decide ((IntKind.u8.wrap (BitVec.ofInt IntKind.u8.bits 128 ||| BitVec.ofInt IntKind.u8.bits (IntKind.u8.wrap (BitVec.ofInt IntKind.u8.bits (IntKind.u8.wrap i1) &&& BitVec.ofInt IntKind.u8.bits 63).toNat)).toNat : Int) < 256)) <|
        need (decide (((s1.drop 0).take s1.length).length + ([UInt8.ofNat (Int.toNat (IntKind.u8.wrap (BitVec.ofInt IntKind.u8.bits 224 ||| BitVec.ofInt IntKind.u8.bits (IntKind.u8.wrap (Int.fdiv i1 (2 ^ (min (Int.toNat 12) IntKind.i32.bits))))).toNat)), UInt8.ofNat (Int.toNat (IntKind.u8.wrap (BitVec.ofInt IntKind.u8.bits 128 ||| BitVec.ofInt IntKind.u8.bits (IntKind.u8.wrap (BitVec.ofInt IntKind.u8.bits (IntKind.u8.wrap (Int.fdiv i1 (2 ^ (min (Int.toNat 6) IntKind.i32.bits)))) &&& BitVec.ofInt IntKind.u8.bits 63).toNat)).toNat)), UInt8.ofNat (Int.toNat (IntKind.u8.wrap (BitVec.ofInt IntKind.u8.bits 128 ||| BitVec.ofInt IntKind.u8.bits (IntKind.u8.wrap (BitVec.ofInt IntKind.u8.bits (IntKind.u8.wrap i1) &&& BitVec.ofInt IntKind.u8.bits 63).toNat)).toNat))] : List UInt8).length ≤ 1099511627776)) <|
        some ⟨AV.bytes (((((s1.drop 0).take s1.length) ++ [UInt8.ofNat (Int.toNat (IntKind.u8.wrap (BitVec.ofInt IntKind.u8.bits 224 ||| BitVec.ofInt IntKind.u8.bits (IntKind.u8.wrap (Int.fdiv i1 (2 ^ (min (Int.toNat 12) IntKind.i32.bits))))).toNat)), UInt8.ofNat (Int.toNat (IntKind.u8.wrap (BitVec.ofInt IntKind.u8.bits 128 ||| BitVec.ofInt IntKind.u8.bits (IntKind.u8.wrap (BitVec.ofInt IntKind.u8.bits (IntKind.u8.wrap (Int.fdiv i1 (2 ^ (min (Int.toNat 6) IntKind.i32.bits)))) &&& BitVec.ofInt IntKind.u8.bits 63).toNat)).toNat)), UInt8.ofNat (Int.toNat (IntKind.u8.wrap (BitVec.ofInt IntKind.u8.bits 128 ||| BitVec.ofInt IntKind.u8.bits (IntKind.u8.wrap (BitVec.ofInt IntKind.u8.bits (IntKind.u8.wrap i1) &&& BitVec.ofInt IntKind.u8.bits 63).toNat)).toNat))]).drop 0).take ((((s1.drop 0).take s1.length) ++ [UInt8.ofNat (Int.toNat (IntKind.u8.wrap (BitVec.ofInt IntKind.u8.bits 224 ||| BitVec.ofInt IntKind.u8.bits (IntKind.u8.wrap (Int.fdiv i1 (2 ^ (min (Int.toNat 12) IntKind.i32.bits))))).toNat)), UInt8.ofNat (Int.toNat (IntKind.u8.wrap (BitVec.ofInt IntKind.u8.bits 128 ||| BitVec.ofInt IntKind.u8.bits (IntKind.u8.wrap (BitVec.ofInt IntKind.u8.bits (IntKind.u8.wrap (Int.fdiv i1 (2 ^ (min (Int.toNat 6) IntKind.i32.bits)))) &&& BitVec.ofInt IntKind.u8.bits 63).toNat)).toNat)), UInt8.ofNat (Int.toNat (IntKind.u8.wrap (BitVec.ofInt IntKind.u8.bits 128 ||| BitVec.ofInt IntKind.u8.bits (IntKind.u8.wrap (BitVec.ofInt IntKind.u8.bits (IntKind.u8.wrap i1) &&& BitVec.ofInt IntKind.u8.bits 63).toNat)).toNat))]).length)), true, [AV.nilI]⟩)
      else
        bif decide (((IntKind.u32.wrap i1) : Int) > 65535) then
          (bif decide (((IntKind.u32.wrap i1) : Int) ≤ 1114111) then
            (need (!decide (18 < 0)) <|
            need (!decide (12 < 0)) <|
            need (!decide (6 < 0)) <|
            need (decide (0 ≤ (IntKind.u8.wrap (BitVec.ofInt IntKind.u8.bits 240 ||| BitVec.ofInt IntKind.u8.bits (IntKind.u8.wrap (Int.fdiv i1 (2 ^ (min (Int.toNat 18) IntKind.i32.bits))))).toNat : Int)) && decide ((IntKind.u8.wrap (BitVec.ofInt IntKind.u8.bits 240 ||| BitVec.ofInt IntKind.u8.bits (IntKind.u8.wrap (Int.fdiv i1 (2 ^ (min (Int.toNat 18) IntKind.i32.bits))))).toNat : Int) < 256)) <|
            need (decide (0 ≤ (IntKind.u8.wrap (BitVec.ofInt IntKind.u8.bits 128 ||| BitVec.ofInt IntKind.u8.bits (IntKind.u8.wrap (BitVec.ofInt IntKind.u8.bits (IntKind.u8.wrap (Int.fdiv i1 (2 ^ (min (Int.toNat 12) IntKind.i32.bits)))) &&& BitVec.ofInt IntKind.u8.bits 63).toNat)).toNat : Int)) && decide ((IntKind.u8.wrap (BitVec.ofInt IntKind.u8.bits 128 ||| BitVec.ofInt IntKind.u8.bits (IntKind.u8.wrap (BitVec.ofInt IntKind.u8.bits (IntKind.u8.wrap (Int.fdiv i1 (2 ^ (min (Int.toNat 12) IntKind.i32.bits)))) &&& BitVec.ofInt IntKind.u8.bits 63).toNat)).toNat : Int) < 256)) <|
            need (decide (0 ≤ (IntKind.u8.wrap (BitVec.ofInt IntKind.u8.bits 128 ||| BitVec.ofInt IntKind.u8.bits (IntKind.u8.wrap (BitVec.ofInt IntKind.u8.bits (IntKind.u8.wrap (Int.fdiv i1 (2 ^ (min (Int.toNat 6) IntKind.i32.bits)))) &&& BitVec.ofInt IntKind.u8.bits 63).toNat)).toNat : Int)) && decide ((IntKind.u8.wrap (BitVec.ofInt IntKind.u8.bits 128 ||| BitVec.ofInt IntKind.u8.bits (IntKind.u8.wrap (BitVec.ofInt IntKind.u8.bits (IntKind.u8.wrap (Int.fdiv i1 (2 ^ (min (Int.toNat 6) IntKind.i32.bits)))) &&& BitVec.ofInt IntKind.u8.bits 63).toNat)).toNat : Int) < 256)) <|
            need (decide (0 ≤ (IntKind.u8.wrap (BitVec.ofInt IntKind.u8.bits 128 ||| BitVec.ofInt IntKind.u8.bits (IntKind.u8.wrap (BitVec.ofInt IntKind.u8.bits (IntKind.u8.wrap i1) &&& BitVec.ofInt IntKind.u8.bits 63).toNat)).toNat : Int)) && decide ((IntKind.u8.wrap (BitVec.ofInt IntKind.u8.bits 128 ||| BitVec.ofInt IntKind.u8.bits (IntKind.u8.wrap (BitVec.ofInt IntKind.u8.bits (IntKind.u8.wrap i1) &&& BitVec.ofInt IntKind.u8.bits 63).toNat)).toNat : Int) < 256)) <|
            need (decide (((s1.drop 0).take s1.length).length + ([UInt8.ofNat (Int.toNat (IntKind.u8.wrap (BitVec.ofInt IntKind.u8.bits 240 ||| BitVec.ofInt IntKind.u8.bits (IntKind.u8.wrap (Int.fdiv i1 (2 ^ (min (Int.toNat 18) IntKind.i32.bits))))).toNat)), UInt8.ofNat (Int.toNat (IntKind.u8.wrap (BitVec.ofInt IntKind.u8.bits 128 ||| BitVec.ofInt IntKind.u8.bits (IntKind.u8.wrap (BitVec.ofInt IntKind.u8.bits (IntKind.u8.wrap (Int.fdiv i1 (2 ^ (min (Int.toNat 12) IntKind.i32.bits)))) &&& BitVec.ofInt IntKind.u8.bits 63).toNat)).toNat)), UInt8.ofNat (Int.toNat (IntKind.u8.wrap (BitVec.ofInt IntKind.u8.bits 128 ||| BitVec.ofInt IntKind.u8.bits (IntKind.u8.wrap (BitVec.ofInt IntKind.u8.bits (IntKind.u8.wrap (Int.fdiv i1 (2 ^ (min (Int.toNat 6) IntKind.i32.bits)))) &&& BitVec.ofInt IntKind.u8.bits 63).toNat)).toNat)), UInt8.ofNat (Int.toNat (IntKind.u8.wrap (BitVec.ofInt IntKind.u8.bits 128 ||| BitVec.ofInt IntKind.u8.bits (IntKind.u8.wrap (BitVec.ofInt IntKind.u8.bits (IntKind.u8.wrap i1) &&& BitVec.ofInt IntKind.u8.bits 63).toNat)).toNat))] : List UInt8).length ≤ 1099511627776)) <|
            some ⟨AV.bytes (((((s1.drop 0).take s1.length) ++ [UInt8.ofNat (Int.toNat (IntKind.u8.wrap (BitVec.ofInt IntKind.u8.bits 240 ||| BitVec.ofInt IntKind.u8.bits (IntKind.u8.wrap (Int.fdiv i1 (2 ^ (min (Int.toNat 18) IntKind.i32.bits))))).toNat)), UInt8.ofNat (Int.toNat (IntKind.u8.wrap (BitVec.ofInt IntKind.u8.bits 128 ||| BitVec.ofInt IntKind.u8.bits (IntKind.u8.wrap (BitVec.ofInt IntKind.u8.bits (IntKind.u8.wrap (Int.fdiv i1 (2 ^ (min (Int.toNat 12) IntKind.i32.bits)))) &&& BitVec.ofInt IntKind.u8.bits 63).toNat)).toNat)), UInt8.ofNat (Int.toNat (IntKind.u8.wrap (BitVec.ofInt IntKind.u8.bits 128 ||| BitVec.ofInt IntKind.u8.bits (IntKind.u8.wrap (BitVec.ofInt IntKind.u8.bits (IntKind.u8.wrap (Int.fdiv i1 (2 ^ (min (Int.toNat 6) IntKind.i32.bits)))) &&& BitVec.ofInt IntKind.u8.bits 63).toNat)).toNat)), UInt8.ofNat (Int.toNat (IntKind.u8.wrap (BitVec.ofInt IntKind.u8.bits 128 ||| BitVec.ofInt IntKind.u8.bits (IntKind.u8.wrap (BitVec.ofInt IntKind.u8.bits (IntKind.u8.wrap i1) &&& BitVec.ofInt IntKind.u8.bits 63).toNat)).toNat))]).drop 0).take ((((s1.drop 0).take s1.length) ++ [UInt8.ofNat (Int.toNat (IntKind.u8.wrap (BitVec.ofInt IntKind.u8.bits 240 ||| BitVec.ofInt IntKind.u8.bits (IntKind.u8.wrap (Int.fdiv i1 (2 ^ (min (Int.toNat 18) IntKind.i32.bits))))).toNat)), UInt8.ofNat (Int.toNat (IntKind.u8.wrap (BitVec.ofInt IntKind.u8.bits 128 ||| BitVec.ofInt IntKind.u8.bits (IntKind.u8.wrap (BitVec.ofInt IntKind.u8.bits (IntKind.u8.wrap (Int.fdiv i1 (2 ^ (min (Int.toNat 12) IntKind.i32.bits)))) &&& BitVec.ofInt IntKind.u8.bits 63).toNat)).toNat)), UInt8.ofNat (Int.toNat (IntKind.u8.wrap (BitVec.ofInt IntKind.u8.bits 128 ||| BitVec.ofInt IntKind.u8.bits (IntKind.u8.wrap (BitVec.ofInt IntKind.u8.bits (IntKind.u8.wrap (Int.fdiv i1 (2 ^ (min (Int.toNat 6) IntKind.i32.bits)))) &&& BitVec.ofInt IntKind.u8.bits 63).toNat)).toNat)), UInt8.ofNat (Int.toNat (IntKind.u8.wrap (BitVec.ofInt IntKind.u8.bits 128 ||| BitVec.ofInt IntKind.u8.bits (IntKind.u8.wrap (BitVec.ofInt IntKind.u8.bits (IntKind.u8.wrap i1) &&& BitVec.ofInt IntKind.u8.bits 63).toNat)).toNat))]).length)), true, [AV.nilI]⟩)
          else
            need (decide (((s1.drop 0).take s1.length).length + ([239, 191, 189] : List UInt8).length ≤ 1099511627776)) <|
            some ⟨AV.bytes (((((s1.drop 0).take s1.length) ++ [239, 191, 189]).drop 0).take ((((s1.drop 0).take s1.length) ++ [239, 191, 189]).length)), true, [AV.nilI]⟩)
        else
          need (decide (((s1.drop 0).take s1.length).length + ([239, 191, 189] : List UInt8).length ≤ 1099511627776)) <|
          some ⟨AV.bytes (((((s1.drop 0).take s1.length) ++ [239, 191, 189]).drop 0).take ((((s1.drop 0).take s1.length) ++ [239, 191, 189]).length)), true, [AV.nilI]⟩)
    else
      bif decide ((57343 : Int) < (IntKind.u32.wrap i1)) then
        (bif decide (((IntKind.u32.wrap i1) : Int) ≤ 65535) then
          (need (!decide (12 < 0)) <|
          need (!decide (6 < 0)) <|
          need (decide (0 ≤ (IntKind.u8.wrap (BitVec.ofInt IntKind.u8.bits 224 ||| BitVec.ofInt IntKind.u8.bits (IntKind.u8.wrap (Int.fdiv i1 (2 ^ (min (Int.toNat 12) IntKind.i32.bits))))).toNat : Int)) && decide ((IntKind.u8.wrap (BitVec.ofInt IntKind.u8.bits 224 ||| BitVec.ofInt IntKind.u8.bits (IntKind.u8.wrap (Int.fdiv i1 (2 ^ (min (Int.toNat 12) IntKind.i32.bits))))).toNat : Int) < 256)) <|
          need (decide (0 ≤ (IntKind.u8.wrap (BitVec.ofInt IntKind.u8.bits 128 ||| BitVec.ofInt IntKind.u8.bits (IntKind.u8.wrap (BitVec.ofInt IntKind.u8.bits (IntKind.u8.wrap (Int.fdiv i1 (2 ^ (min (Int.toNat 6) IntKind.i32.bits)))) &&& BitVec.ofInt IntKind.u8.bits 63).toNat)).toNat : Int)) && decide ((IntKind.u8.wrap (BitVec.ofInt IntKind.u8.bits 128 ||| BitVec.ofInt IntKind.u8.bits (IntKind.u8.wrap (BitVec.ofInt IntKind.u8.bits (IntKind.u8.wrap (Int.fdiv i1 (2 ^ (min (Int.toNat 6) IntKind.i32.bits)))) &&& BitVec.ofInt IntKind.u8.bits 63).toNat)).toNat : Int) < 256)) <|
          need (decide (0 ≤ (IntKind.u8.wrap (BitVec.ofInt IntKind.u8.bits 128 ||| BitVec.ofInt IntKind.u8.bits (IntKind.u8.wrap (BitVec.ofInt IntKind.u8.bits (IntKind.u8.wrap i1) &&& BitVec.ofInt IntKind.u8.bits 63).toNat)).toNat : Int)) && decide ((IntKind.u8.wrap (BitVec.ofInt IntKind.u8.bits 128 ||| BitVec.ofInt IntKind.u8.bits (IntKind.u8.wrap (BitVec.ofInt IntKind.u8.bits (IntKind.u8.wrap i1) &&& BitVec.ofInt IntKind.u8.bits 63).toNat)).toNat : Int) < 256)) <|
          need (decide (((s1.drop 0).take s1.length).length + ([UInt8.ofNat (Int.toNat (IntKind.u8.wrap (BitVec.ofInt IntKind.u8.bits 224 ||| BitVec.ofInt IntKind.u8.bits (IntKind.u8.wrap (Int.fdiv i1 (2 ^ (min (Int.toNat 12) IntKind.i32.bits))))).toNat)), UInt8.ofNat (Int.toNat (IntKind.u8.wrap (BitVec.ofInt IntKind.u8.bits 128 ||| BitVec.ofInt IntKind.u8.bits (IntKind.u8.wrap (BitVec.ofInt IntKind.u8.bits (IntKind.u8.wrap (Int.fdiv i1 (2 ^ (min (Int.toNat 6) IntKind.i32.bits)))) &&& BitVec.ofInt IntKind.u8.bits 63).toNat)).toNat)), UInt8.ofNat (Int.toNat (IntKind.u8.wrap (BitVec.ofInt IntKind.u8.bits 128 ||| BitVec.ofInt IntKind.u8.bits (IntKind.u8.wrap (BitVec.ofInt IntKind.u8.bits (IntKind.u8.wrap i1) &&& BitVec.ofInt IntKind.u8.bits 63).toNat)).toNat))] : List UInt8).length ≤ 1099511627776)) <|
          some ⟨AV.bytes (((((s1.drop 0).take s1.length) ++ [UInt8.ofNat (Int.toNat (IntKind.u8.wrap (BitVec.ofInt IntKind.u8.bits 224 ||| BitVec.ofInt IntKind.u8.bits (IntKind.u8.wrap (Int.fdiv i1 (2 ^ (min (Int.toNat 12) IntKind.i32.bits))))).toNat)), UInt8.ofNat (Int.toNat (IntKind.u8.wrap (BitVec.ofInt IntKind.u8.bits 128 ||| BitVec.ofInt IntKind.u8.bits (IntKind.u8.wrap (BitVec.ofInt IntKind.u8.bits (IntKind.u8.wrap (Int.fdiv i1 (2 ^ (min (Int.toNat 6) IntKind.i32.bits)))) &&& BitVec.ofInt IntKind.u8.bits 63).toNat)).toNat)), UInt8.ofNat (Int.toNat (IntKind.u8.wrap (BitVec.ofInt IntKind.u8.bits 128 ||| BitVec.ofInt IntKind.u8.bits (IntKind.u8.wrap (BitVec.ofInt IntKind.u8.bits (IntKind.u8.wrap i1) &&& BitVec.ofInt IntKind.u8.bits 63).toNat)).toNat))]).drop 0).take ((((s1.drop 0).take s1.length) ++ [UInt8.ofNat (Int.toNat (IntKind.u8.wrap (BitVec.ofInt IntKind.u8.bits 224 ||| BitVec.ofInt IntKind.u8.bits (IntKind.u8.wrap (Int.fdiv i1 (2 ^ (min (Int.toNat 12) IntKind.i32.bits))))).toNat)), UInt8.ofNat (Int.toNat (IntKind.u8.wrap (BitVec.ofInt IntKind.u8.bits 128 ||| BitVec.ofInt IntKind.u8.bits (IntKind.u8.wrap (BitVec.ofInt IntKind.u8.bits (IntKind.u8.wrap (Int.fdiv i1 (2 ^ (min (Int.toNat 6) IntKind.i32.bits)))) &&& BitVec.ofInt IntKind.u8.bits 63).toNat)).toNat)), UInt8.ofNat (Int.toNat (IntKind.u8.wrap (BitVec.ofInt IntKind.u8.bits 128 ||| BitVec.ofInt IntKind.u8.bits (IntKind.u8.wrap (BitVec.ofInt IntKind.u8.bits (IntKind.u8.wrap i1) &&& BitVec.ofInt IntKind.u8.bits 63).toNat)).toNat))]).length)), true, [AV.nilI]⟩)
        else
          bif decide (((IntKind.u32.wrap i1) : Int) > 65535) then
            (bif decide (((IntKind.u32.wrap i1) : Int) ≤ 1114111) then
              (need (!decide (18 < 0)) <|
              need (!decide (12 < 0)) <|
              need (!decide (6 < 0)) <|
              need (decide (0 ≤ (IntKind.u8.wrap (BitVec.ofInt IntKind.u8.bits 240 ||| BitVec.ofInt IntKind.u8.bits (IntKind.u8.wrap (Int.fdiv i1 (2 ^ (min (Int.toNat 18) IntKind.i32.bits))))).toNat : Int)) && decide ((IntKind.u8.wrap (BitVec.ofInt IntKind.u8.bits 240 ||| BitVec.ofInt IntKind.u8.bits (IntKind.u8.wrap (Int.fdiv i1 (2 ^ (min (Int.toNat 18) IntKind.i32.bits))))).toNat : Int) < 256)) <|
              need (decide (0 ≤ (IntKind.u8.wrap (BitVec.ofInt IntKind.u8.bits 128 ||| BitVec.ofInt IntKind.u8.bits (IntKind.u8.wrap (BitVec.ofInt IntKind.u8.bits (IntKind.u8.wrap (Int.fdiv i1 (2 ^ (min (Int.toNat 12) IntKind.i32.bits)))) &&& BitVec.ofInt IntKind.u8.bits 63).toNat)).toNat : Int)) && decide ((IntKind.u8.wrap (BitVec.ofInt IntKind.u8.bits 128 ||| BitVec.ofInt IntKind.u8.bits (IntKind.u8.wrap (BitVec.ofInt IntKind.u8.bits (IntKind.u8.wrap (Int.fdiv i1 (2 ^ (min (Int.toNat 12) IntKind.i32.bits)))) &&& BitVec.ofInt IntKind.u8.bits 63).toNat)).toNat : Int) < 256)) <|
              need (decide (0 ≤ (IntKind.u8.wrap (BitVec.ofInt IntKind.u8.bits 128 ||| BitVec.ofInt IntKind.u8.bits (IntKind.u8.wrap (BitVec.ofInt IntKind.u8.bits (IntKind.u8.wrap (Int.fdiv i1 (2 ^ (min (Int.toNat 6) IntKind.i32.bits)))) &&& BitVec.ofInt IntKind.u8.bits 63).toNat)).toNat : Int)) && decide ((IntKind.u8.wrap (BitVec.ofInt IntKind.u8.bits 128 ||| BitVec.ofInt IntKind.u8.bits (IntKind.u8.wrap (BitVec.ofInt IntKind.u8.bits (IntKind.u8.wrap (Int.fdiv i1 (2 ^ (min (Int.toNat 6) IntKind.i32.bits)))) &&& BitVec.ofInt IntKind.u8.bits 63).toNat)).toNat : Int) < 256)) <|
              need (decide (0 ≤ (IntKind.u8.wrap (BitVec.ofInt IntKind.u8.bits 128 ||| BitVec.ofInt IntKind.u8.bits (IntKind.u8.wrap (BitVec.ofInt IntKind.u8.bits (IntKind.u8.wrap i1) &&& BitVec.ofInt IntKind.u8.bits 63).toNat)).toNat : Int)) && decide ((IntKind.u8.wrap (BitVec.ofInt IntKind.u8.bits 128 ||| BitVec.ofInt IntKind.u8.bits (IntKind.u8.wrap (BitVec.ofInt IntKind.u8.bits (IntKind.u8.wrap i1) &&& BitVec.ofInt IntKind.u8.bits 63).toNat)).toNat : Int) < 256)) <|
              need (decide (((s1.drop 0).take s1.length).length + ([UInt8.ofNat (Int.toNat (IntKind.u8.wrap (BitVec.ofInt IntKind.u8.bits 240 ||| BitVec.ofInt IntKind.u8.bits (IntKind.u8.wrap (Int.fdiv i1 (2 ^ (min (Int.toNat 18) IntKind.i32.bits))))).toNat)), UInt8.ofNat (Int.toNat (IntKind.u8.wrap (BitVec.ofInt IntKind.u8.bits 128 ||| BitVec.ofInt IntKind.u8.bits (IntKind.u8.wrap (BitVec.ofInt IntKind.u8.bits (IntKind.u8.wrap (Int.fdiv i1 (2 ^ (min (Int.toNat 12) IntKind.i32.bits)))) &&& BitVec.ofInt IntKind.u8.bits 63).toNat)).toNat)), UInt8.ofNat (Int.toNat (IntKind.u8.wrap (BitVec.ofInt IntKind.u8.bits 128 ||| BitVec.ofInt IntKind.u8.bits (IntKind.u8.wrap (BitVec.ofInt IntKind.u8.bits (IntKind.u8.wrap (Int.fdiv i1 (2 ^ (min (Int.toNat 6) IntKind.i32.bits)))) &&& BitVec.ofInt IntKind.u8.bits 63).toNat)).toNat)), UInt8.ofNat (Int.toNat (IntKind.u8.wrap (BitVec.ofInt IntKind.u8.bits 128 ||| BitVec.ofInt IntKind.u8.bits (IntKind.u8.wrap (BitVec.ofInt IntKind.u8.bits (IntKind.u8.wrap i1) &&& BitVec.ofInt IntKind.u8.bits 63).toNat)).toNat))] : List UInt8).length ≤ 1099511627776)) <|
              some ⟨AV.bytes (((((s1.drop 0).take s1.length) ++ [UInt8.ofNat (Int.toNat (IntKind.u8.wrap (BitVec.ofInt IntKind.u8.bits 240 ||| BitVec.ofInt IntKind.u8.bits (IntKind.u8.wrap (Int.fdiv i1 (2 ^ (min (Int.toNat 18) IntKind.i32.bits))))).toNat)), UInt8.ofNat (Int.toNat (IntKind.u8.wrap (BitVec.ofInt IntKind.u8.bits 128 ||| BitVec.ofInt IntKind.u8.bits (IntKind.u8.wrap (BitVec.ofInt IntKind.u8.bits (IntKind.u8.wrap (Int.fdiv i1 (2 ^ (min (Int.toNat 12) IntKind.i32.bits)))) &&& BitVec.ofInt IntKind.u8.bits 63).toNat)).toNat)), UInt8.ofNat (Int.toNat (IntKind.u8.wrap (BitVec.ofInt IntKind.u8.bits 128 ||| BitVec.ofInt IntKind.u8.bits (IntKind.u8.wrap (BitVec.ofInt IntKind.u8.bits (IntKind.u8.wrap (Int.fdiv i1 (2 ^ (min (Int.toNat 6) IntKind.i32.bits)))) &&& BitVec.ofInt IntKind.u8.bits 63).toNat)).toNat)), UInt8.ofNat (Int.toNat (IntKind.u8.wrap (BitVec.ofInt IntKind.u8.bits 128 ||| BitVec.ofInt IntKind.u8.bits (IntKind.u8.wrap (BitVec.ofInt IntKind.u8.bits (IntKind.u8.wrap i1) &&& BitVec.ofInt IntKind.u8.bits 63).toNat)).toNat))]).drop 0).take ((((s1.drop 0).take s1.length) ++ [UInt8.ofNat (Int.toNat (IntKind.u8.wrap (BitVec.ofInt IntKind.u8.bits 240 ||| BitVec.ofInt IntKind.u8.bits (IntKind.u8.wrap (Int.fdiv i1 (2 ^ (min (Int.toNat 18) IntKind.i32.bits))))).toNat)), UInt8.ofNat (Int.toNat (IntKind.u8.wrap (BitVec.ofInt IntKind.u8.bits 128 ||| BitVec.ofInt IntKind.u8.bits (IntKind.u8.wrap (BitVec.ofInt IntKind.u8.bits (IntKind.u8.wrap (Int.fdiv i1 (2 ^ (min (Int.toNat 12) IntKind.i32.bits)))) &&& BitVec.ofInt IntKind.u8.bits 63).toNat)).toNat)), UInt8.ofNat (Int.toNat (IntKind.u8.wrap (BitVec.ofInt IntKind.u8.bits 128 ||| BitVec.ofInt IntKind.u8.bits (IntKind.u8.wrap (BitVec.ofInt IntKind.u8.bits (IntKind.u8.wrap (Int.fdiv i1 (2 ^ (min (Int.toNat 6) IntKind.i32.bits)))) &&& BitVec.ofInt IntKind.u8.bits 63).toNat)).toNat)), UInt8.ofNat (Int.toNat (IntKind.u8.wrap (BitVec.ofInt IntKind.u8.bits 128 ||| BitVec.ofInt IntKind.u8.bits (IntKind.u8.wrap (BitVec.ofInt IntKind.u8.bits (IntKind.u8.wrap i1) &&& BitVec.ofInt IntKind.u8.bits 63).toNat)).toNat))]).length)), true, [AV.nilI]⟩)
            else
              need (decide (((s1.drop 0).take s1.length).length + ([239, 191, 189] : List UInt8).length ≤ 1099511627776)) <|
              some ⟨AV.bytes (((((s1.drop 0).take s1.length) ++ [239, 191, 189]).drop 0).take ((((s1.drop 0).take s1.length) ++ [239, 191, 189]).length)), true, [AV.nilI]⟩)
          else
            need (decide (((s1.drop 0).take s1.length).length + ([239, 191, 189] : List UInt8).length ≤ 1099511627776)) <|
            some ⟨AV.bytes (((((s1.drop 0).take s1.length) ++ [239, 191, 189]).drop 0).take ((((s1.drop 0).take s1.length) ++ [239, 191, 189]).length)), true, [AV.nilI]⟩)
      else
        bif decide (((IntKind.u32.wrap i1) : Int) > 65535) then
          (bif decide (((IntKind.u32.wrap i1) : Int) ≤ 1114111) then
            (need (!decide (18 < 0)) <|
            need (!decide (12 < 0)) <|
            need (!decide (6 < 0)) <|
            need (decide (0 ≤ (IntKind.u8.wrap (BitVec.ofInt IntKind.u8.bits 240 ||| BitVec.ofInt IntKind.u8.bits (IntKind.u8.wrap (Int.fdiv i1 (2 ^ (min (Int.toNat 18) IntKind.i32.bits))))).toNat : Int)) && decide ((IntKind.u8.wrap (BitVec.ofInt IntKind.u8.bits 240 ||| BitVec.ofInt IntKind.u8.bits (IntKind.u8.wrap (Int.fdiv i1 (2 ^ (min (Int.toNat 18) IntKind.i32.bits))))).toNat : Int) < 256)) <|
            need (decide (0 ≤ (IntKind.u8.wrap (BitVec.ofInt IntKind.u8.bits 128 ||| BitVec.ofInt IntKind.u8.bits (IntKind.u8.wrap (BitVec.ofInt IntKind.u8.bits (IntKind.u8.wrap (Int.fdiv i1 (2 ^ (min (Int.toNat 12) IntKind.i32.bits)))) &&& BitVec.ofInt IntKind.u8.bits 63).toNat)).toNat : Int)) && decide ((IntKind.u8.wrap (BitVec.ofInt IntKind.u8.bits 128 ||| BitVec.ofInt IntKind.u8.bits (IntKind.u8.wrap (BitVec.ofInt IntKind.u8.bits (IntKind.u8.wrap (Int.fdiv i1 (2 ^ (min (Int.toNat 12) IntKind.i32.bits)))) &&& BitVec.ofInt IntKind.u8.bits 63).toNat)).toNat : Int) < 256)) <|
            need (decide (0 ≤ (IntKind.u8.wrap (BitVec.ofInt IntKind.u8.bits 128 ||| BitVec.ofInt IntKind.u8.bits (IntKind.u8.wrap (BitVec.ofInt IntKind.u8.bits (IntKind.u8.wrap (Int.fdiv i1 (2 ^ (min (Int.toNat 6) IntKind.i32.bits)))) &&& BitVec.ofInt IntKind.u8.bits 63).toNat)).toNat : Int)) && decide ((IntKind.u8.wrap (BitVec.ofInt IntKind.u8.bits 128 ||| BitVec.ofInt IntKind.u8.bits (IntKind.u8.wrap (BitVec.ofInt IntKind.u8.bits (IntKind.u8.wrap (Int.fdiv i1 (2 ^ (min (Int.toNat 6) IntKind.i32.bits)))) &&& BitVec.ofInt IntKind.u8.bits 63).toNat)).toNat : Int) < 256)) <|
            need (decide (0 ≤ (IntKind.u8.wrap (BitVec.ofInt IntKind.u8.bits 128 ||| BitVec.ofInt IntKind.u8.bits (IntKind.u8.wrap (BitVec.ofInt IntKind.u8.bits (IntKind.u8.wrap i1) &&& BitVec.ofInt IntKind.u8.bits 63).toNat)).toNat : Int)) && decide ((IntKind.u8.wrap (BitVec.ofInt IntKind.u8.bits 128 ||| BitVec.ofInt IntKind.u8.bits (IntKind.u8.wrap (BitVec.ofInt IntKind.u8.bits (IntKind.u8.wrap i1) &&& BitVec.ofInt IntKind.u8.bits 63).toNat)).toNat : Int) < 256)) <|
            need (decide (((s1.drop 0).take s1.length).length + ([UInt8.ofNat (Int.toNat (IntKind.u8.wrap (BitVec.ofInt IntKind.u8.bits 240 ||| BitVec.ofInt IntKind.u8.bits (IntKind.u8.wrap (Int.fdiv i1 (2 ^ (min (Int.toNat 18) IntKind.i32.bits))))).toNat)), UInt8.ofNat (Int.toNat (IntKind.u8.wrap (BitVec.ofInt IntKind.u8.bits 128 ||| BitVec.ofInt IntKind.u8.bits (IntKind.u8.wrap (BitVec.ofInt IntKind.u8.bits (IntKind.u8.wrap (Int.fdiv i1 (2 ^ (min (Int.toNat 12) IntKind.i32.bits)))) &&& BitVec.ofInt IntKind.u8.bits 63).toNat)).toNat)), UInt8.ofNat (Int.toNat (IntKind.u8.wrap (BitVec.ofInt IntKind.u8.bits 128 ||| BitVec.ofInt IntKind.u8.bits (IntKind.u8.wrap (BitVec.ofInt IntKind.u8.bits (IntKind.u8.wrap (Int.fdiv i1 (2 ^ (min (Int.toNat 6) IntKind.i32.bits)))) &&& BitVec.ofInt IntKind.u8.bits 63).toNat)).toNat)), UInt8.ofNat (Int.toNat (IntKind.u8.wrap (BitVec.ofInt IntKind.u8.bits 128 ||| BitVec.ofInt IntKind.u8.bits (IntKind.u8.wrap (BitVec.ofInt IntKind.u8.bits (IntKind.u8.wrap i1) &&& BitVec.ofInt IntKind.u8.bits 63).toNat)).toNat))] : List UInt8).length ≤ 1099511627776)) <|
            some ⟨AV.bytes (((((s1.drop 0).take s1.length) ++ [UInt8.ofNat (Int.toNat (IntKind.u8.wrap (BitVec.ofInt IntKind.u8.bits 240 ||| BitVec.ofInt IntKind.u8.bits (IntKind.u8.wrap (Int.fdiv i1 (2 ^ (min (Int.toNat 18) IntKind.i32.bits))))).toNat)), UInt8.ofNat (Int.toNat (IntKind.u8.wrap (BitVec.ofInt IntKind.u8.bits 128 ||| BitVec.ofInt IntKind.u8.bits (IntKind.u8.wrap (BitVec.ofInt IntKind.u8.bits (IntKind.u8.wrap (Int.fdiv i1 (2 ^ (min (Int.toNat 12) IntKind.i32.bits)))) &&& BitVec.ofInt IntKind.u8.bits 63).toNat)).toNat)), UInt8.ofNat (Int.toNat (IntKind.u8.wrap (BitVec.ofInt IntKind.u8.bits 128 ||| BitVec.ofInt IntKind.u8.bits (IntKind.u8.wrap (BitVec.ofInt IntKind.u8.bits (IntKind.u8.wrap (Int.fdiv i1 (2 ^ (min (Int.toNat 6) IntKind.i32.bits)))) &&& BitVec.ofInt IntKind.u8.bits 63).toNat)).toNat)), UInt8.ofNat (Int.toNat (IntKind.u8.wrap (BitVec.ofInt IntKind.u8.bits 128 ||| BitVec.ofInt IntKind.u8.bits (IntKind.u8.wrap (BitVec.ofInt IntKind.u8.bits (IntKind.u8.wrap i1) &&& BitVec.ofInt IntKind.u8.bits 63).toNat)).toNat))]).drop 0).take ((((s1.drop 0).take s1.length) ++ [UInt8.ofNat (Int.toNat (IntKind.u8.wrap (BitVec.ofInt IntKind.u8.bits 240 ||| BitVec.ofInt IntKind.u8.bits (IntKind.u8.wrap (Int.fdiv i1 (2 ^ (min (Int.toNat 18) IntKind.i32.bits))))).toNat)), UInt8.ofNat (Int.toNat (IntKind.u8.wrap (BitVec.ofInt IntKind.u8.bits 128 ||| BitVec.ofInt IntKind.u8.bits (IntKind.u8.wrap (BitVec.ofInt IntKind.u8.bits (IntKind.u8.wrap (Int.fdiv i1 (2 ^ (min (Int.toNat 12) IntKind.i32.bits)))) &&& BitVec.ofInt IntKind.u8.bits 63).toNat)).toNat)), UInt8.ofNat (Int.toNat (IntKind.u8.wrap (BitVec.ofInt IntKind.u8.bits 128 ||| BitVec.ofInt IntKind.u8.bits (IntKind.u8.wrap (BitVec.ofInt IntKind.u8.bits (IntKind.u8.wrap (Int.fdiv i1 (2 ^ (min (Int.toNat 6) IntKind.i32.bits)))) &&& BitVec.ofInt IntKind.u8.bits 63).toNat)).toNat)), UInt8.ofNat (Int.toNat (IntKind.u8.wrap (BitVec.ofInt IntKind.u8.bits 128 ||| BitVec.ofInt IntKind.u8.bits (IntKind.u8.wrap (BitVec.ofInt IntKind.u8.bits (IntKind.u8.wrap i1) &&& BitVec.ofInt IntKind.u8.bits 63).toNat)).toNat))]).length)), true, [AV.nilI]⟩)
          else
            need (decide (((s1.drop 0).take s1.length).length + ([239, 191, 189] : List UInt8).length ≤ 1099511627776)) <|
            some ⟨AV.bytes (((((s1.drop 0).take s1.length) ++ [239, 191, 189]).drop 0).take ((((s1.drop 0).take s1.length) ++ [239, 191, 189]).length)), true, [AV.nilI]⟩)
        else
          need (decide (((s1.drop 0).take s1.length).length + ([239, 191, 189] : List UInt8).length ≤ 1099511627776)) <|
          some ⟨AV.bytes (((((s1.drop 0).take s1.length) ++ [239, 191, 189]).drop 0).take ((((s1.drop 0).take s1.length) ++ [239, 191, 189]).length)), true, [AV.nilI]⟩
theorem unicodeUtf8AppendRuneNonASCII_eq (R : Nat → List AV → Option Res) (N : Nat) (s1 : List UInt8) (i1 : Int) : runF gl R N unicodeUtf8AppendRuneNonASCII [AV.ref (AV.bytes s1), AV.int .i32 i1] = unicodeUtf8AppendRuneNonASCIIr R N s1 i1 := by
  kernel_rfl
theorem unicodeUtf8AppendRuneNonASCII_fit : fitF Tryd.prog unicodeUtf8AppendRuneNonASCII Tryd.f53 = true := by
  kernel_rfl

def unicodeUtf8AppendRune_c0 : AC := .seq (.region [.op (some 4) none (.nilOwn 15 none)]) (.seq (.seq (.region [.op (some 5) none (.mv (.t 1)), .op (some 6) none (.cvInt .u32 (.t 5)), .op (some 7) none (.bin .leq (.t 6) (.k (AV.int .u32 127)))]) (.cond (.t 7) (.seq (.region [.op (some 8) none (.mv (.t 0)), .op (some 9) none (.mv (.t 1)), .op (some 10) none (.cvInt .u8 (.t 9)), .op (some 11) none (.bslice [.t 10] 1 true), .op (some 12) none (.app 15 (.t 8) (.t 11) 1 .any true), .op (some 4) none (.mv (.t 12))]) (.ret [4] [15])) (.skip))) (.seq (.region [.op (some 13) none (.mv (.t 0)), .op (some 14) none (.mv (.t 1)), .op (some 15) none (.callM (some (15, 1, true)) id_unicodeUtf8AppendRuneNonASCII [.t 13, .t 14] [true, false] [none] (.bytes)), .op (some 4) none (.mv (.t 15))]) (.ret [4] [15])))
def unicodeUtf8AppendRune : AFunc := ⟨2, 16, [.tmp 4], unicodeUtf8AppendRune_c0⟩
def unicodeUtf8AppendRuner (R : Nat → List AV → Option Res) (N : Nat) (s1 : List UInt8) (i1 : Int) : Option Res :=
  bif decide (((IntKind.u32.wrap i1) : Int) ≤ 127) then
    (need (decide (0 ≤ (IntKind.u8.wrap i1 : Int)) && decide ((IntKind.u8.wrap i1 : Int) < 256)) <|
    need (decide (((s1.drop 0).take s1.length).length + ([UInt8.ofNat (Int.toNat (IntKind.u8.wrap i1))] : List UInt8).length ≤ 1099511627776)) <|
    some ⟨AV.bytes (((((s1.drop 0).take s1.length) ++ [UInt8.ofNat (Int.toNat (IntKind.u8.wrap i1))]).drop 0).take ((((s1.drop 0).take s1.length) ++ [UInt8.ofNat (Int.toNat (IntKind.u8.wrap i1))]).length)), true, [AV.nilI]⟩)
  else
    need (Nat.beq s1.length s1.length) <|
    (R id_unicodeUtf8AppendRuneNonASCII [AV.ref (AV.bytes s1), AV.int .i32 i1]).bind fun r1 =>
    asC r1.outs fun o1 q1 =>
    asN q1 <|
    need r1.own <|
    asY r1.v fun s2 =>
    some ⟨AV.bytes ((s2.drop 0).take s2.length), true, [AV.nilI]⟩
theorem unicodeUtf8AppendRune_eq (R : Nat → List AV → Option Res) (N : Nat) (s1 : List UInt8) (i1 : Int) : runF gl R N unicodeUtf8AppendRune [AV.ref (AV.bytes s1), AV.int .i32 i1] = unicodeUtf8AppendRuner R N s1 i1 := by
  kernel_rfl
theorem unicodeUtf8AppendRune_fit : fitF Tryd.prog unicodeUtf8AppendRune Tryd.f33 = true := by
  kernel_rfl

def doubleTake_L1s (R : Nat → List AV → Option Res) (N : Nat) (go : List UInt8 → Int → List UInt8 → Option Res) (k0 : List UInt8 → Int → Bool → Option Res) (k1 : Option Res) (s2 : List UInt8) (i1 : Int) (s3 : List UInt8) : Option Res :=
  bif decide ((i1 : Int) < ((s2.length : Nat) : Int)) then
    (need (decide (0 ≤ (i1 : Int))) <|
    (s2[Int.toNat i1]?).bind fun c2 =>
    bif ((c2.toNat : Int) : Int) == 10 then
      (bif ((c2.toNat : Int) : Int) == 10 then
        (k0 ([] : List UInt8) 0 false)
      else
        bif ((c2.toNat : Int) : Int) == 34 then
          (k0 ((s3.drop 0).take s3.length) (IntKind.i64.wrap (i1 + 1)) true)
        else
          bif ((c2.toNat : Int) : Int) == 92 then
            (need (decide (0 ≤ (IntKind.i64.wrap (i1 + 1) : Int)) && decide ((IntKind.i64.wrap (i1 + 1) : Int) ≤ ((s2.length : Nat) : Int))) <|
            (R id_doubleEscape [AV.bytes ((s2.take s2.length).drop (Int.toNat (IntKind.i64.wrap (i1 + 1))))]).bind fun r1 =>
            asJIBT r1.v fun i2 i3 b1 =>
            bif !b1 then
              (k0 ([] : List UInt8) 0 false)
            else
              need (Nat.beq s3.length s3.length) <|
              (R id_unicodeUtf8AppendRune [AV.ref (AV.bytes s3), AV.int .i32 i2]).bind fun r2 =>
              asC r2.outs fun o1 q1 =>
              asN q1 <|
              need r2.own <|
              asY r2.v fun s4 =>
              go s2 (IntKind.i64.wrap ((IntKind.i64.wrap (i1 + i3)) + 1)) s4)
          else
            need (decide (0 ≤ (i1 : Int))) <|
            (s2[Int.toNat i1]?).bind fun c3 =>
            need (decide (0 ≤ ((c3.toNat : Int) : Int)) && decide (((c3.toNat : Int) : Int) < 256)) <|
            need (decide (((s3.drop 0).take s3.length).length + ([UInt8.ofNat (Int.toNat (c3.toNat : Int))] : List UInt8).length ≤ 1099511627776)) <|
            go s2 (IntKind.i64.wrap (i1 + 1)) (((s3.drop 0).take s3.length) ++ [UInt8.ofNat (Int.toNat (c3.toNat : Int))]))
    else
      bif ((c2.toNat : Int) : Int) == 13 then
        (k0 ([] : List UInt8) 0 false)
      else
        bif ((c2.toNat : Int) : Int) == 34 then
          (k0 ((s3.drop 0).take s3.length) (IntKind.i64.wrap (i1 + 1)) true)
        else
          bif ((c2.toNat : Int) : Int) == 92 then
            (need (decide (0 ≤ (IntKind.i64.wrap (i1 + 1) : Int)) && decide ((IntKind.i64.wrap (i1 + 1) : Int) ≤ ((s2.length : Nat) : Int))) <|
            (R id_doubleEscape [AV.bytes ((s2.take s2.length).drop (Int.toNat (IntKind.i64.wrap (i1 + 1))))]).bind fun r3 =>
            asJIBT r3.v fun i4 i5 b2 =>
            bif !b2 then
              (k0 ([] : List UInt8) 0 false)
            else
              need (Nat.beq s3.length s3.length) <|
              (R id_unicodeUtf8AppendRune [AV.ref (AV.bytes s3), AV.int .i32 i4]).bind fun r4 =>
              asC r4.outs fun o2 q2 =>
              asN q2 <|
              need r4.own <|
              asY r4.v fun s5 =>
              go s2 (IntKind.i64.wrap ((IntKind.i64.wrap (i1 + i5)) + 1)) s5)
          else
            need (decide (0 ≤ (i1 : Int))) <|
            (s2[Int.toNat i1]?).bind fun c4 =>
            need (decide (0 ≤ ((c4.toNat : Int) : Int)) && decide (((c4.toNat : Int) : Int) < 256)) <|
            need (decide (((s3.drop 0).take s3.length).length + ([UInt8.ofNat (Int.toNat (c4.toNat : Int))] : List UInt8).length ≤ 1099511627776)) <|
            go s2 (IntKind.i64.wrap (i1 + 1)) (((s3.drop 0).take s3.length) ++ [UInt8.ofNat (Int.toNat (c4.toNat : Int))]))
  else
    k1
def doubleTake_L1 (R : Nat → List AV → Option Res) (N : Nat) (k0 : List UInt8 → Int → Bool → Option Res) (k1 : Option Res) : Nat → List UInt8 → Int → List UInt8 → Option Res
  | 0, _, _, _ => none
  | n + 1, s2, i1, s3 => doubleTake_L1s R N (doubleTake_L1 R N k0 k1 n) k0 k1 s2 i1 s3
def doubleTake_c0 : AC := .seq (.seq (.region [.op (some 19) none (.mv (.t 6)), .op (some 20) none (.mv (.t 0)), .op (some 21) none (.len (.t 20) false), .op (some 22) none (.bin .lss (.t 19) (.t 21))]) (.cond (.t 22) (.skip) (.exit 0 [] []))) (.seq (.block 1 (.seq (.region [.op (some 25) none (.mv (.t 0)), .op (some 26) none (.mv (.t 6)), .op (some 27) none (.iaddr (.t 25) (.t 26) 1 (.int .u8)), .op (some 28) none (.load (.t 27) none (.int .u8))]) (.block 2 (.seq (.seq (.region [.op (some 37) none (.bin .eql (.t 28) (.k (AV.int .u8 10))), .op (some 36) none (.mv (.t 37))]) (.cond (.t 36) (.skip) (.region [.op (some 38) none (.bin .eql (.t 28) (.k (AV.int .u8 13))), .op (some 36) none (.mv (.t 38))]))) (.cond (.t 36) (.seq (.region [.op (some 2) none (.mv (.k (AV.str ([] : List UInt8)))), .op (some 3) none (.mv (.k (AV.int .i64 0))), .op (some 4) none (.mv (.k (AV.bool false)))]) (.ret [2, 3, 4] [])) (.seq (.region [.op (some 40) none (.bin .eql (.t 28) (.k (AV.int .u8 34))), .op (some 39) none (.mv (.t 40))]) (.cond (.t 39) (.seq (.region [.op (some 41) none (.mv (.t 5)), .op (some 42) none (.cvStr (.t 41)), .op (some 43) none (.mv (.t 6)), .op (some 44) none (.bin .add (.t 43) (.k (AV.int .i64 1))), .op (some 2) none (.mv (.t 42)), .op (some 3) none (.mv (.t 44)), .op (some 4) none (.mv (.k (AV.bool true)))]) (.ret [2, 3, 4] [])) (.seq (.region [.op (some 46) none (.bin .eql (.t 28) (.k (AV.int .u8 92))), .op (some 45) none (.mv (.t 46))]) (.cond (.t 45) (.seq (.region [.op (some 48) none (.mv (.t 0)), .op (some 49) none (.mv (.t 6)), .op (some 50) none (.bin .add (.t 49) (.k (AV.int .i64 1))), .op (some 51) none (.slice (.t 48) (some (.t 50)) none 1), .op (some 52) none (.call id_doubleEscape [.t 51] (.tup [.int .i32, .int .i64, .bool])), .op (some 47) none (.mv (.t 52)), .op (some 53) none (.extract (.t 47) 0), .op (some 54) none (.extract (.t 47) 1), .op (some 55) none (.extract (.t 47) 2), .op (some 7) none (.mv (.t 53)), .op (some 8) none (.mv (.t 54)), .op (some 9) none (.mv (.t 55))]) (.seq (.seq (.region [.op (some 56) none (.mv (.t 9)), .op (some 57) none (.un .not (.t 56))]) (.cond (.t 57) (.seq (.region [.op (some 2) none (.mv (.k (AV.str ([] : List UInt8)))), .op (some 3) none (.mv (.k (AV.int .i64 0))), .op (some 4) none (.mv (.k (AV.bool false)))]) (.ret [2, 3, 4] [])) (.skip))) (.seq (.region [.op (some 58) none (.mv (.t 5)), .op (some 59) none (.mv (.t 7)), .op (some 60) none (.callM (some (60, 1, true)) id_unicodeUtf8AppendRune [.t 58, .t 59] [true, false] [none] (.bytes)), .op (some 5) none (.mv (.t 60))]) (.region [.op (some 61) none (.mv (.t 6)), .op (some 62) none (.mv (.t 8)), .op (some 63) none (.bin .add (.t 61) (.t 62)), .op (some 6) none (.mv (.t 63))])))) (.region [.op (some 29) none (.mv (.t 5)), .op (some 30) none (.mv (.t 0)), .op (some 31) none (.mv (.t 6)), .op (some 32) none (.iaddr (.t 30) (.t 31) 1 (.int .u8)), .op (some 33) none (.load (.t 32) none (.int .u8)), .op (some 34) none (.bslice [.t 33] 1 true), .op (some 35) none (.app 60 (.t 29) (.t 34) 1 .any true), .op (some 5) none (.mv (.t 35))])))))))))) (.region [.op (some 23) none (.mv (.t 6)), .op (some 24) none (.bin .add (.t 23) (.k (AV.int .i64 1))), .op (some 6) none (.mv (.t 24))]))
theorem doubleTake_L1s_eq (R : Nat → List AV → Option Res) (N : Nat) (K : Ex → St → Option Res) (W : St → Option Res) (s2 : List UInt8) (i1 : Int) (s3 : List UInt8) :
    evC gl R N doubleTake_c0 (Kseq (fun st' => W (prune [0, 5, 6] [60] st')) K) ⟨[(0, .imm (AV.bytes s2)), (5, .own 60 0 s3.length none), (6, .imm (AV.int .i64 i1))], [(60, .bytes s3 false)]⟩ =
    doubleTake_L1s R N (fun (s2 : List UInt8) (i1 : Int) (s3 : List UInt8) => W ⟨[(0, .imm (AV.bytes s2)), (5, .own 60 0 s3.length none), (6, .imm (AV.int .i64 i1))], [(60, .bytes s3 false)]⟩) (fun (s6 : List UInt8) (i6 : Int) (b3 : Bool) => K .ret ⟨[(2, .imm (AV.str s6)), (3, .imm (AV.int .i64 i6)), (4, .imm (AV.bool b3))], []⟩) (K (.exit 0) ⟨[], []⟩) s2 i1 s3 := by
  kernel_rfl
theorem doubleTake_L1_eq (R : Nat → List AV → Option Res) (N : Nat) (K : Ex → St → Option Res) : ∀ (n : Nat) (s2 : List UInt8) (i1 : Int) (s3 : List UInt8),
    rounds [0, 5, 6] [60] (evC gl R N doubleTake_c0) K n ⟨[(0, .imm (AV.bytes s2)), (5, .own 60 0 s3.length none), (6, .imm (AV.int .i64 i1))], [(60, .bytes s3 false)]⟩ = doubleTake_L1 R N (fun (s6 : List UInt8) (i6 : Int) (b3 : Bool) => K .ret ⟨[(2, .imm (AV.str s6)), (3, .imm (AV.int .i64 i6)), (4, .imm (AV.bool b3))], []⟩) (K (.exit 0) ⟨[], []⟩) n s2 i1 s3
  | 0, _, _, _ => rfl
  | n + 1, s2, i1, s3 => (doubleTake_L1s_eq R N K (rounds [0, 5, 6] [60] (evC gl R N doubleTake_c0) K n) s2 i1 s3).trans
      (congrArg (fun go => doubleTake_L1s R N go (fun (s6 : List UInt8) (i6 : Int) (b3 : Bool) => K .ret ⟨[(2, .imm (AV.str s6)), (3, .imm (AV.int .i64 i6)), (4, .imm (AV.bool b3))], []⟩) (K (.exit 0) ⟨[], []⟩) s2 i1 s3) (funext fun s2 => funext fun i1 => funext fun s3 => doubleTake_L1_eq R N K n s2 i1 s3))
def doubleTake_c1 : AC := .seq (.region [.op (some 2) none (.mv (.k (AV.str ([] : List UInt8)))), .op (some 3) none (.mv (.k (AV.int .i64 0))), .op (some 4) none (.mv (.k (AV.bool false)))]) (.ret [2, 3, 4] [])
def doubleTake_c2 : AC := .seq (.region [.op (some 2) none (.mv (.k (AV.str ([] : List UInt8)))), .op (some 3) none (.mv (.k (AV.int .i64 0))), .op (some 4) none (.mv (.k (AV.bool false)))]) (.seq (.seq (.region [.op (some 10) none (.mv (.t 0)), .op (some 11) none (.len (.t 10) false), .op (some 12) none (.bin .eql (.t 11) (.k (AV.int .i64 0))), .op (some 13) none (.mv (.t 12)), .split 13, .op (some 14) (some (13, false)) (.mv (.t 0)), .op (some 15) (some (13, false)) (.iaddr (.t 14) (.k (AV.int .i64 0)) 1 (.int .u8)), .op (some 16) (some (13, false)) (.load (.t 15) none (.int .u8)), .op (some 17) (some (13, false)) (.bin .neq (.t 16) (.k (AV.int .u8 34))), .op (some 18) none (.pick (.t 13) (.k (AV.bool true)) (.t 17))]) (.cond (.t 18) (.seq (.region [.op (some 2) none (.mv (.k (AV.str ([] : List UInt8)))), .op (some 3) none (.mv (.k (AV.int .i64 0))), .op (some 4) none (.mv (.k (AV.bool false)))]) (.ret [2, 3, 4] [])) (.skip))) (.seq (.region [.op (some 5) none (.nilOwn 60 none)]) (.seq (.seq (.region [.op (some 6) none (.mv (.k (AV.int .i64 1)))]) (.block 0 (.loop [0, 5, 6] [60] (doubleTake_c0)))) (doubleTake_c1))))
def doubleTake : AFunc := ⟨1, 64, [.tmp 2, .tmp 3, .tmp 4], doubleTake_c2⟩
def doubleTaker (R : Nat → List AV → Option Res) (N : Nat) (s1 : List UInt8) : Option Res :=
  bif (((s1.length : Nat) : Int) : Int) == 0 then
    (some ⟨AV.tup [AV.str ([] : List UInt8), AV.int .i64 0, AV.bool false], false, []⟩)
  else
    need (decide (0 ≤ (0 : Int))) <|
    (s1[Int.toNat 0]?).bind fun c1 =>
    bif ((c1.toNat : Int) : Int) != 34 then
      (some ⟨AV.tup [AV.str ([] : List UInt8), AV.int .i64 0, AV.bool false], false, []⟩)
    else
      doubleTake_L1 R N
        (fun s8 i8 b5 =>
          some ⟨AV.tup [AV.str s8, AV.int .i64 i8, AV.bool b5], false, []⟩)
        (
          some ⟨AV.tup [AV.str ([] : List UInt8), AV.int .i64 0, AV.bool false], false, []⟩)
        N s1 1 []
theorem doubleTake_eq (R : Nat → List AV → Option Res) (N : Nat) (s1 : List UInt8) : runF gl R N doubleTake [AV.bytes s1] = doubleTaker R N s1 := by
  refine Eq.trans (b :=
      bif (((s1.length : Nat) : Int) : Int) == 0 then
        (some ⟨AV.tup [AV.str ([] : List UInt8), AV.int .i64 0, AV.bool false], false, []⟩)
      else
        need (decide (0 ≤ (0 : Int))) <|
        (s1[Int.toNat 0]?).bind fun c1 =>
        bif ((c1.toNat : Int) : Int) != 34 then
          (some ⟨AV.tup [AV.str ([] : List UInt8), AV.int .i64 0, AV.bool false], false, []⟩)
        else
          rounds [0, 5, 6] [60] (evC gl R N doubleTake_c0) (Kblock 0 (Kthen gl R N doubleTake_c1 (Kret doubleTake.rets []))) N ⟨[(0, .imm (AV.bytes s1)), (5, .own 60 0 (([] : List UInt8).length) none), (6, .imm (AV.int .i64 1))], [(60, .bytes [] false)]⟩) (by kernel_rfl) ?_
  simp (config := { maxSteps := 100000000 }) only [doubleTake_L1_eq]
  kernel_rfl
theorem doubleTake_fit : fitF Tryd.prog doubleTake Tryd.f18 = true := by
  kernel_rfl

noncomputable def law06DoubleEscapes_L1s (R : Nat → List AV → Option Res) (N : Nat) (go : List (AV × AV) → Option (AV × AV) → Option Res) (k0 : Option Res) (k1 : Bool → Option Res) (m1 : List (AV × AV)) (o1 : Option (AV × AV)) : Option Res :=
  bif Nat.beq m1.length 0 then
    (k0)
  else
    anyN m1.length fun j1 => (m1[j1]?).bind fun p1 =>
    asI .u8 p1.1 fun i3 =>
    asS p1.2 fun s3 =>
    need (decide (0 ≤ (i3 : Int)) && decide ((i3 : Int) < 256)) <|
    (R id_doubleTake [AV.bytes [34, 120, 92, UInt8.ofNat (Int.toNat i3), 121, 34]]).bind fun r2 =>
    asSIBT r2.v fun s4 i4 b2 =>
    bif !b2 then
      (k1 false)
    else
      need (decide ((([120] : List UInt8) : List UInt8).length + s3.length ≤ 9223372036854775807)) <|
      need (decide ((([120] : List UInt8) ++ s3 : List UInt8).length + (([121] : List UInt8) : List UInt8).length ≤ 9223372036854775807)) <|
      bif !(s4 == ((([120] : List UInt8) ++ s3) ++ ([121] : List UInt8))) then
        (k1 false)
      else
        go (m1.eraseIdx j1) (some (AV.int .u8 i3, AV.str s3))
noncomputable def law06DoubleEscapes_L1 (R : Nat → List AV → Option Res) (N : Nat) (k0 : Option Res) (k1 : Bool → Option Res) : Nat → List (AV × AV) → Option (AV × AV) → Option Res
  | 0, _, _ => none
  | n + 1, m1, o1 => law06DoubleEscapes_L1s R N (law06DoubleEscapes_L1 R N k0 k1 n) k0 k1 m1 o1
def law06DoubleEscapes_c0 : AC := .seq (.regionM (.t 45) 46 (.int .u8) (.str) [.op (some 47) none (.extract (.t 46) 0)]) (.seq (.cond (.t 47) (.skip) (.exit 0 [] [])) (.block 1 (.seq (.region [.op (some 48) none (.entM (.t 45) (.int .u8) (.str)), .op (some 49) none (.extract (.t 48) 0), .op (some 50) none (.extract (.t 48) 1), .op (some 9) none (.mv (.t 49)), .op (some 10) none (.mv (.t 50))]) (.seq (.region [.op (some 52) none (.mv (.t 9)), .op (some 53) none (.bslice [.k (AV.int .u8 34), .k (AV.int .u8 120), .k (AV.int .u8 92), .t 52, .k (AV.int .u8 121), .k (AV.int .u8 34)] 1 true), .op (some 54) none (.call id_doubleTake [.t 53] (.tup [.str, .int .i64, .bool])), .op (some 51) none (.mv (.t 54)), .op (some 55) none (.extract (.t 51) 0), .op (some 56) none (.extract (.t 51) 1), .op (some 57) none (.extract (.t 51) 2), .op (some 11) none (.mv (.t 55)), .op (some 12) none (.mv (.t 56)), .op (some 13) none (.mv (.t 57))]) (.seq (.region [.op (some 58) none (.mv (.t 13)), .op (some 59) none (.un .not (.t 58)), .op (some 60) none (.mv (.t 59)), .split 60, .op (some 61) (some (60, false)) (.mv (.t 11)), .op (some 62) (some (60, false)) (.mv (.t 10)), .op (some 63) (some (60, false)) (.bin .add (.k (AV.str ([120] : List UInt8))) (.t 62)), .op (some 64) (some (60, false)) (.bin .add (.t 63) (.k (AV.str ([121] : List UInt8)))), .op (some 65) (some (60, false)) (.bin .neq (.t 61) (.t 64)), .op (some 66) none (.pick (.t 60) (.k (AV.bool true)) (.t 65))]) (.cond (.t 66) (.seq (.region [.op (some 2) none (.mv (.k (AV.bool false)))]) (.ret [2] [])) (.skip)))))))
theorem law06DoubleEscapes_L1s_eq (R : Nat → List AV → Option Res) (N : Nat) (K : Ex → St → Option Res) (W : St → Option Res) (m1 : List (AV × AV)) (o1 : Option (AV × AV)) :
    evC gl R N law06DoubleEscapes_c0 (Kseq (fun st' => W (prune [45] [1045] st')) K) ⟨[(45, .ptr 1045 0 0)], [(1045, .miter m1 o1)]⟩ =
    law06DoubleEscapes_L1s R N (fun (m1 : List (AV × AV)) (o1 : Option (AV × AV)) => W ⟨[(45, .ptr 1045 0 0)], [(1045, .miter m1 o1)]⟩) (K (.exit 0) ⟨[], []⟩) (fun (b3 : Bool) => K .ret ⟨[(2, .imm (AV.bool b3))], []⟩) m1 o1 := by
  kernel_rfl
theorem law06DoubleEscapes_L1_eq (R : Nat → List AV → Option Res) (N : Nat) (K : Ex → St → Option Res) : ∀ (n : Nat) (m1 : List (AV × AV)) (o1 : Option (AV × AV)),
    rounds [45] [1045] (evC gl R N law06DoubleEscapes_c0) K n ⟨[(45, .ptr 1045 0 0)], [(1045, .miter m1 o1)]⟩ = law06DoubleEscapes_L1 R N (K (.exit 0) ⟨[], []⟩) (fun (b3 : Bool) => K .ret ⟨[(2, .imm (AV.bool b3))], []⟩) n m1 o1
  | 0, _, _ => rfl
  | n + 1, m1, o1 => (law06DoubleEscapes_L1s_eq R N K (rounds [45] [1045] (evC gl R N law06DoubleEscapes_c0) K n) m1 o1).trans
      (congrArg (fun go => law06DoubleEscapes_L1s R N go (K (.exit 0) ⟨[], []⟩) (fun (b3 : Bool) => K .ret ⟨[(2, .imm (AV.bool b3))], []⟩) m1 o1) (funext fun m1 => funext fun o1 => law06DoubleEscapes_L1_eq R N K n m1 o1))
def law06DoubleEscapes_c1 : AC := .seq (.region [.op (some 67) none (.call id_law06Wakes [] (.bool)), .op (some 2) none (.mv (.t 67))]) (.ret [2] [])
def law06DoubleEscapes_c2 : AC := .seq (.region [.op (some 2) none (.mv (.k (AV.bool false)))]) (.seq (.region [.op (some 14) none (.mkMap 2014), .op none none (.insM (some .u8) (.t 14) (.k (AV.int .u8 48)) (.k (AV.str ([0] : List UInt8)))), .op none none (.insM (some .u8) (.t 14) (.k (AV.int .u8 97)) (.k (AV.str ([7] : List UInt8)))), .op none none (.insM (some .u8) (.t 14) (.k (AV.int .u8 98)) (.k (AV.str ([8] : List UInt8)))), .op none none (.insM (some .u8) (.t 14) (.k (AV.int .u8 116)) (.k (AV.str ([9] : List UInt8)))), .op none none (.insM (some .u8) (.t 14) (.k (AV.int .u8 110)) (.k (AV.str ([10] : List UInt8)))), .op none none (.insM (some .u8) (.t 14) (.k (AV.int .u8 118)) (.k (AV.str ([11] : List UInt8)))), .op none none (.insM (some .u8) (.t 14) (.k (AV.int .u8 102)) (.k (AV.str ([12] : List UInt8)))), .op none none (.insM (some .u8) (.t 14) (.k (AV.int .u8 114)) (.k (AV.str ([13] : List UInt8)))), .op none none (.insM (some .u8) (.t 14) (.k (AV.int .u8 101)) (.k (AV.str ([27] : List UInt8)))), .op none none (.insM (some .u8) (.t 14) (.k (AV.int .u8 34)) (.k (AV.str ([34] : List UInt8)))), .op none none (.insM (some .u8) (.t 14) (.k (AV.int .u8 47)) (.k (AV.str ([47] : List UInt8)))), .op none none (.insM (some .u8) (.t 14) (.k (AV.int .u8 92)) (.k (AV.str ([92] : List UInt8)))), .op none none (.insM (some .u8) (.t 14) (.k (AV.int .u8 32)) (.k (AV.str ([32] : List UInt8)))), .op none none (.insM (some .u8) (.t 14) (.k (AV.int .u8 78)) (.k (AV.str ([194, 133] : List UInt8)))), .op none none (.insM (some .u8) (.t 14) (.k (AV.int .u8 95)) (.k (AV.str ([194, 160] : List UInt8)))), .op none none (.insM (some .u8) (.t 14) (.k (AV.int .u8 76)) (.k (AV.str ([226, 128, 168] : List UInt8)))), .op none none (.insM (some .u8) (.t 14) (.k (AV.int .u8 80)) (.k (AV.str ([226, 128, 169] : List UInt8)))), .op (some 15) none (.mv (.t 14)), .op (some 3) none (.mv (.t 15))]) (.seq (.region [.op (some 17) none (.mv (.t 3)), .op (some 18) none (.mv (.t 0)), .op (some 19) none (.lookM (some .u8) (.t 17) (.t 18) (AV.str []) (.str)), .op (some 16) none (.mv (.t 19)), .op (some 20) none (.extract (.t 16) 0), .op (some 21) none (.extract (.t 16) 1), .op (some 4) none (.mv (.t 20)), .op (some 5) none (.mv (.t 21))]) (.seq (.region [.op (some 23) none (.mv (.t 0)), .op (some 24) none (.bslice [.k (AV.int .u8 34), .k (AV.int .u8 92), .t 23, .k (AV.int .u8 34)] 1 true), .op (some 25) none (.call id_doubleTake [.t 24] (.tup [.str, .int .i64, .bool])), .op (some 22) none (.mv (.t 25)), .op (some 26) none (.extract (.t 22) 0), .op (some 27) none (.extract (.t 22) 1), .op (some 28) none (.extract (.t 22) 2), .op (some 6) none (.mv (.t 26)), .op (some 7) none (.mv (.t 27)), .op (some 8) none (.mv (.t 28))]) (.seq (.seq (.region [.op (some 29) none (.mv (.t 8)), .op (some 30) none (.mv (.t 5)), .op (some 31) none (.binB .neq (.t 29) (.t 30)), .op (some 32) none (.mv (.t 31)), .split 32, .op (some 33) (some (32, false)) (.mv (.t 8)), .op (some 34) (some (32, false)) (.mv (.t 33)), .split 34, .op (some 35) (some (34, true)) (.mv (.t 6)), .op (some 36) (some (34, true)) (.mv (.t 4)), .op (some 37) (some (34, true)) (.bin .neq (.t 35) (.t 36)), .op (some 38) (some (34, true)) (.mv (.t 37)), .split 38, .op (some 39) (some (38, false)) (.mv (.t 7)), .op (some 40) (some (38, false)) (.bin .neq (.t 39) (.k (AV.int .i64 4))), .op (some 41) (some (34, true)) (.pick (.t 38) (.k (AV.bool true)) (.t 40)), .op (some 42) (some (32, false)) (.pick (.t 34) (.t 41) (.k (AV.bool false))), .op (some 43) none (.pick (.t 32) (.k (AV.bool true)) (.t 42))]) (.cond (.t 43) (.seq (.region [.op (some 2) none (.mv (.k (AV.bool false)))]) (.ret [2] [])) (.skip))) (.seq (.seq (.region [.op (some 44) none (.mv (.t 3)), .op (some 45) none (.rangeM 1045 (.t 44))]) (.block 0 (.loop [45] [1045] (law06DoubleEscapes_c0)))) (law06DoubleEscapes_c1))))))
def law06DoubleEscapes : AFunc := ⟨1, 68, [.tmp 2], law06DoubleEscapes_c2⟩
noncomputable def law06DoubleEscapesr (R : Nat → List AV → Option Res) (N : Nat) (i1 : Int) : Option Res :=
  need (keyIs (some .u8) (AV.int .u8 48) && (AV.str ([0] : List UInt8)).plainV && freshK (AV.int .u8 48) ([] : List (AV × AV)) && decide (([] : List (AV × AV)).length ≤ 1000000)) <|
  need (keyIs (some .u8) (AV.int .u8 97) && (AV.str ([7] : List UInt8)).plainV && freshK (AV.int .u8 97) (([] : List (AV × AV)) ++ [(AV.int .u8 48, AV.str ([0] : List UInt8))]) && decide ((([] : List (AV × AV)) ++ [(AV.int .u8 48, AV.str ([0] : List UInt8))]).length ≤ 1000000)) <|
  need (keyIs (some .u8) (AV.int .u8 98) && (AV.str ([8] : List UInt8)).plainV && freshK (AV.int .u8 98) ((([] : List (AV × AV)) ++ [(AV.int .u8 48, AV.str ([0] : List UInt8))]) ++ [(AV.int .u8 97, AV.str ([7] : List UInt8))]) && decide (((([] : List (AV × AV)) ++ [(AV.int .u8 48, AV.str ([0] : List UInt8))]) ++ [(AV.int .u8 97, AV.str ([7] : List UInt8))]).length ≤ 1000000)) <|
  need (keyIs (some .u8) (AV.int .u8 116) && (AV.str ([9] : List UInt8)).plainV && freshK (AV.int .u8 116) (((([] : List (AV × AV)) ++ [(AV.int .u8 48, AV.str ([0] : List UInt8))]) ++ [(AV.int .u8 97, AV.str ([7] : List UInt8))]) ++ [(AV.int .u8 98, AV.str ([8] : List UInt8))]) && decide ((((([] : List (AV × AV)) ++ [(AV.int .u8 48, AV.str ([0] : List UInt8))]) ++ [(AV.int .u8 97, AV.str ([7] : List UInt8))]) ++ [(AV.int .u8 98, AV.str ([8] : List UInt8))]).length ≤ 1000000)) <|
  need (keyIs (some .u8) (AV.int .u8 110) && (AV.str ([10] : List UInt8)).plainV && freshK (AV.int .u8 110) ((((([] : List (AV × AV)) ++ [(AV.int .u8 48, AV.str ([0] : List UInt8))]) ++ [(AV.int .u8 97, AV.str ([7] : List UInt8))]) ++ [(AV.int .u8 98, AV.str ([8] : List UInt8))]) ++ [(AV.int .u8 116, AV.str ([9] : List UInt8))]) && decide (((((([] : List (AV × AV)) ++ [(AV.int .u8 48, AV.str ([0] : List UInt8))]) ++ [(AV.int .u8 97, AV.str ([7] : List UInt8))]) ++ [(AV.int .u8 98, AV.str ([8] : List UInt8))]) ++ [(AV.int .u8 116, AV.str ([9] : List UInt8))]).length ≤ 1000000)) <|
  need (keyIs (some .u8) (AV.int .u8 118) && (AV.str ([11] : List UInt8)).plainV && freshK (AV.int .u8 118) (((((([] : List (AV × AV)) ++ [(AV.int .u8 48, AV.str ([0] : List UInt8))]) ++ [(AV.int .u8 97, AV.str ([7] : List UInt8))]) ++ [(AV.int .u8 98, AV.str ([8] : List UInt8))]) ++ [(AV.int .u8 116, AV.str ([9] : List UInt8))]) ++ [(AV.int .u8 110, AV.str ([10] : List UInt8))]) && decide ((((((([] : List (AV × AV)) ++ [(AV.int .u8 48, AV.str ([0] : List UInt8))]) ++ [(AV.int .u8 97, AV.str ([7] : List UInt8))]) ++ [(AV.int .u8 98, AV.str ([8] : List UInt8))]) ++ [(AV.int .u8 116, AV.str ([9] : List UInt8))]) ++ [(AV.int .u8 110, AV.str ([10] : List UInt8))]).length ≤ 1000000)) <|
  need (keyIs (some .u8) (AV.int .u8 102) && (AV.str ([12] : List UInt8)).plainV && freshK (AV.int .u8 102) ((((((([] : List (AV × AV)) ++ [(AV.int .u8 48, AV.str ([0] : List UInt8))]) ++ [(AV.int .u8 97, AV.str ([7] : List UInt8))]) ++ [(AV.int .u8 98, AV.str ([8] : List UInt8))]) ++ [(AV.int .u8 116, AV.str ([9] : List UInt8))]) ++ [(AV.int .u8 110, AV.str ([10] : List UInt8))]) ++ [(AV.int .u8 118, AV.str ([11] : List UInt8))]) && decide (((((((([] : List (AV × AV)) ++ [(AV.int .u8 48, AV.str ([0] : List UInt8))]) ++ [(AV.int .u8 97, AV.str ([7] : List UInt8))]) ++ [(AV.int .u8 98, AV.str ([8] : List UInt8))]) ++ [(AV.int .u8 116, AV.str ([9] : List UInt8))]) ++ [(AV.int .u8 110, AV.str ([10] : List UInt8))]) ++ [(AV.int .u8 118, AV.str ([11] : List UInt8))]).length ≤ 1000000)) <|
  need (keyIs (some .u8) (AV.int .u8 114) && (AV.str ([13] : List UInt8)).plainV && freshK (AV.int .u8 114) (((((((([] : List (AV × AV)) ++ [(AV.int .u8 48, AV.str ([0] : List UInt8))]) ++ [(AV.int .u8 97, AV.str ([7] : List UInt8))]) ++ [(AV.int .u8 98, AV.str ([8] : List UInt8))]) ++ [(AV.int .u8 116, AV.str ([9] : List UInt8))]) ++ [(AV.int .u8 110, AV.str ([10] : List UInt8))]) ++ [(AV.int .u8 118, AV.str ([11] : List UInt8))]) ++ [(AV.int .u8 102, AV.str ([12] : List UInt8))]) && decide ((((((((([] : List (AV × AV)) ++ [(AV.int .u8 48, AV.str ([0] : List UInt8))]) ++ [(AV.int .u8 97, AV.str ([7] : List UInt8))]) ++ [(AV.int .u8 98, AV.str ([8] : List UInt8))]) ++ [(AV.int .u8 116, AV.str ([9] : List UInt8))]) ++ [(AV.int .u8 110, AV.str ([10] : List UInt8))]) ++ [(AV.int .u8 118, AV.str ([11] : List UInt8))]) ++ [(AV.int .u8 102, AV.str ([12] : List UInt8))]).length ≤ 1000000)) <|
  need (keyIs (some .u8) (AV.int .u8 101) && (AV.str ([27] : List UInt8)).plainV && freshK (AV.int .u8 101) ((((((((([] : List (AV × AV)) ++ [(AV.int .u8 48, AV.str ([0] : List UInt8))]) ++ [(AV.int .u8 97, AV.str ([7] : List UInt8))]) ++ [(AV.int .u8 98, AV.str ([8] : List UInt8))]) ++ [(AV.int .u8 116, AV.str ([9] : List UInt8))]) ++ [(AV.int .u8 110, AV.str ([10] : List UInt8))]) ++ [(AV.int .u8 118, AV.str ([11] : List UInt8))]) ++ [(AV.int .u8 102, AV.str ([12] : List UInt8))]) ++ [(AV.int .u8 114, AV.str ([13] : List UInt8))]) && decide (((((((((([] : List (AV × AV)) ++ [(AV.int .u8 48, AV.str ([0] : List UInt8))]) ++ [(AV.int .u8 97, AV.str ([7] : List UInt8))]) ++ [(AV.int .u8 98, AV.str ([8] : List UInt8))]) ++ [(AV.int .u8 116, AV.str ([9] : List UInt8))]) ++ [(AV.int .u8 110, AV.str ([10] : List UInt8))]) ++ [(AV.int .u8 118, AV.str ([11] : List UInt8))]) ++ [(AV.int .u8 102, AV.str ([12] : List UInt8))]) ++ [(AV.int .u8 114, AV.str ([13] : List UInt8))]).length ≤ 1000000)) <|
  need (keyIs (some .u8) (AV.int .u8 34) && (AV.str ([34] : List UInt8)).plainV && freshK (AV.int .u8 34) (((((((((([] : List (AV × AV)) ++ [(AV.int .u8 48, AV.str ([0] : List UInt8))]) ++ [(AV.int .u8 97, AV.str ([7] : List UInt8))]) ++ [(AV.int .u8 98, AV.str ([8] : List UInt8))]) ++ [(AV.int .u8 116, AV.str ([9] : List UInt8))]) ++ [(AV.int .u8 110, AV.str ([10] : List UInt8))]) ++ [(AV.int .u8 118, AV.str ([11] : List UInt8))]) ++ [(AV.int .u8 102, AV.str ([12] : List UInt8))]) ++ [(AV.int .u8 114, AV.str ([13] : List UInt8))]) ++ [(AV.int .u8 101, AV.str ([27] : List UInt8))]) && decide ((((((((((([] : List (AV × AV)) ++ [(AV.int .u8 48, AV.str ([0] : List UInt8))]) ++ [(AV.int .u8 97, AV.str ([7] : List UInt8))]) ++ [(AV.int .u8 98, AV.str ([8] : List UInt8))]) ++ [(AV.int .u8 116, AV.str ([9] : List UInt8))]) ++ [(AV.int .u8 110, AV.str ([10] : List UInt8))]) ++ [(AV.int .u8 118, AV.str ([11] : List UInt8))]) ++ [(AV.int .u8 102, AV.str ([12] : List UInt8))]) ++ [(AV.int .u8 114, AV.str ([13] : List UInt8))]) ++ [(AV.int .u8 101, AV.str ([27] : List UInt8))]).length ≤ 1000000)) <|
  need (keyIs (some .u8) (AV.int .u8 47) && (AV.str ([47] : List UInt8)).plainV && freshK (AV.int .u8 47) ((((((((((([] : List (AV × AV)) ++ [(AV.int .u8 48, AV.str ([0] : List UInt8))]) ++ [(AV.int .u8 97, AV.str ([7] : List UInt8))]) ++ [(AV.int .u8 98, AV.str ([8] : List UInt8))]) ++ [(AV.int .u8 116, AV.str ([9] : List UInt8))]) ++ [(AV.int .u8 110, AV.str ([10] : List UInt8))]) ++ [(AV.int .u8 118, AV.str ([11] : List UInt8))]) ++ [(AV.int .u8 102, AV.str ([12] : List UInt8))]) ++ [(AV.int .u8 114, AV.str ([13] : List UInt8))]) ++ [(AV.int .u8 101, AV.str ([27] : List UInt8))]) ++ [(AV.int .u8 34, AV.str ([34] : List UInt8))]) && decide (((((((((((([] : List (AV × AV)) ++ [(AV.int .u8 48, AV.str ([0] : List UInt8))]) ++ [(AV.int .u8 97, AV.str ([7] : List UInt8))]) ++ [(AV.int .u8 98, AV.str ([8] : List UInt8))]) ++ [(AV.int .u8 116, AV.str ([9] : List UInt8))]) ++ [(AV.int .u8 110, AV.str ([10] : List UInt8))]) ++ [(AV.int .u8 118, AV.str ([11] : List UInt8))]) ++ [(AV.int .u8 102, AV.str ([12] : List UInt8))]) ++ [(AV.int .u8 114, AV.str ([13] : List UInt8))]) ++ [(AV.int .u8 101, AV.str ([27] : List UInt8))]) ++ [(AV.int .u8 34, AV.str ([34] : List UInt8))]).length ≤ 1000000)) <|
  need (keyIs (some .u8) (AV.int .u8 92) && (AV.str ([92] : List UInt8)).plainV && freshK (AV.int .u8 92) (((((((((((([] : List (AV × AV)) ++ [(AV.int .u8 48, AV.str ([0] : List UInt8))]) ++ [(AV.int .u8 97, AV.str ([7] : List UInt8))]) ++ [(AV.int .u8 98, AV.str ([8] : List UInt8))]) ++ [(AV.int .u8 116, AV.str ([9] : List UInt8))]) ++ [(AV.int .u8 110, AV.str ([10] : List UInt8))]) ++ [(AV.int .u8 118, AV.str ([11] : List UInt8))]) ++ [(AV.int .u8 102, AV.str ([12] : List UInt8))]) ++ [(AV.int .u8 114, AV.str ([13] : List UInt8))]) ++ [(AV.int .u8 101, AV.str ([27] : List UInt8))]) ++ [(AV.int .u8 34, AV.str ([34] : List UInt8))]) ++ [(AV.int .u8 47, AV.str ([47] : List UInt8))]) && decide ((((((((((((([] : List (AV × AV)) ++ [(AV.int .u8 48, AV.str ([0] : List UInt8))]) ++ [(AV.int .u8 97, AV.str ([7] : List UInt8))]) ++ [(AV.int .u8 98, AV.str ([8] : List UInt8))]) ++ [(AV.int .u8 116, AV.str ([9] : List UInt8))]) ++ [(AV.int .u8 110, AV.str ([10] : List UInt8))]) ++ [(AV.int .u8 118, AV.str ([11] : List UInt8))]) ++ [(AV.int .u8 102, AV.str ([12] : List UInt8))]) ++ [(AV.int .u8 114, AV.str ([13] : List UInt8))]) ++ [(AV.int .u8 101, AV.str ([27] : List UInt8))]) ++ [(AV.int .u8 34, AV.str ([34] : List UInt8))]) ++ [(AV.int .u8 47, AV.str ([47] : List UInt8))]).length ≤ 1000000)) <|
  need (keyIs (some .u8) (AV.int .u8 32) && (AV.str ([32] : List UInt8)).plainV && freshK (AV.int .u8 32) ((((((((((((([] : List (AV × AV)) ++ [(AV.int .u8 48, AV.str ([0] : List UInt8))]) ++ [(AV.int .u8 97, AV.str ([7] : List UInt8))]) ++ [(AV.int .u8 98, AV.str ([8] : List UInt8))]) ++ [(AV.int .u8 116, AV.str ([9] : List UInt8))]) ++ [(AV.int .u8 110, AV.str ([10] : List UInt8))]) ++ [(AV.int .u8 118, AV.str ([11] : List UInt8))]) ++ [(AV.int .u8 102, AV.str ([12] : List UInt8))]) ++ [(AV.int .u8 114, AV.str ([13] : List UInt8))]) ++ [(AV.int .u8 101, AV.str ([27] : List UInt8))]) ++ [(AV.int .u8 34, AV.str ([34] : List UInt8))]) ++ [(AV.int .u8 47, AV.str ([47] : List UInt8))]) ++ [(AV.int .u8 92, AV.str ([92] : List UInt8))]) && decide (((((((((((((([] : List (AV × AV)) ++ [(AV.int .u8 48, AV.str ([0] : List UInt8))]) ++ [(AV.int .u8 97, AV.str ([7] : List UInt8))]) ++ [(AV.int .u8 98, AV.str ([8] : List UInt8))]) ++ [(AV.int .u8 116, AV.str ([9] : List UInt8))]) ++ [(AV.int .u8 110, AV.str ([10] : List UInt8))]) ++ [(AV.int .u8 118, AV.str ([11] : List UInt8))]) ++ [(AV.int .u8 102, AV.str ([12] : List UInt8))]) ++ [(AV.int .u8 114, AV.str ([13] : List UInt8))]) ++ [(AV.int .u8 101, AV.str ([27] : List UInt8))]) ++ [(AV.int .u8 34, AV.str ([34] : List UInt8))]) ++ [(AV.int .u8 47, AV.str ([47] : List UInt8))]) ++ [(AV.int .u8 92, AV.str ([92] : List UInt8))]).length ≤ 1000000)) <|
  need (keyIs (some .u8) (AV.int .u8 78) && (AV.str ([194, 133] : List UInt8)).plainV && freshK (AV.int .u8 78) (((((((((((((([] : List (AV × AV)) ++ [(AV.int .u8 48, AV.str ([0] : List UInt8))]) ++ [(AV.int .u8 97, AV.str ([7] : List UInt8))]) ++ [(AV.int .u8 98, AV.str ([8] : List UInt8))]) ++ [(AV.int .u8 116, AV.str ([9] : List UInt8))]) ++ [(AV.int .u8 110, AV.str ([10] : List UInt8))]) ++ [(AV.int .u8 118, AV.str ([11] : List UInt8))]) ++ [(AV.int .u8 102, AV.str ([12] : List UInt8))]) ++ [(AV.int .u8 114, AV.str ([13] : List UInt8))]) ++ [(AV.int .u8 101, AV.str ([27] : List UInt8))]) ++ [(AV.int .u8 34, AV.str ([34] : List UInt8))]) ++ [(AV.int .u8 47, AV.str ([47] : List UInt8))]) ++ [(AV.int .u8 92, AV.str ([92] : List UInt8))]) ++ [(AV.int .u8 32, AV.str ([32] : List UInt8))]) && decide ((((((((((((((([] : List (AV × AV)) ++ [(AV.int .u8 48, AV.str ([0] : List UInt8))]) ++ [(AV.int .u8 97, AV.str ([7] : List UInt8))]) ++ [(AV.int .u8 98, AV.str ([8] : List UInt8))]) ++ [(AV.int .u8 116, AV.str ([9] : List UInt8))]) ++ [(AV.int .u8 110, AV.str ([10] : List UInt8))]) ++ [(AV.int .u8 118, AV.str ([11] : List UInt8))]) ++ [(AV.int .u8 102, AV.str ([12] : List UInt8))]) ++ [(AV.int .u8 114, AV.str ([13] : List UInt8))]) ++ [(AV.int .u8 101, AV.str ([27] : List UInt8))]) ++ [(AV.int .u8 34, AV.str ([34] : List UInt8))]) ++ [(AV.int .u8 47, AV.str ([47] : List UInt8))]) ++ [(AV.int .u8 92, AV.str ([92] : List UInt8))]) ++ [(AV.int .u8 32, AV.str ([32] : List UInt8))]).length ≤ 1000000)) <|
  need (keyIs (some .u8) (AV.int .u8 95) && (AV.str ([194, 160] : List UInt8)).plainV && freshK (AV.int .u8 95) ((((((((((((((([] : List (AV × AV)) ++ [(AV.int .u8 48, AV.str ([0] : List UInt8))]) ++ [(AV.int .u8 97, AV.str ([7] : List UInt8))]) ++ [(AV.int .u8 98, AV.str ([8] : List UInt8))]) ++ [(AV.int .u8 116, AV.str ([9] : List UInt8))]) ++ [(AV.int .u8 110, AV.str ([10] : List UInt8))]) ++ [(AV.int .u8 118, AV.str ([11] : List UInt8))]) ++ [(AV.int .u8 102, AV.str ([12] : List UInt8))]) ++ [(AV.int .u8 114, AV.str ([13] : List UInt8))]) ++ [(AV.int .u8 101, AV.str ([27] : List UInt8))]) ++ [(AV.int .u8 34, AV.str ([34] : List UInt8))]) ++ [(AV.int .u8 47, AV.str ([47] : List UInt8))]) ++ [(AV.int .u8 92, AV.str ([92] : List UInt8))]) ++ [(AV.int .u8 32, AV.str ([32] : List UInt8))]) ++ [(AV.int .u8 78, AV.str ([194, 133] : List UInt8))]) && decide (((((((((((((((([] : List (AV × AV)) ++ [(AV.int .u8 48, AV.str ([0] : List UInt8))]) ++ [(AV.int .u8 97, AV.str ([7] : List UInt8))]) ++ [(AV.int .u8 98, AV.str ([8] : List UInt8))]) ++ [(AV.int .u8 116, AV.str ([9] : List UInt8))]) ++ [(AV.int .u8 110, AV.str ([10] : List UInt8))]) ++ [(AV.int .u8 118, AV.str ([11] : List UInt8))]) ++ [(AV.int .u8 102, AV.str ([12] : List UInt8))]) ++ [(AV.int .u8 114, AV.str ([13] : List UInt8))]) ++ [(AV.int .u8 101, AV.str ([27] : List UInt8))]) ++ [(AV.int .u8 34, AV.str ([34] : List UInt8))]) ++ [(AV.int .u8 47, AV.str ([47] : List UInt8))]) ++ [(AV.int .u8 92, AV.str ([92] : List UInt8))]) ++ [(AV.int .u8 32, AV.str ([32] : List UInt8))]) ++ [(AV.int .u8 78, AV.str ([194, 133] : List UInt8))]).length ≤ 1000000)) <|
  need (keyIs (some .u8) (AV.int .u8 76) && (AV.str ([226, 128, 168] : List UInt8)).plainV && freshK (AV.int .u8 76) (((((((((((((((([] : List (AV × AV)) ++ [(AV.int .u8 48, AV.str ([0] : List UInt8))]) ++ [(AV.int .u8 97, AV.str ([7] : List UInt8))]) ++ [(AV.int .u8 98, AV.str ([8] : List UInt8))]) ++ [(AV.int .u8 116, AV.str ([9] : List UInt8))]) ++ [(AV.int .u8 110, AV.str ([10] : List UInt8))]) ++ [(AV.int .u8 118, AV.str ([11] : List UInt8))]) ++ [(AV.int .u8 102, AV.str ([12] : List UInt8))]) ++ [(AV.int .u8 114, AV.str ([13] : List UInt8))]) ++ [(AV.int .u8 101, AV.str ([27] : List UInt8))]) ++ [(AV.int .u8 34, AV.str ([34] : List UInt8))]) ++ [(AV.int .u8 47, AV.str ([47] : List UInt8))]) ++ [(AV.int .u8 92, AV.str ([92] : List UInt8))]) ++ [(AV.int .u8 32, AV.str ([32] : List UInt8))]) ++ [(AV.int .u8 78, AV.str ([194, 133] : List UInt8))]) ++ [(AV.int .u8 95, AV.str ([194, 160] : List UInt8))]) && decide ((((((((((((((((([] : List (AV × AV)) ++ [(AV.int .u8 48, AV.str ([0] : List UInt8))]) ++ [(AV.int .u8 97, AV.str ([7] : List UInt8))]) ++ [(AV.int .u8 98, AV.str ([8] : List UInt8))]) ++ [(AV.int .u8 116, AV.str ([9] : List UInt8))]) ++ [(AV.int .u8 110, AV.str ([10] : List UInt8))]) ++ [(AV.int .u8 118, AV.str ([11] : List UInt8))]) ++ [(AV.int .u8 102, AV.str ([12] : List UInt8))]) ++ [(AV.int .u8 114, AV.str ([13] : List UInt8))]) ++ [(AV.int .u8 101, AV.str ([27] : List UInt8))]) ++ [(AV.int .u8 34, AV.str ([34] : List UInt8))]) ++ [(AV.int .u8 47, AV.str ([47] : List UInt8))]) ++ [(AV.int .u8 92, AV.str ([92] : List UInt8))]) ++ [(AV.int .u8 32, AV.str ([32] : List UInt8))]) ++ [(AV.int .u8 78, AV.str ([194, 133] : List UInt8))]) ++ [(AV.int .u8 95, AV.str ([194, 160] : List UInt8))]).length ≤ 1000000)) <|
  need (keyIs (some .u8) (AV.int .u8 80) && (AV.str ([226, 128, 169] : List UInt8)).plainV && freshK (AV.int .u8 80) ((((((((((((((((([] : List (AV × AV)) ++ [(AV.int .u8 48, AV.str ([0] : List UInt8))]) ++ [(AV.int .u8 97, AV.str ([7] : List UInt8))]) ++ [(AV.int .u8 98, AV.str ([8] : List UInt8))]) ++ [(AV.int .u8 116, AV.str ([9] : List UInt8))]) ++ [(AV.int .u8 110, AV.str ([10] : List UInt8))]) ++ [(AV.int .u8 118, AV.str ([11] : List UInt8))]) ++ [(AV.int .u8 102, AV.str ([12] : List UInt8))]) ++ [(AV.int .u8 114, AV.str ([13] : List UInt8))]) ++ [(AV.int .u8 101, AV.str ([27] : List UInt8))]) ++ [(AV.int .u8 34, AV.str ([34] : List UInt8))]) ++ [(AV.int .u8 47, AV.str ([47] : List UInt8))]) ++ [(AV.int .u8 92, AV.str ([92] : List UInt8))]) ++ [(AV.int .u8 32, AV.str ([32] : List UInt8))]) ++ [(AV.int .u8 78, AV.str ([194, 133] : List UInt8))]) ++ [(AV.int .u8 95, AV.str ([194, 160] : List UInt8))]) ++ [(AV.int .u8 76, AV.str ([226, 128, 168] : List UInt8))]) && decide (((((((((((((((((([] : List (AV × AV)) ++ [(AV.int .u8 48, AV.str ([0] : List UInt8))]) ++ [(AV.int .u8 97, AV.str ([7] : List UInt8))]) ++ [(AV.int .u8 98, AV.str ([8] : List UInt8))]) ++ [(AV.int .u8 116, AV.str ([9] : List UInt8))]) ++ [(AV.int .u8 110, AV.str ([10] : List UInt8))]) ++ [(AV.int .u8 118, AV.str ([11] : List UInt8))]) ++ [(AV.int .u8 102, AV.str ([12] : List UInt8))]) ++ [(AV.int .u8 114, AV.str ([13] : List UInt8))]) ++ [(AV.int .u8 101, AV.str ([27] : List UInt8))]) ++ [(AV.int .u8 34, AV.str ([34] : List UInt8))]) ++ [(AV.int .u8 47, AV.str ([47] : List UInt8))]) ++ [(AV.int .u8 92, AV.str ([92] : List UInt8))]) ++ [(AV.int .u8 32, AV.str ([32] : List UInt8))]) ++ [(AV.int .u8 78, AV.str ([194, 133] : List UInt8))]) ++ [(AV.int .u8 95, AV.str ([194, 160] : List UInt8))]) ++ [(AV.int .u8 76, AV.str ([226, 128, 168] : List UInt8))]).length ≤ 1000000)) <|
  need (keyIs (some .u8) (AV.int .u8 i1) && (AV.str []).plainV && knownK (AV.int .u8 i1) (((((((((((((((((([] : List (AV × AV)) ++ [(AV.int .u8 48, AV.str ([0] : List UInt8))]) ++ [(AV.int .u8 97, AV.str ([7] : List UInt8))]) ++ [(AV.int .u8 98, AV.str ([8] : List UInt8))]) ++ [(AV.int .u8 116, AV.str ([9] : List UInt8))]) ++ [(AV.int .u8 110, AV.str ([10] : List UInt8))]) ++ [(AV.int .u8 118, AV.str ([11] : List UInt8))]) ++ [(AV.int .u8 102, AV.str ([12] : List UInt8))]) ++ [(AV.int .u8 114, AV.str ([13] : List UInt8))]) ++ [(AV.int .u8 101, AV.str ([27] : List UInt8))]) ++ [(AV.int .u8 34, AV.str ([34] : List UInt8))]) ++ [(AV.int .u8 47, AV.str ([47] : List UInt8))]) ++ [(AV.int .u8 92, AV.str ([92] : List UInt8))]) ++ [(AV.int .u8 32, AV.str ([32] : List UInt8))]) ++ [(AV.int .u8 78, AV.str ([194, 133] : List UInt8))]) ++ [(AV.int .u8 95, AV.str ([194, 160] : List UInt8))]) ++ [(AV.int .u8 76, AV.str ([226, 128, 168] : List UInt8))]) ++ [(AV.int .u8 80, AV.str ([226, 128, 169] : List UInt8))])) <|
  asS ((lookK (AV.int .u8 i1) (AV.str []) (((((((((((((((((([] : List (AV × AV)) ++ [(AV.int .u8 48, AV.str ([0] : List UInt8))]) ++ [(AV.int .u8 97, AV.str ([7] : List UInt8))]) ++ [(AV.int .u8 98, AV.str ([8] : List UInt8))]) ++ [(AV.int .u8 116, AV.str ([9] : List UInt8))]) ++ [(AV.int .u8 110, AV.str ([10] : List UInt8))]) ++ [(AV.int .u8 118, AV.str ([11] : List UInt8))]) ++ [(AV.int .u8 102, AV.str ([12] : List UInt8))]) ++ [(AV.int .u8 114, AV.str ([13] : List UInt8))]) ++ [(AV.int .u8 101, AV.str ([27] : List UInt8))]) ++ [(AV.int .u8 34, AV.str ([34] : List UInt8))]) ++ [(AV.int .u8 47, AV.str ([47] : List UInt8))]) ++ [(AV.int .u8 92, AV.str ([92] : List UInt8))]) ++ [(AV.int .u8 32, AV.str ([32] : List UInt8))]) ++ [(AV.int .u8 78, AV.str ([194, 133] : List UInt8))]) ++ [(AV.int .u8 95, AV.str ([194, 160] : List UInt8))]) ++ [(AV.int .u8 76, AV.str ([226, 128, 168] : List UInt8))]) ++ [(AV.int .u8 80, AV.str ([226, 128, 169] : List UInt8))])).1) fun s1 =>
  need (decide (0 ≤ (i1 : Int)) && decide ((i1 : Int) < 256)) <|
  (R id_doubleTake [AV.bytes [34, 92, UInt8.ofNat (Int.toNat i1), 34]]).bind fun r1 =>
  asSIBT r1.v fun s2 i2 b1 =>
  bif !(b1 == ((lookK (AV.int .u8 i1) (AV.str []) (((((((((((((((((([] : List (AV × AV)) ++ [(AV.int .u8 48, AV.str ([0] : List UInt8))]) ++ [(AV.int .u8 97, AV.str ([7] : List UInt8))]) ++ [(AV.int .u8 98, AV.str ([8] : List UInt8))]) ++ [(AV.int .u8 116, AV.str ([9] : List UInt8))]) ++ [(AV.int .u8 110, AV.str ([10] : List UInt8))]) ++ [(AV.int .u8 118, AV.str ([11] : List UInt8))]) ++ [(AV.int .u8 102, AV.str ([12] : List UInt8))]) ++ [(AV.int .u8 114, AV.str ([13] : List UInt8))]) ++ [(AV.int .u8 101, AV.str ([27] : List UInt8))]) ++ [(AV.int .u8 34, AV.str ([34] : List UInt8))]) ++ [(AV.int .u8 47, AV.str ([47] : List UInt8))]) ++ [(AV.int .u8 92, AV.str ([92] : List UInt8))]) ++ [(AV.int .u8 32, AV.str ([32] : List UInt8))]) ++ [(AV.int .u8 78, AV.str ([194, 133] : List UInt8))]) ++ [(AV.int .u8 95, AV.str ([194, 160] : List UInt8))]) ++ [(AV.int .u8 76, AV.str ([226, 128, 168] : List UInt8))]) ++ [(AV.int .u8 80, AV.str ([226, 128, 169] : List UInt8))])).2)) then
    (some ⟨AV.bool false, false, []⟩)
  else
    bif b1 then
      (bif !(s2 == s1) then
        (some ⟨AV.bool false, false, []⟩)
      else
        bif (i2 : Int) != 4 then
          (some ⟨AV.bool false, false, []⟩)
        else
          law06DoubleEscapes_L1 R N
            (
              (R id_law06Wakes []).bind fun r3 =>
              asB r3.v fun b5 =>
              some ⟨AV.bool b5, false, []⟩)
            (fun b6 =>
              some ⟨AV.bool b6, false, []⟩)
            N (((((((((((((((((([] : List (AV × AV)) ++ [(AV.int .u8 48, AV.str ([0] : List UInt8))]) ++ [(AV.int .u8 97, AV.str ([7] : List UInt8))]) ++ [(AV.int .u8 98, AV.str ([8] : List UInt8))]) ++ [(AV.int .u8 116, AV.str ([9] : List UInt8))]) ++ [(AV.int .u8 110, AV.str ([10] : List UInt8))]) ++ [(AV.int .u8 118, AV.str ([11] : List UInt8))]) ++ [(AV.int .u8 102, AV.str ([12] : List UInt8))]) ++ [(AV.int .u8 114, AV.str ([13] : List UInt8))]) ++ [(AV.int .u8 101, AV.str ([27] : List UInt8))]) ++ [(AV.int .u8 34, AV.str ([34] : List UInt8))]) ++ [(AV.int .u8 47, AV.str ([47] : List UInt8))]) ++ [(AV.int .u8 92, AV.str ([92] : List UInt8))]) ++ [(AV.int .u8 32, AV.str ([32] : List UInt8))]) ++ [(AV.int .u8 78, AV.str ([194, 133] : List UInt8))]) ++ [(AV.int .u8 95, AV.str ([194, 160] : List UInt8))]) ++ [(AV.int .u8 76, AV.str ([226, 128, 168] : List UInt8))]) ++ [(AV.int .u8 80, AV.str ([226, 128, 169] : List UInt8))]) (none : Option (AV × AV)))
    else
      law06DoubleEscapes_L1 R N
        (
          (R id_law06Wakes []).bind fun r4 =>
          asB r4.v fun b7 =>
          some ⟨AV.bool b7, false, []⟩)
        (fun b8 =>
          some ⟨AV.bool b8, false, []⟩)
        N (((((((((((((((((([] : List (AV × AV)) ++ [(AV.int .u8 48, AV.str ([0] : List UInt8))]) ++ [(AV.int .u8 97, AV.str ([7] : List UInt8))]) ++ [(AV.int .u8 98, AV.str ([8] : List UInt8))]) ++ [(AV.int .u8 116, AV.str ([9] : List UInt8))]) ++ [(AV.int .u8 110, AV.str ([10] : List UInt8))]) ++ [(AV.int .u8 118, AV.str ([11] : List UInt8))]) ++ [(AV.int .u8 102, AV.str ([12] : List UInt8))]) ++ [(AV.int .u8 114, AV.str ([13] : List UInt8))]) ++ [(AV.int .u8 101, AV.str ([27] : List UInt8))]) ++ [(AV.int .u8 34, AV.str ([34] : List UInt8))]) ++ [(AV.int .u8 47, AV.str ([47] : List UInt8))]) ++ [(AV.int .u8 92, AV.str ([92] : List UInt8))]) ++ [(AV.int .u8 32, AV.str ([32] : List UInt8))]) ++ [(AV.int .u8 78, AV.str ([194, 133] : List UInt8))]) ++ [(AV.int .u8 95, AV.str ([194, 160] : List UInt8))]) ++ [(AV.int .u8 76, AV.str ([226, 128, 168] : List UInt8))]) ++ [(AV.int .u8 80, AV.str ([226, 128, 169] : List UInt8))]) (none : Option (AV × AV))
theorem law06DoubleEscapes_eq (R : Nat → List AV → Option Res) (N : Nat) (i1 : Int) : runF gl R N law06DoubleEscapes [AV.int .u8 i1] = law06DoubleEscapesr R N i1 := by
  refine Eq.trans (b :=
      need (keyIs (some .u8) (AV.int .u8 48) && (AV.str ([0] : List UInt8)).plainV && freshK (AV.int .u8 48) ([] : List (AV × AV)) && decide (([] : List (AV × AV)).length ≤ 1000000)) <|
      need (keyIs (some .u8) (AV.int .u8 97) && (AV.str ([7] : List UInt8)).plainV && freshK (AV.int .u8 97) (([] : List (AV × AV)) ++ [(AV.int .u8 48, AV.str ([0] : List UInt8))]) && decide ((([] : List (AV × AV)) ++ [(AV.int .u8 48, AV.str ([0] : List UInt8))]).length ≤ 1000000)) <|
      need (keyIs (some .u8) (AV.int .u8 98) && (AV.str ([8] : List UInt8)).plainV && freshK (AV.int .u8 98) ((([] : List (AV × AV)) ++ [(AV.int .u8 48, AV.str ([0] : List UInt8))]) ++ [(AV.int .u8 97, AV.str ([7] : List UInt8))]) && decide (((([] : List (AV × AV)) ++ [(AV.int .u8 48, AV.str ([0] : List UInt8))]) ++ [(AV.int .u8 97, AV.str ([7] : List UInt8))]).length ≤ 1000000)) <|
      need (keyIs (some .u8) (AV.int .u8 116) && (AV.str ([9] : List UInt8)).plainV && freshK (AV.int .u8 116) (((([] : List (AV × AV)) ++ [(AV.int .u8 48, AV.str ([0] : List UInt8))]) ++ [(AV.int .u8 97, AV.str ([7] : List UInt8))]) ++ [(AV.int .u8 98, AV.str ([8] : List UInt8))]) && decide ((((([] : List (AV × AV)) ++ [(AV.int .u8 48, AV.str ([0] : List UInt8))]) ++ [(AV.int .u8 97, AV.str ([7] : List UInt8))]) ++ [(AV.int .u8 98, AV.str ([8] : List UInt8))]).length ≤ 1000000)) <|
      need (keyIs (some .u8) (AV.int .u8 110) && (AV.str ([10] : List UInt8)).plainV && freshK (AV.int .u8 110) ((((([] : List (AV × AV)) ++ [(AV.int .u8 48, AV.str ([0] : List UInt8))]) ++ [(AV.int .u8 97, AV.str ([7] : List UInt8))]) ++ [(AV.int .u8 98, AV.str ([8] : List UInt8))]) ++ [(AV.int .u8 116, AV.str ([9] : List UInt8))]) && decide (((((([] : List (AV × AV)) ++ [(AV.int .u8 48, AV.str ([0] : List UInt8))]) ++ [(AV.int .u8 97, AV.str ([7] : List UInt8))]) ++ [(AV.int .u8 98, AV.str ([8] : List UInt8))]) ++ [(AV.int .u8 116, AV.str ([9] : List UInt8))]).length ≤ 1000000)) <|
      need (keyIs (some .u8) (AV.int .u8 118) && (AV.str ([11] : List UInt8)).plainV && freshK (AV.int .u8 118) (((((([] : List (AV × AV)) ++ [(AV.int .u8 48, AV.str ([0] : List UInt8))]) ++ [(AV.int .u8 97, AV.str ([7] : List UInt8))]) ++ [(AV.int .u8 98, AV.str ([8] : List UInt8))]) ++ [(AV.int .u8 116, AV.str ([9] : List UInt8))]) ++ [(AV.int .u8 110, AV.str ([10] : List UInt8))]) && decide ((((((([] : List (AV × AV)) ++ [(AV.int .u8 48, AV.str ([0] : List UInt8))]) ++ [(AV.int .u8 97, AV.str ([7] : List UInt8))]) ++ [(AV.int .u8 98, AV.str ([8] : List UInt8))]) ++ [(AV.int .u8 116, AV.str ([9] : List UInt8))]) ++ [(AV.int .u8 110, AV.str ([10] : List UInt8))]).length ≤ 1000000)) <|
      need (keyIs (some .u8) (AV.int .u8 102) && (AV.str ([12] : List UInt8)).plainV && freshK (AV.int .u8 102) ((((((([] : List (AV × AV)) ++ [(AV.int .u8 48, AV.str ([0] : List UInt8))]) ++ [(AV.int .u8 97, AV.str ([7] : List UInt8))]) ++ [(AV.int .u8 98, AV.str ([8] : List UInt8))]) ++ [(AV.int .u8 116, AV.str ([9] : List UInt8))]) ++ [(AV.int .u8 110, AV.str ([10] : List UInt8))]) ++ [(AV.int .u8 118, AV.str ([11] : List UInt8))]) && decide (((((((([] : List (AV × AV)) ++ [(AV.int .u8 48, AV.str ([0] : List UInt8))]) ++ [(AV.int .u8 97, AV.str ([7] : List UInt8))]) ++ [(AV.int .u8 98, AV.str ([8] : List UInt8))]) ++ [(AV.int .u8 116, AV.str ([9] : List UInt8))]) ++ [(AV.int .u8 110, AV.str ([10] : List UInt8))]) ++ [(AV.int .u8 118, AV.str ([11] : List UInt8))]).length ≤ 1000000)) <|
      need (keyIs (some .u8) (AV.int .u8 114) && (AV.str ([13] : List UInt8)).plainV && freshK (AV.int .u8 114) (((((((([] : List (AV × AV)) ++ [(AV.int .u8 48, AV.str ([0] : List UInt8))]) ++ [(AV.int .u8 97, AV.str ([7] : List UInt8))]) ++ [(AV.int .u8 98, AV.str ([8] : List UInt8))]) ++ [(AV.int .u8 116, AV.str ([9] : List UInt8))]) ++ [(AV.int .u8 110, AV.str ([10] : List UInt8))]) ++ [(AV.int .u8 118, AV.str ([11] : List UInt8))]) ++ [(AV.int .u8 102, AV.str ([12] : List UInt8))]) && decide ((((((((([] : List (AV × AV)) ++ [(AV.int .u8 48, AV.str ([0] : List UInt8))]) ++ [(AV.int .u8 97, AV.str ([7] : List UInt8))]) ++ [(AV.int .u8 98, AV.str ([8] : List UInt8))]) ++ [(AV.int .u8 116, AV.str ([9] : List UInt8))]) ++ [(AV.int .u8 110, AV.str ([10] : List UInt8))]) ++ [(AV.int .u8 118, AV.str ([11] : List UInt8))]) ++ [(AV.int .u8 102, AV.str ([12] : List UInt8))]).length ≤ 1000000)) <|
      need (keyIs (some .u8) (AV.int .u8 101) && (AV.str ([27] : List UInt8)).plainV && freshK (AV.int .u8 101) ((((((((([] : List (AV × AV)) ++ [(AV.int .u8 48, AV.str ([0] : List UInt8))]) ++ [(AV.int .u8 97, AV.str ([7] : List UInt8))]) ++ [(AV.int .u8 98, AV.str ([8] : List UInt8))]) ++ [(AV.int .u8 116, AV.str ([9] : List UInt8))]) ++ [(AV.int .u8 110, AV.str ([10] : List UInt8))]) ++ [(AV.int .u8 118, AV.str ([11] : List UInt8))]) ++ [(AV.int .u8 102, AV.str ([12] : List UInt8))]) ++ [(AV.int .u8 114, AV.str ([13] : List UInt8))]) && decide (((((((((([] : List (AV × AV)) ++ [(AV.int .u8 48, AV.str ([0] : List UInt8))]) ++ [(AV.int .u8 97, AV.str ([7] : List UInt8))]) ++ [(AV.int .u8 98, AV.str ([8] : List UInt8))]) ++ [(AV.int .u8 116, AV.str ([9] : List UInt8))]) ++ [(AV.int .u8 110, AV.str ([10] : List UInt8))]) ++ [(AV.int .u8 118, AV.str ([11] : List UInt8))]) ++ [(AV.int .u8 102, AV.str ([12] : List UInt8))]) ++ [(AV.int .u8 114, AV.str ([13] : List UInt8))]).length ≤ 1000000)) <|
      need (keyIs (some .u8) (AV.int .u8 34) && (AV.str ([34] : List UInt8)).plainV && freshK (AV.int .u8 34) (((((((((([] : List (AV × AV)) ++ [(AV.int .u8 48, AV.str ([0] : List UInt8))]) ++ [(AV.int .u8 97, AV.str ([7] : List UInt8))]) ++ [(AV.int .u8 98, AV.str ([8] : List UInt8))]) ++ [(AV.int .u8 116, AV.str ([9] : List UInt8))]) ++ [(AV.int .u8 110, AV.str ([10] : List UInt8))]) ++ [(AV.int .u8 118, AV.str ([11] : List UInt8))]) ++ [(AV.int .u8 102, AV.str ([12] : List UInt8))]) ++ [(AV.int .u8 114, AV.str ([13] : List UInt8))]) ++ [(AV.int .u8 101, AV.str ([27] : List UInt8))]) && decide ((((((((((([] : List (AV × AV)) ++ [(AV.int .u8 48, AV.str ([0] : List UInt8))]) ++ [(AV.int .u8 97, AV.str ([7] : List UInt8))]) ++ [(AV.int .u8 98, AV.str ([8] : List UInt8))]) ++ [(AV.int .u8 116, AV.str ([9] : List UInt8))]) ++ [(AV.int .u8 110, AV.str ([10] : List UInt8))]) ++ [(AV.int .u8 118, AV.str ([11] : List UInt8))]) ++ [(AV.int .u8 102, AV.str ([12] : List UInt8))]) ++ [(AV.int .u8 114, AV.str ([13] : List UInt8))]) ++ [(AV.int .u8 101, AV.str ([27] : List UInt8))]).length ≤ 1000000)) <|
      need (keyIs (some .u8) (AV.int .u8 47) && (AV.str ([47] : List UInt8)).plainV && freshK (AV.int .u8 47) ((((((((((([] : List (AV × AV)) ++ [(AV.int .u8 48, AV.str ([0] : List UInt8))]) ++ [(AV.int .u8 97, AV.str ([7] : List UInt8))]) ++ [(AV.int .u8 98, AV.str ([8] : List UInt8))]) ++ [(AV.int .u8 116, AV.str ([9] : List UInt8))]) ++ [(AV.int .u8 110, AV.str ([10] : List UInt8))]) ++ [(AV.int .u8 118, AV.str ([11] : List UInt8))]) ++ [(AV.int .u8 102, AV.str ([12] : List UInt8))]) ++ [(AV.int .u8 114, AV.str ([13] : List UInt8))]) ++ [(AV.int .u8 101, AV.str ([27] : List UInt8))]) ++ [(AV.int .u8 34, AV.str ([34] : List UInt8))]) && decide (((((((((((([] : List (AV × AV)) ++ [(AV.int .u8 48, AV.str ([0] : List UInt8))]) ++ [(AV.int .u8 97, AV.str ([7] : List UInt8))]) ++ [(AV.int .u8 98, AV.str ([8] : List UInt8))]) ++ [(AV.int .u8 116, AV.str ([9] : List UInt8))]) ++ [(AV.int .u8 110, AV.str ([10] : List UInt8))]) ++ [(AV.int .u8 118, AV.str ([11] : List UInt8))]) ++ [(AV.int .u8 102, AV.str ([12] : List UInt8))]) ++ [(AV.int .u8 114, AV.str ([13] : List UInt8))]) ++ [(AV.int .u8 101, AV.str ([27] : List UInt8))]) ++ [(AV.int .u8 34, AV.str ([34] : List UInt8))]).length ≤ 1000000)) <|
      need (keyIs (some .u8) (AV.int .u8 92) && (AV.str ([92] : List UInt8)).plainV && freshK (AV.int .u8 92) (((((((((((([] : List (AV × AV)) ++ [(AV.int .u8 48, AV.str ([0] : List UInt8))]) ++ [(AV.int .u8 97, AV.str ([7] : List UInt8))]) ++ [(AV.int .u8 98, AV.str ([8] : List UInt8))]) ++ [(AV.int .u8 116, AV.str ([9] : List UInt8))]) ++ [(AV.int .u8 110, AV.str ([10] : List UInt8))]) ++ [(AV.int .u8 118, AV.str ([11] : List UInt8))]) ++ [(AV.int .u8 102, AV.str ([12] : List UInt8))]) ++ [(AV.int .u8 114, AV.str ([13] : List UInt8))]) ++ [(AV.int .u8 101, AV.str ([27] : List UInt8))]) ++ [(AV.int .u8 34, AV.str ([34] : List UInt8))]) ++ [(AV.int .u8 47, AV.str ([47] : List UInt8))]) && decide ((((((((((((([] : List (AV × AV)) ++ [(AV.int .u8 48, AV.str ([0] : List UInt8))]) ++ [(AV.int .u8 97, AV.str ([7] : List UInt8))]) ++ [(AV.int .u8 98, AV.str ([8] : List UInt8))]) ++ [(AV.int .u8 116, AV.str ([9] : List UInt8))]) ++ [(AV.int .u8 110, AV.str ([10] : List UInt8))]) ++ [(AV.int .u8 118, AV.str ([11] : List UInt8))]) ++ [(AV.int .u8 102, AV.str ([12] : List UInt8))]) ++ [(AV.int .u8 114, AV.str ([13] : List UInt8))]) ++ [(AV.int .u8 101, AV.str ([27] : List UInt8))]) ++ [(AV.int .u8 34, AV.str ([34] : List UInt8))]) ++ [(AV.int .u8 47, AV.str ([47] : List UInt8))]).length ≤ 1000000)) <|
      need (keyIs (some .u8) (AV.int .u8 32) && (AV.str ([32] : List UInt8)).plainV && freshK (AV.int .u8 32) ((((((((((((([] : List (AV × AV)) ++ [(AV.int .u8 48, AV.str ([0] : List UInt8))]) ++ [(AV.int .u8 97, AV.str ([7] : List UInt8))]) ++ [(AV.int .u8 98, AV.str ([8] : List UInt8))]) ++ [(AV.int .u8 116, AV.str ([9] : List UInt8))]) ++ [(AV.int .u8 110, AV.str ([10] : List UInt8))]) ++ [(AV.int .u8 118, AV.str ([11] : List UInt8))]) ++ [(AV.int .u8 102, AV.str ([12] : List UInt8))]) ++ [(AV.int .u8 114, AV.str ([13] : List UInt8))]) ++ [(AV.int .u8 101, AV.str ([27] : List UInt8))]) ++ [(AV.int .u8 34, AV.str ([34] : List UInt8))]) ++ [(AV.int .u8 47, AV.str ([47] : List UInt8))]) ++ [(AV.int .u8 92, AV.str ([92] : List UInt8))]) && decide (((((((((((((([] : List (AV × AV)) ++ [(AV.int .u8 48, AV.str ([0] : List UInt8))]) ++ [(AV.int .u8 97, AV.str ([7] : List UInt8))]) ++ [(AV.int .u8 98, AV.str ([8] : List UInt8))]) ++ [(AV.int .u8 116, AV.str ([9] : List UInt8))]) ++ [(AV.int .u8 110, AV.str ([10] : List UInt8))]) ++ [(AV.int .u8 118, AV.str ([11] : List UInt8))]) ++ [(AV.int .u8 102, AV.str ([12] : List UInt8))]) ++ [(AV.int .u8 114, AV.str ([13] : List UInt8))]) ++ [(AV.int .u8 101, AV.str ([27] : List UInt8))]) ++ [(AV.int .u8 34, AV.str ([34] : List UInt8))]) ++ [(AV.int .u8 47, AV.str ([47] : List UInt8))]) ++ [(AV.int .u8 92, AV.str ([92] : List UInt8))]).length ≤ 1000000)) <|
      need (keyIs (some .u8) (AV.int .u8 78) && (AV.str ([194, 133] : List UInt8)).plainV && freshK (AV.int .u8 78) (((((((((((((([] : List (AV × AV)) ++ [(AV.int .u8 48, AV.str ([0] : List UInt8))]) ++ [(AV.int .u8 97, AV.str ([7] : List UInt8))]) ++ [(AV.int .u8 98, AV.str ([8] : List UInt8))]) ++ [(AV.int .u8 116, AV.str ([9] : List UInt8))]) ++ [(AV.int .u8 110, AV.str ([10] : List UInt8))]) ++ [(AV.int .u8 118, AV.str ([11] : List UInt8))]) ++ [(AV.int .u8 102, AV.str ([12] : List UInt8))]) ++ [(AV.int .u8 114, AV.str ([13] : List UInt8))]) ++ [(AV.int .u8 101, AV.str ([27] : List UInt8))]) ++ [(AV.int .u8 34, AV.str ([34] : List UInt8))]) ++ [(AV.int .u8 47, AV.str ([47] : List UInt8))]) ++ [(AV.int .u8 92, AV.str ([92] : List UInt8))]) ++ [(AV.int .u8 32, AV.str ([32] : List UInt8))]) && decide ((((((((((((((([] : List (AV × AV)) ++ [(AV.int .u8 48, AV.str ([0] : List UInt8))]) ++ [(AV.int .u8 97, AV.str ([7] : List UInt8))]) ++ [(AV.int .u8 98, AV.str ([8] : List UInt8))]) ++ [(AV.int .u8 116, AV.str ([9] : List UInt8))]) ++ [(AV.int .u8 110, AV.str ([10] : List UInt8))]) ++ [(AV.int .u8 118, AV.str ([11] : List UInt8))]) ++ [(AV.int .u8 102, AV.str ([12] : List UInt8))]) ++ [(AV.int .u8 114, AV.str ([13] : List UInt8))]) ++ [(AV.int .u8 101, AV.str ([27] : List UInt8))]) ++ [(AV.int .u8 34, AV.str ([34] : List UInt8))]) ++ [(AV.int .u8 47, AV.str ([47] : List UInt8))]) ++ [(AV.int .u8 92, AV.str ([92] : List UInt8))]) ++ [(AV.int .u8 32, AV.str ([32] : List UInt8))]).length ≤ 1000000)) <|
      need (keyIs (some .u8) (AV.int .u8 95) && (AV.str ([194, 160] : List UInt8)).plainV && freshK (AV.int .u8 95) ((((((((((((((([] : List (AV × AV)) ++ [(AV.int .u8 48, AV.str ([0] : List UInt8))]) ++ [(AV.int .u8 97, AV.str ([7] : List UInt8))]) ++ [(AV.int .u8 98, AV.str ([8] : List UInt8))]) ++ [(AV.int .u8 116, AV.str ([9] : List UInt8))]) ++ [(AV.int .u8 110, AV.str ([10] : List UInt8))]) ++ [(AV.int .u8 118, AV.str ([11] : List UInt8))]) ++ [(AV.int .u8 102, AV.str ([12] : List UInt8))]) ++ [(AV.int .u8 114, AV.str ([13] : List UInt8))]) ++ [(AV.int .u8 101, AV.str ([27] : List UInt8))]) ++ [(AV.int .u8 34, AV.str ([34] : List UInt8))]) ++ [(AV.int .u8 47, AV.str ([47] : List UInt8))]) ++ [(AV.int .u8 92, AV.str ([92] : List UInt8))]) ++ [(AV.int .u8 32, AV.str ([32] : List UInt8))]) ++ [(AV.int .u8 78, AV.str ([194, 133] : List UInt8))]) && decide (((((((((((((((([] : List (AV × AV)) ++ [(AV.int .u8 48, AV.str ([0] : List UInt8))]) ++ [(AV.int .u8 97, AV.str ([7] : List UInt8))]) ++ [(AV.int .u8 98, AV.str ([8] : List UInt8))]) ++ [(AV.int .u8 116, AV.str ([9] : List UInt8))]) ++ [(AV.int .u8 110, AV.str ([10] : List UInt8))]) ++ [(AV.int .u8 118, AV.str ([11] : List UInt8))]) ++ [(AV.int .u8 102, AV.str ([12] : List UInt8))]) ++ [(AV.int .u8 114, AV.str ([13] : List UInt8))]) ++ [(AV.int .u8 101, AV.str ([27] : List UInt8))]) ++ [(AV.int .u8 34, AV.str ([34] : List UInt8))]) ++ [(AV.int .u8 47, AV.str ([47] : List UInt8))]) ++ [(AV.int .u8 92, AV.str ([92] : List UInt8))]) ++ [(AV.int .u8 32, AV.str ([32] : List UInt8))]) ++ [(AV.int .u8 78, AV.str ([194, 133] : List UInt8))]).length ≤ 1000000)) <|
      need (keyIs (some .u8) (AV.int .u8 76) && (AV.str ([226, 128, 168] : List UInt8)).plainV && freshK (AV.int .u8 76) (((((((((((((((([] : List (AV × AV)) ++ [(AV.int .u8 48, AV.str ([0] : List UInt8))]) ++ [(AV.int .u8 97, AV.str ([7] : List UInt8))]) ++ [(AV.int .u8 98, AV.str ([8] : List UInt8))]) ++ [(AV.int .u8 116, AV.str ([9] : List UInt8))]) ++ [(AV.int .u8 110, AV.str ([10] : List UInt8))]) ++ [(AV.int .u8 118, AV.str ([11] : List UInt8))]) ++ [(AV.int .u8 102, AV.str ([12] : List UInt8))]) ++ [(AV.int .u8 114, AV.str ([13] : List UInt8))]) ++ [(AV.int .u8 101, AV.str ([27] : List UInt8))]) ++ [(AV.int .u8 34, AV.str ([34] : List UInt8))]) ++ [(AV.int .u8 47, AV.str ([47] : List UInt8))]) ++ [(AV.int .u8 92, AV.str ([92] : List UInt8))]) ++ [(AV.int .u8 32, AV.str ([32] : List UInt8))]) ++ [(AV.int .u8 78, AV.str ([194, 133] : List UInt8))]) ++ [(AV.int .u8 95, AV.str ([194, 160] : List UInt8))]) && decide ((((((((((((((((([] : List (AV × AV)) ++ [(AV.int .u8 48, AV.str ([0] : List UInt8))]) ++ [(AV.int .u8 97, AV.str ([7] : List UInt8))]) ++ [(AV.int .u8 98, AV.str ([8] : List UInt8))]) ++ [(AV.int .u8 116, AV.str ([9] : List UInt8))]) ++ [(AV.int .u8 110, AV.str ([10] : List UInt8))]) ++ [(AV.int .u8 118, AV.str ([11] : List UInt8))]) ++ [(AV.int .u8 102, AV.str ([12] : List UInt8))]) ++ [(AV.int .u8 114, AV.str ([13] : List UInt8))]) ++ [(AV.int .u8 101, AV.str ([27] : List UInt8))]) ++ [(AV.int .u8 34, AV.str ([34] : List UInt8))]) ++ [(AV.int .u8 47, AV.str ([47] : List UInt8))]) ++ [(AV.int .u8 92, AV.str ([92] : List UInt8))]) ++ [(AV.int .u8 32, AV.str ([32] : List UInt8))]) ++ [(AV.int .u8 78, AV.str ([194, 133] : List UInt8))]) ++ [(AV.int .u8 95, AV.str ([194, 160] : List UInt8))]).length ≤ 1000000)) <|
      need (keyIs (some .u8) (AV.int .u8 80) && (AV.str ([226, 128, 169] : List UInt8)).plainV && freshK (AV.int .u8 80) ((((((((((((((((([] : List (AV × AV)) ++ [(AV.int .u8 48, AV.str ([0] : List UInt8))]) ++ [(AV.int .u8 97, AV.str ([7] : List UInt8))]) ++ [(AV.int .u8 98, AV.str ([8] : List UInt8))]) ++ [(AV.int .u8 116, AV.str ([9] : List UInt8))]) ++ [(AV.int .u8 110, AV.str ([10] : List UInt8))]) ++ [(AV.int .u8 118, AV.str ([11] : List UInt8))]) ++ [(AV.int .u8 102, AV.str ([12] : List UInt8))]) ++ [(AV.int .u8 114, AV.str ([13] : List UInt8))]) ++ [(AV.int .u8 101, AV.str ([27] : List UInt8))]) ++ [(AV.int .u8 34, AV.str ([34] : List UInt8))]) ++ [(AV.int .u8 47, AV.str ([47] : List UInt8))]) ++ [(AV.int .u8 92, AV.str ([92] : List UInt8))]) ++ [(AV.int .u8 32, AV.str ([32] : List UInt8))]) ++ [(AV.int .u8 78, AV.str ([194, 133] : List UInt8))]) ++ [(AV.int .u8 95, AV.str ([194, 160] : List UInt8))]) ++ [(AV.int .u8 76, AV.str ([226, 128, 168] : List UInt8))]) && decide (((((((((((((((((([] : List (AV × AV)) ++ [(AV.int .u8 48, AV.str ([0] : List UInt8))]) ++ [(AV.int .u8 97, AV.str ([7] : List UInt8))]) ++ [(AV.int .u8 98, AV.str ([8] : List UInt8))]) ++ [(AV.int .u8 116, AV.str ([9] : List UInt8))]) ++ [(AV.int .u8 110, AV.str ([10] : List UInt8))]) ++ [(AV.int .u8 118, AV.str ([11] : List UInt8))]) ++ [(AV.int .u8 102, AV.str ([12] : List UInt8))]) ++ [(AV.int .u8 114, AV.str ([13] : List UInt8))]) ++ [(AV.int .u8 101, AV.str ([27] : List UInt8))]) ++ [(AV.int .u8 34, AV.str ([34] : List UInt8))]) ++ [(AV.int .u8 47, AV.str ([47] : List UInt8))]) ++ [(AV.int .u8 92, AV.str ([92] : List UInt8))]) ++ [(AV.int .u8 32, AV.str ([32] : List UInt8))]) ++ [(AV.int .u8 78, AV.str ([194, 133] : List UInt8))]) ++ [(AV.int .u8 95, AV.str ([194, 160] : List UInt8))]) ++ [(AV.int .u8 76, AV.str ([226, 128, 168] : List UInt8))]).length ≤ 1000000)) <|
      need (keyIs (some .u8) (AV.int .u8 i1) && (AV.str []).plainV && knownK (AV.int .u8 i1) (((((((((((((((((([] : List (AV × AV)) ++ [(AV.int .u8 48, AV.str ([0] : List UInt8))]) ++ [(AV.int .u8 97, AV.str ([7] : List UInt8))]) ++ [(AV.int .u8 98, AV.str ([8] : List UInt8))]) ++ [(AV.int .u8 116, AV.str ([9] : List UInt8))]) ++ [(AV.int .u8 110, AV.str ([10] : List UInt8))]) ++ [(AV.int .u8 118, AV.str ([11] : List UInt8))]) ++ [(AV.int .u8 102, AV.str ([12] : List UInt8))]) ++ [(AV.int .u8 114, AV.str ([13] : List UInt8))]) ++ [(AV.int .u8 101, AV.str ([27] : List UInt8))]) ++ [(AV.int .u8 34, AV.str ([34] : List UInt8))]) ++ [(AV.int .u8 47, AV.str ([47] : List UInt8))]) ++ [(AV.int .u8 92, AV.str ([92] : List UInt8))]) ++ [(AV.int .u8 32, AV.str ([32] : List UInt8))]) ++ [(AV.int .u8 78, AV.str ([194, 133] : List UInt8))]) ++ [(AV.int .u8 95, AV.str ([194, 160] : List UInt8))]) ++ [(AV.int .u8 76, AV.str ([226, 128, 168] : List UInt8))]) ++ [(AV.int .u8 80, AV.str ([226, 128, 169] : List UInt8))])) <|
      asS ((lookK (AV.int .u8 i1) (AV.str []) (((((((((((((((((([] : List (AV × AV)) ++ [(AV.int .u8 48, AV.str ([0] : List UInt8))]) ++ [(AV.int .u8 97, AV.str ([7] : List UInt8))]) ++ [(AV.int .u8 98, AV.str ([8] : List UInt8))]) ++ [(AV.int .u8 116, AV.str ([9] : List UInt8))]) ++ [(AV.int .u8 110, AV.str ([10] : List UInt8))]) ++ [(AV.int .u8 118, AV.str ([11] : List UInt8))]) ++ [(AV.int .u8 102, AV.str ([12] : List UInt8))]) ++ [(AV.int .u8 114, AV.str ([13] : List UInt8))]) ++ [(AV.int .u8 101, AV.str ([27] : List UInt8))]) ++ [(AV.int .u8 34, AV.str ([34] : List UInt8))]) ++ [(AV.int .u8 47, AV.str ([47] : List UInt8))]) ++ [(AV.int .u8 92, AV.str ([92] : List UInt8))]) ++ [(AV.int .u8 32, AV.str ([32] : List UInt8))]) ++ [(AV.int .u8 78, AV.str ([194, 133] : List UInt8))]) ++ [(AV.int .u8 95, AV.str ([194, 160] : List UInt8))]) ++ [(AV.int .u8 76, AV.str ([226, 128, 168] : List UInt8))]) ++ [(AV.int .u8 80, AV.str ([226, 128, 169] : List UInt8))])).1) fun s1 =>
      need (decide (0 ≤ (i1 : Int)) && decide ((i1 : Int) < 256)) <|
      (R id_doubleTake [AV.bytes [34, 92, UInt8.ofNat (Int.toNat i1), 34]]).bind fun r1 =>
      asSIBT r1.v fun s2 i2 b1 =>
      bif !(b1 == ((lookK (AV.int .u8 i1) (AV.str []) (((((((((((((((((([] : List (AV × AV)) ++ [(AV.int .u8 48, AV.str ([0] : List UInt8))]) ++ [(AV.int .u8 97, AV.str ([7] : List UInt8))]) ++ [(AV.int .u8 98, AV.str ([8] : List UInt8))]) ++ [(AV.int .u8 116, AV.str ([9] : List UInt8))]) ++ [(AV.int .u8 110, AV.str ([10] : List UInt8))]) ++ [(AV.int .u8 118, AV.str ([11] : List UInt8))]) ++ [(AV.int .u8 102, AV.str ([12] : List UInt8))]) ++ [(AV.int .u8 114, AV.str ([13] : List UInt8))]) ++ [(AV.int .u8 101, AV.str ([27] : List UInt8))]) ++ [(AV.int .u8 34, AV.str ([34] : List UInt8))]) ++ [(AV.int .u8 47, AV.str ([47] : List UInt8))]) ++ [(AV.int .u8 92, AV.str ([92] : List UInt8))]) ++ [(AV.int .u8 32, AV.str ([32] : List UInt8))]) ++ [(AV.int .u8 78, AV.str ([194, 133] : List UInt8))]) ++ [(AV.int .u8 95, AV.str ([194, 160] : List UInt8))]) ++ [(AV.int .u8 76, AV.str ([226, 128, 168] : List UInt8))]) ++ [(AV.int .u8 80, AV.str ([226, 128, 169] : List UInt8))])).2)) then
        (some ⟨AV.bool false, false, []⟩)
      else
        bif b1 then
          (bif !(s2 == s1) then
            (some ⟨AV.bool false, false, []⟩)
          else
            bif (i2 : Int) != 4 then
              (some ⟨AV.bool false, false, []⟩)
            else
              rounds [45] [1045] (evC gl R N law06DoubleEscapes_c0) (Kblock 0 (Kthen gl R N law06DoubleEscapes_c1 (Kret law06DoubleEscapes.rets []))) N ⟨[(45, .ptr 1045 0 0)], [(1045, .miter (((((((((((((((((([] : List (AV × AV)) ++ [(AV.int .u8 48, AV.str ([0] : List UInt8))]) ++ [(AV.int .u8 97, AV.str ([7] : List UInt8))]) ++ [(AV.int .u8 98, AV.str ([8] : List UInt8))]) ++ [(AV.int .u8 116, AV.str ([9] : List UInt8))]) ++ [(AV.int .u8 110, AV.str ([10] : List UInt8))]) ++ [(AV.int .u8 118, AV.str ([11] : List UInt8))]) ++ [(AV.int .u8 102, AV.str ([12] : List UInt8))]) ++ [(AV.int .u8 114, AV.str ([13] : List UInt8))]) ++ [(AV.int .u8 101, AV.str ([27] : List UInt8))]) ++ [(AV.int .u8 34, AV.str ([34] : List UInt8))]) ++ [(AV.int .u8 47, AV.str ([47] : List UInt8))]) ++ [(AV.int .u8 92, AV.str ([92] : List UInt8))]) ++ [(AV.int .u8 32, AV.str ([32] : List UInt8))]) ++ [(AV.int .u8 78, AV.str ([194, 133] : List UInt8))]) ++ [(AV.int .u8 95, AV.str ([194, 160] : List UInt8))]) ++ [(AV.int .u8 76, AV.str ([226, 128, 168] : List UInt8))]) ++ [(AV.int .u8 80, AV.str ([226, 128, 169] : List UInt8))]) (none : Option (AV × AV)))]⟩)
        else
          rounds [45] [1045] (evC gl R N law06DoubleEscapes_c0) (Kblock 0 (Kthen gl R N law06DoubleEscapes_c1 (Kret law06DoubleEscapes.rets []))) N ⟨[(45, .ptr 1045 0 0)], [(1045, .miter (((((((((((((((((([] : List (AV × AV)) ++ [(AV.int .u8 48, AV.str ([0] : List UInt8))]) ++ [(AV.int .u8 97, AV.str ([7] : List UInt8))]) ++ [(AV.int .u8 98, AV.str ([8] : List UInt8))]) ++ [(AV.int .u8 116, AV.str ([9] : List UInt8))]) ++ [(AV.int .u8 110, AV.str ([10] : List UInt8))]) ++ [(AV.int .u8 118, AV.str ([11] : List UInt8))]) ++ [(AV.int .u8 102, AV.str ([12] : List UInt8))]) ++ [(AV.int .u8 114, AV.str ([13] : List UInt8))]) ++ [(AV.int .u8 101, AV.str ([27] : List UInt8))]) ++ [(AV.int .u8 34, AV.str ([34] : List UInt8))]) ++ [(AV.int .u8 47, AV.str ([47] : List UInt8))]) ++ [(AV.int .u8 92, AV.str ([92] : List UInt8))]) ++ [(AV.int .u8 32, AV.str ([32] : List UInt8))]) ++ [(AV.int .u8 78, AV.str ([194, 133] : List UInt8))]) ++ [(AV.int .u8 95, AV.str ([194, 160] : List UInt8))]) ++ [(AV.int .u8 76, AV.str ([226, 128, 168] : List UInt8))]) ++ [(AV.int .u8 80, AV.str ([226, 128, 169] : List UInt8))]) (none : Option (AV × AV)))]⟩) (by kernel_rfl) ?_
  simp (config := { maxSteps := 100000000 }) only [law06DoubleEscapes_L1_eq]
  kernel_rfl
theorem law06DoubleEscapes_fit : fitF Tryd.prog law06DoubleEscapes Tryd.f4 = true := by
  kernel_rfl

def keepText_c0 : AC := .seq (.region [.op (some 4) none (.mv (.k (AV.str ([] : List UInt8))))]) (.seq (.region [.op (some 5) none (.mv (.t 0)), .op (some 6) none (.mv (.t 0)), .op (some 7) none (.len (.t 6) true), .op (some 8) none (.mv (.t 1)), .op (some 9) none (.mn [.t 7, .t 8]), .op (some 10) none (.sliceS (.t 5) none (some (.t 9))), .op (some 4) none (.mv (.t 10))]) (.ret [4] []))
def keepText : AFunc := ⟨2, 11, [.tmp 4], keepText_c0⟩
def keepTextr (R : Nat → List AV → Option Res) (N : Nat) (s1 : List UInt8) (i1 : Int) : Option Res :=
  need (decide (0 ≤ (if i1 < ((s1.length : Nat) : Int) then i1 else ((s1.length : Nat) : Int) : Int)) && decide ((if i1 < ((s1.length : Nat) : Int) then i1 else ((s1.length : Nat) : Int) : Int) ≤ ((s1.length : Nat) : Int))) <|
  some ⟨AV.str ((s1.take (Int.toNat (if i1 < ((s1.length : Nat) : Int) then i1 else ((s1.length : Nat) : Int)))).drop 0), false, []⟩
theorem keepText_eq (R : Nat → List AV → Option Res) (N : Nat) (s1 : List UInt8) (i1 : Int) : runF gl R N keepText [AV.str s1, AV.int .i64 i1] = keepTextr R N s1 i1 := by
  kernel_rfl
theorem keepText_fit : fitF Tryd.prog keepText Tryd.f19 = true := by
  kernel_rfl

def keepLend_c1 : AC := .seq (.region [.op (some 2) none (.nilOwn 11 none)]) (.stuck)
def keepLend : AFunc := ⟨1, 32, [.tmp 2], keepLend_c1⟩
def keepLendr (R : Nat → List AV → Option Res) (N : Nat) (s1 : List UInt8) : Option Res :=
  none
theorem keepLend_eq (R : Nat → List AV → Option Res) (N : Nat) (s1 : List UInt8) : runF gl R N keepLend [AV.bytes s1] = keepLendr R N s1 := by
  kernel_rfl
theorem keepLend_fit : fitF Tryd.prog keepLend Tryd.f20 = true := by
  kernel_rfl

def keepIntact_L1s (R : Nat → List AV → Option Res) (N : Nat) (go : List UInt8 → List UInt8 → Int → Int → Option Res) (k0 : Bool → Option Res) (k1 : Option Res) (s3 : List UInt8) (s4 : List UInt8) (i1 : Int) (i2 : Int) : Option Res :=
  bif decide ((i2 : Int) < i1) then
    (bif decide ((i2 : Int) < ((s3.length : Nat) : Int)) then
      (need (decide (0 ≤ (i2 : Int))) <|
      (s4[Int.toNat i2]?).bind fun c1 =>
      need (decide (0 ≤ (i2 : Int))) <|
      (s3[Int.toNat i2]?).bind fun c2 =>
      bif ((c1.toNat : Int) : Int) != (c2.toNat : Int) then
        (k0 false)
      else
        bif decide ((i2 : Int) ≥ ((s3.length : Nat) : Int)) then
          (need (decide (0 ≤ (i2 : Int))) <|
          (s4[Int.toNat i2]?).bind fun c3 =>
          bif ((c3.toNat : Int) : Int) != 85 then
            (k0 false)
          else
            go s3 s4 i1 (IntKind.i64.wrap (i2 + 1)))
        else
          go s3 s4 i1 (IntKind.i64.wrap (i2 + 1)))
    else
      bif decide ((i2 : Int) ≥ ((s3.length : Nat) : Int)) then
        (need (decide (0 ≤ (i2 : Int))) <|
        (s4[Int.toNat i2]?).bind fun c4 =>
        bif ((c4.toNat : Int) : Int) != 85 then
          (k0 false)
        else
          go s3 s4 i1 (IntKind.i64.wrap (i2 + 1)))
      else
        go s3 s4 i1 (IntKind.i64.wrap (i2 + 1)))
  else
    k1
def keepIntact_L1 (R : Nat → List AV → Option Res) (N : Nat) (k0 : Bool → Option Res) (k1 : Option Res) : Nat → List UInt8 → List UInt8 → Int → Int → Option Res
  | 0, _, _, _, _ => none
  | n + 1, s3, s4, i1, i2 => keepIntact_L1s R N (keepIntact_L1 R N k0 k1 n) k0 k1 s3 s4 i1 i2
def keepIntact_c0 : AC := .seq (.region [.op (some 28) none (.bin .lss (.t 27) (.t 26))]) (.seq (.cond (.t 28) (.skip) (.exit 0 [] [])) (.seq (.block 1 (.seq (.region [.op (some 29) none (.mv (.t 27)), .op (some 6) none (.mv (.t 29))]) (.seq (.regionD [1, 5, 26, 27, 57] [] [.op (some 30) none (.mv (.t 6)), .op (some 31) none (.mv (.t 1)), .op (some 32) none (.len (.t 31) false), .op (some 33) none (.bin .lss (.t 30) (.t 32)), .op (some 34) none (.mv (.t 33)), .split 34, .op (some 35) (some (34, true)) (.mv (.t 5)), .op (some 36) (some (34, true)) (.mv (.t 6)), .op (some 37) (some (34, true)) (.iaddr (.t 35) (.t 36) 1 (.int .u8)), .op (some 38) (some (34, true)) (.load (.t 37) none (.int .u8)), .op (some 39) (some (34, true)) (.mv (.t 1)), .op (some 40) (some (34, true)) (.mv (.t 6)), .op (some 41) (some (34, true)) (.iaddr (.t 39) (.t 40) 1 (.int .u8)), .op (some 42) (some (34, true)) (.load (.t 41) none (.int .u8)), .op (some 43) (some (34, true)) (.bin .neq (.t 38) (.t 42)), .op (some 44) none (.pick (.t 34) (.t 43) (.k (AV.bool false))), .op (some 45) none (.mv (.t 44)), .split 45, .op (some 46) (some (45, false)) (.mv (.t 6)), .op (some 47) (some (45, false)) (.mv (.t 1)), .op (some 48) (some (45, false)) (.len (.t 47) false), .op (some 49) (some (45, false)) (.bin .geq (.t 46) (.t 48)), .op (some 50) (some (45, false)) (.mv (.t 49)), .split 50, .op (some 51) (some (50, true)) (.mv (.t 5)), .op (some 52) (some (50, true)) (.mv (.t 6)), .op (some 53) (some (50, true)) (.iaddr (.t 51) (.t 52) 1 (.int .u8)), .op (some 54) (some (50, true)) (.load (.t 53) none (.int .u8)), .op (some 55) (some (50, true)) (.bin .neq (.t 54) (.k (AV.int .u8 85))), .op (some 56) (some (45, false)) (.pick (.t 50) (.t 55) (.k (AV.bool false))), .op (some 57) none (.pick (.t 45) (.k (AV.bool true)) (.t 56))] []) (.cond (.t 57) (.seq (.region [.op (some 4) none (.mv (.k (AV.bool false)))]) (.ret [4] [])) (.skip))))) (.region [.op (some 58) none (.bin .add (.t 27) (.k (AV.int .i64 1))), .op (some 27) none (.mv (.t 58))])))
theorem keepIntact_L1s_eq (R : Nat → List AV → Option Res) (N : Nat) (K : Ex → St → Option Res) (W : St → Option Res) (s3 : List UInt8) (s4 : List UInt8) (i1 : Int) (i2 : Int) :
    evC gl R N keepIntact_c0 (Kseq (fun st' => W (prune [1, 5, 26, 27] [] st')) K) ⟨[(1, .imm (AV.bytes s3)), (5, .imm (AV.bytes s4)), (26, .imm (AV.int .i64 i1)), (27, .imm (AV.int .i64 i2))], []⟩ =
    keepIntact_L1s R N (fun (s3 : List UInt8) (s4 : List UInt8) (i1 : Int) (i2 : Int) => W ⟨[(1, .imm (AV.bytes s3)), (5, .imm (AV.bytes s4)), (26, .imm (AV.int .i64 i1)), (27, .imm (AV.int .i64 i2))], []⟩) (fun (b1 : Bool) => K .ret ⟨[(4, .imm (AV.bool b1))], []⟩) (K (.exit 0) ⟨[], []⟩) s3 s4 i1 i2 := by
  kernel_rfl
theorem keepIntact_L1_eq (R : Nat → List AV → Option Res) (N : Nat) (K : Ex → St → Option Res) : ∀ (n : Nat) (s3 : List UInt8) (s4 : List UInt8) (i1 : Int) (i2 : Int),
    rounds [1, 5, 26, 27] [] (evC gl R N keepIntact_c0) K n ⟨[(1, .imm (AV.bytes s3)), (5, .imm (AV.bytes s4)), (26, .imm (AV.int .i64 i1)), (27, .imm (AV.int .i64 i2))], []⟩ = keepIntact_L1 R N (fun (b1 : Bool) => K .ret ⟨[(4, .imm (AV.bool b1))], []⟩) (K (.exit 0) ⟨[], []⟩) n s3 s4 i1 i2
  | 0, _, _, _, _ => rfl
  | n + 1, s3, s4, i1, i2 => (keepIntact_L1s_eq R N K (rounds [1, 5, 26, 27] [] (evC gl R N keepIntact_c0) K n) s3 s4 i1 i2).trans
      (congrArg (fun go => keepIntact_L1s R N go (fun (b1 : Bool) => K .ret ⟨[(4, .imm (AV.bool b1))], []⟩) (K (.exit 0) ⟨[], []⟩) s3 s4 i1 i2) (funext fun s3 => funext fun s4 => funext fun i1 => funext fun i2 => keepIntact_L1_eq R N K n s3 s4 i1 i2))
def keepIntact_c1 : AC := .seq (.region [.op (some 4) none (.mv (.k (AV.bool true)))]) (.ret [4] [])
def keepIntact_c2 : AC := .seq (.region [.op (some 4) none (.mv (.k (AV.bool false)))]) (.seq (.seq (.region [.op (some 7) none (.mv (.t 0)), .op (some 8) none (.len (.t 7) false), .op (some 9) none (.mv (.t 1)), .op (some 10) none (.len (.t 9) false), .op (some 11) none (.bin .neq (.t 8) (.t 10)), .op (some 12) none (.mv (.t 11)), .split 12, .op (some 13) (some (12, false)) (.mv (.t 0)), .op (some 14) (some (12, false)) (.capL (.t 13)), .op (some 15) (some (12, false)) (.mv (.t 1)), .op (some 16) (some (12, false)) (.len (.t 15) false), .op (some 17) (some (12, false)) (.bin .add (.t 16) (.k (AV.int .i64 3))), .op (some 18) (some (12, false)) (.bin .neq (.t 14) (.t 17)), .op (some 19) none (.pick (.t 12) (.k (AV.bool true)) (.t 18))]) (.cond (.t 19) (.seq (.region [.op (some 4) none (.mv (.k (AV.bool false)))]) (.ret [4] [])) (.skip))) (.seq (.region [.op (some 20) none (.mv (.t 0)), .op (some 21) none (.mv (.t 1)), .op (some 22) none (.len (.t 21) false), .op (some 23) none (.bin .add (.t 22) (.k (AV.int .i64 3))), .op (some 24) none (.sliceL (.t 20) (.t 23)), .op (some 5) none (.mv (.t 24))]) (.seq (.seq (.region [.op (some 25) none (.mv (.t 5)), .op (some 26) none (.len (.t 25) false), .op (some 27) none (.mv (.k (AV.int .i64 0)))]) (.block 0 (.loop [1, 5, 26, 27] [] (keepIntact_c0)))) (keepIntact_c1))))
def keepIntact : AFunc := ⟨2, 59, [.tmp 4], keepIntact_c2⟩
def keepIntactr (R : Nat → List AV → Option Res) (N : Nat) (s1 : List UInt8) (s2 : List UInt8) : Option Res :=
  bif (((s1.length : Nat) : Int) : Int) != ((s2.length : Nat) : Int) then
    (some ⟨AV.bool false, false, []⟩)
  else
    bif ((((s1.length : Nat) : Int) + 3) : Int) != (IntKind.i64.wrap (((s2.length : Nat) : Int) + 3)) then
      (some ⟨AV.bool false, false, []⟩)
    else
      need (decide (IntKind.i64.wrap (((s2.length : Nat) : Int) + 3) = ((s1.length : Nat) : Int) + 3)) <|
      keepIntact_L1 R N
        (fun b3 =>
          some ⟨AV.bool b3, false, []⟩)
        (
          some ⟨AV.bool true, false, []⟩)
        N s2 (s1 ++ [85, 85, 85]) (((s1 ++ [85, 85, 85]).length : Nat) : Int) 0
theorem keepIntact_eq (R : Nat → List AV → Option Res) (N : Nat) (s1 : List UInt8) (s2 : List UInt8) : runF gl R N keepIntact [AV.lent s1, AV.bytes s2] = keepIntactr R N s1 s2 := by
  refine Eq.trans (b :=
      bif (((s1.length : Nat) : Int) : Int) != ((s2.length : Nat) : Int) then
        (some ⟨AV.bool false, false, []⟩)
      else
        bif ((((s1.length : Nat) : Int) + 3) : Int) != (IntKind.i64.wrap (((s2.length : Nat) : Int) + 3)) then
          (some ⟨AV.bool false, false, []⟩)
        else
          need (decide (IntKind.i64.wrap (((s2.length : Nat) : Int) + 3) = ((s1.length : Nat) : Int) + 3)) <|
          rounds [1, 5, 26, 27] [] (evC gl R N keepIntact_c0) (Kblock 0 (Kthen gl R N keepIntact_c1 (Kret keepIntact.rets []))) N ⟨[(1, .imm (AV.bytes s2)), (5, .imm (AV.bytes (s1 ++ [85, 85, 85]))), (26, .imm (AV.int .i64 (((s1 ++ [85, 85, 85]).length : Nat) : Int))), (27, .imm (AV.int .i64 0))], []⟩) (by kernel_rfl) ?_
  simp (config := { maxSteps := 100000000 }) only [keepIntact_L1_eq]
  kernel_rfl
theorem keepIntact_fit : fitF Tryd.prog keepIntact Tryd.f25 = true := by
  kernel_rfl

def unicodeUtf8DecodeRuneSlow_c1 : AC := .seq (.region [.op (some 2) none (.mv (.k (AV.int .i32 0))), .op (some 3) none (.mv (.k (AV.int .i64 0)))]) (.seq (.region [.op (some 13) none (.mv (.t 0)), .op (some 14) none (.len (.t 13) false), .op (some 4) none (.mv (.t 14))]) (.seq (.seq (.region [.op (some 15) none (.mv (.t 4)), .op (some 16) none (.bin .lss (.t 15) (.k (AV.int .i64 1)))]) (.cond (.t 16) (.seq (.region [.op (some 2) none (.mv (.k (AV.int .i32 65533))), .op (some 3) none (.mv (.k (AV.int .i64 0)))]) (.ret [2, 3] [])) (.skip))) (.seq (.region [.op (some 17) none (.mv (.t 0)), .op (some 18) none (.iaddr (.t 17) (.k (AV.int .i64 0)) 1 (.int .u8)), .op (some 19) none (.load (.t 18) none (.int .u8)), .op (some 5) none (.mv (.t 19))]) (.stuck))))
def unicodeUtf8DecodeRuneSlow : AFunc := ⟨1, 122, [.tmp 2, .tmp 3], unicodeUtf8DecodeRuneSlow_c1⟩
def unicodeUtf8DecodeRuneSlowr (R : Nat → List AV → Option Res) (N : Nat) (s1 : List UInt8) : Option Res :=
  bif decide ((((s1.length : Nat) : Int) : Int) < 1) then
    (some ⟨AV.tup [AV.int .i32 65533, AV.int .i64 0], false, []⟩)
  else
    need (decide (0 ≤ (0 : Int))) <|
    (s1[Int.toNat 0]?).bind fun c1 =>
    none
theorem unicodeUtf8DecodeRuneSlow_eq (R : Nat → List AV → Option Res) (N : Nat) (s1 : List UInt8) : runF gl R N unicodeUtf8DecodeRuneSlow [AV.bytes s1] = unicodeUtf8DecodeRuneSlowr R N s1 := by
  kernel_rfl
theorem unicodeUtf8DecodeRuneSlow_fit : fitF Tryd.prog unicodeUtf8DecodeRuneSlow Tryd.f60 = true := by
  kernel_rfl

def unicodeUtf8DecodeRune_L1s (R : Nat → List AV → Option Res) (N : Nat) (go : List UInt8 → List UInt8 → Int → Int → Option Res) (k0 : Int → Int → Option Res) (k1 : List UInt8 → Option Res) (s2 : List UInt8) (s3 : List UInt8) (i1 : Int) (i2 : Int) : Option Res :=
  bif decide ((i2 : Int) < i1) then
    (need (decide (0 ≤ (i2 : Int))) <|
    (s3[Int.toNat i2]?).bind fun c1 =>
    bif decide (((c1.toNat : Int) : Int) < 128) then
      (k0 (IntKind.i32.wrap (c1.toNat : Int)) 1)
    else
      k1 s2)
  else
    k1 s2
def unicodeUtf8DecodeRune_L1 (R : Nat → List AV → Option Res) (N : Nat) (k0 : Int → Int → Option Res) (k1 : List UInt8 → Option Res) : Nat → List UInt8 → List UInt8 → Int → Int → Option Res
  | 0, _, _, _, _ => none
  | n + 1, s2, s3, i1, i2 => unicodeUtf8DecodeRune_L1s R N (unicodeUtf8DecodeRune_L1 R N k0 k1 n) k0 k1 s2 s3 i1 i2
def unicodeUtf8DecodeRune_c0 : AC := .seq (.region [.op (some 9) none (.bin .lss (.t 8) (.t 7))]) (.seq (.cond (.t 9) (.skip) (.exit 0 [0] [])) (.seq (.block 1 (.seq (.region [.op (some 10) none (.iaddr (.t 6) (.t 8) 1 (.int .u8)), .op (some 11) none (.load (.t 10) none (.int .u8)), .op (some 5) none (.mv (.t 11))]) (.seq (.seq (.region [.op (some 12) none (.mv (.t 5)), .op (some 13) none (.bin .lss (.t 12) (.k (AV.int .u8 128)))]) (.cond (.t 13) (.seq (.region [.op (some 14) none (.mv (.t 5)), .op (some 15) none (.cvInt .i32 (.t 14)), .op (some 2) none (.mv (.t 15)), .op (some 3) none (.mv (.k (AV.int .i64 1)))]) (.ret [2, 3] [])) (.skip))) (.exit 0 [0] [])))) (.region [.op (some 16) none (.bin .add (.t 8) (.k (AV.int .i64 1))), .op (some 8) none (.mv (.t 16))])))
theorem unicodeUtf8DecodeRune_L1s_eq (R : Nat → List AV → Option Res) (N : Nat) (K : Ex → St → Option Res) (W : St → Option Res) (s2 : List UInt8) (s3 : List UInt8) (i1 : Int) (i2 : Int) :
    evC gl R N unicodeUtf8DecodeRune_c0 (Kseq (fun st' => W (prune [0, 6, 7, 8] [] st')) K) ⟨[(0, .imm (AV.bytes s2)), (6, .imm (AV.bytes s3)), (7, .imm (AV.int .i64 i1)), (8, .imm (AV.int .i64 i2))], []⟩ =
    unicodeUtf8DecodeRune_L1s R N (fun (s2 : List UInt8) (s3 : List UInt8) (i1 : Int) (i2 : Int) => W ⟨[(0, .imm (AV.bytes s2)), (6, .imm (AV.bytes s3)), (7, .imm (AV.int .i64 i1)), (8, .imm (AV.int .i64 i2))], []⟩) (fun (i3 : Int) (i4 : Int) => K .ret ⟨[(2, .imm (AV.int .i32 i3)), (3, .imm (AV.int .i64 i4))], []⟩) (fun (s4 : List UInt8) => K (.exit 0) ⟨[(0, .imm (AV.bytes s4))], []⟩) s2 s3 i1 i2 := by
  kernel_rfl
theorem unicodeUtf8DecodeRune_L1_eq (R : Nat → List AV → Option Res) (N : Nat) (K : Ex → St → Option Res) : ∀ (n : Nat) (s2 : List UInt8) (s3 : List UInt8) (i1 : Int) (i2 : Int),
    rounds [0, 6, 7, 8] [] (evC gl R N unicodeUtf8DecodeRune_c0) K n ⟨[(0, .imm (AV.bytes s2)), (6, .imm (AV.bytes s3)), (7, .imm (AV.int .i64 i1)), (8, .imm (AV.int .i64 i2))], []⟩ = unicodeUtf8DecodeRune_L1 R N (fun (i3 : Int) (i4 : Int) => K .ret ⟨[(2, .imm (AV.int .i32 i3)), (3, .imm (AV.int .i64 i4))], []⟩) (fun (s4 : List UInt8) => K (.exit 0) ⟨[(0, .imm (AV.bytes s4))], []⟩) n s2 s3 i1 i2
  | 0, _, _, _, _ => rfl
  | n + 1, s2, s3, i1, i2 => (unicodeUtf8DecodeRune_L1s_eq R N K (rounds [0, 6, 7, 8] [] (evC gl R N unicodeUtf8DecodeRune_c0) K n) s2 s3 i1 i2).trans
      (congrArg (fun go => unicodeUtf8DecodeRune_L1s R N go (fun (i3 : Int) (i4 : Int) => K .ret ⟨[(2, .imm (AV.int .i32 i3)), (3, .imm (AV.int .i64 i4))], []⟩) (fun (s4 : List UInt8) => K (.exit 0) ⟨[(0, .imm (AV.bytes s4))], []⟩) s2 s3 i1 i2) (funext fun s2 => funext fun s3 => funext fun i1 => funext fun i2 => unicodeUtf8DecodeRune_L1_eq R N K n s2 s3 i1 i2))
def unicodeUtf8DecodeRune_c1 : AC := .seq (.region [.op (some 18) none (.mv (.t 0)), .op (some 19) none (.call id_unicodeUtf8DecodeRuneSlow [.t 18] (.tup [.int .i32, .int .i64])), .op (some 17) none (.mv (.t 19)), .op (some 20) none (.extract (.t 17) 0), .op (some 21) none (.extract (.t 17) 1), .op (some 2) none (.mv (.t 20)), .op (some 3) none (.mv (.t 21))]) (.ret [2, 3] [])
def unicodeUtf8DecodeRune_c2 : AC := .seq (.region [.op (some 2) none (.mv (.k (AV.int .i32 0))), .op (some 3) none (.mv (.k (AV.int .i64 0)))]) (.seq (.seq (.region [.op (some 6) none (.mv (.t 0)), .op (some 7) none (.len (.t 6) false), .op (some 8) none (.mv (.k (AV.int .i64 0)))]) (.block 0 (.loop [0, 6, 7, 8] [] (unicodeUtf8DecodeRune_c0)))) (unicodeUtf8DecodeRune_c1))
def unicodeUtf8DecodeRune : AFunc := ⟨1, 22, [.tmp 2, .tmp 3], unicodeUtf8DecodeRune_c2⟩
def unicodeUtf8DecodeRuner (R : Nat → List AV → Option Res) (N : Nat) (s1 : List UInt8) : Option Res :=
  unicodeUtf8DecodeRune_L1 R N
    (fun i7 i8 =>
      some ⟨AV.tup [AV.int .i32 i7, AV.int .i64 i8], false, []⟩)
    (fun s6 =>
      (R id_unicodeUtf8DecodeRuneSlow [AV.bytes s6]).bind fun r1 =>
      asJIT r1.v fun i9 i10 =>
      some ⟨AV.tup [AV.int .i32 i9, AV.int .i64 i10], false, []⟩)
    N s1 s1 ((s1.length : Nat) : Int) 0
theorem unicodeUtf8DecodeRune_eq (R : Nat → List AV → Option Res) (N : Nat) (s1 : List UInt8) : runF gl R N unicodeUtf8DecodeRune [AV.bytes s1] = unicodeUtf8DecodeRuner R N s1 := by
  refine Eq.trans (b :=
      rounds [0, 6, 7, 8] [] (evC gl R N unicodeUtf8DecodeRune_c0) (Kblock 0 (Kthen gl R N unicodeUtf8DecodeRune_c1 (Kret unicodeUtf8DecodeRune.rets []))) N ⟨[(0, .imm (AV.bytes s1)), (6, .imm (AV.bytes s1)), (7, .imm (AV.int .i64 ((s1.length : Nat) : Int))), (8, .imm (AV.int .i64 0))], []⟩) (by kernel_rfl) ?_
  simp (config := { maxSteps := 100000000 }) only [unicodeUtf8DecodeRune_L1_eq]
  kernel_rfl
theorem unicodeUtf8DecodeRune_fit : fitF Tryd.prog unicodeUtf8DecodeRune Tryd.f56 = true := by
  kernel_rfl

def charsRune_c0 : AC := .seq (.region [.op (some 2) none (.mv (.k (AV.int .i32 0))), .op (some 3) none (.mv (.k (AV.int .i64 0))), .op (some 4) none (.mv (.k (AV.bool false)))]) (.seq (.region [.op (some 6) none (.mv (.t 0)), .op (some 7) none (.call id_unicodeUtf8DecodeRune [.t 6] (.tup [.int .i32, .int .i64])), .op (some 5) none (.mv (.t 7)), .op (some 8) none (.extract (.t 5) 0), .op (some 9) none (.extract (.t 5) 1), .op (some 2) none (.mv (.t 8)), .op (some 3) none (.mv (.t 9))]) (.seq (.seq (.region [.op (some 10) none (.mv (.t 2)), .op (some 11) none (.bin .eql (.t 10) (.k (AV.int .i32 65533))), .op (some 12) none (.mv (.t 11)), .split 12, .op (some 13) (some (12, true)) (.mv (.t 3)), .op (some 14) (some (12, true)) (.bin .lss (.t 13) (.k (AV.int .i64 2))), .op (some 15) none (.pick (.t 12) (.t 14) (.k (AV.bool false)))]) (.cond (.t 15) (.seq (.region [.op (some 16) none (.mv (.t 3)), .op (some 2) none (.mv (.k (AV.int .i32 0))), .op (some 3) none (.mv (.t 16)), .op (some 4) none (.mv (.k (AV.bool false)))]) (.ret [2, 3, 4] [])) (.skip))) (.seq (.region [.op (some 17) none (.mv (.t 2)), .op (some 18) none (.mv (.t 3)), .op (some 2) none (.mv (.t 17)), .op (some 3) none (.mv (.t 18)), .op (some 4) none (.mv (.k (AV.bool true)))]) (.ret [2, 3, 4] []))))
def charsRune : AFunc := ⟨1, 19, [.tmp 2, .tmp 3, .tmp 4], charsRune_c0⟩
def charsRuner (R : Nat → List AV → Option Res) (N : Nat) (s1 : List UInt8) : Option Res :=
  (R id_unicodeUtf8DecodeRune [AV.bytes s1]).bind fun r1 =>
  asJIT r1.v fun i1 i2 =>
  bif (i1 : Int) == 65533 then
    (bif decide ((i2 : Int) < 2) then
      (some ⟨AV.tup [AV.int .i32 0, AV.int .i64 i2, AV.bool false], false, []⟩)
    else
      some ⟨AV.tup [AV.int .i32 i1, AV.int .i64 i2, AV.bool true], false, []⟩)
  else
    some ⟨AV.tup [AV.int .i32 i1, AV.int .i64 i2, AV.bool true], false, []⟩
theorem charsRune_eq (R : Nat → List AV → Option Res) (N : Nat) (s1 : List UInt8) : runF gl R N charsRune [AV.bytes s1] = charsRuner R N s1 := by
  kernel_rfl
theorem charsRune_fit : fitF Tryd.prog charsRune Tryd.f45 = true := by
  kernel_rfl

def internalBytealgCutover_c0 : AC := .seq (.region [.op (some 2) none (.mv (.k (AV.int .i64 0)))]) (.seq (.region [.op (some 3) none (.mv (.t 0)), .op (some 4) none (.bin .add (.t 3) (.k (AV.int .i64 16))), .op (some 5) none (.bin .quo (.t 4) (.k (AV.int .i64 8))), .op (some 2) none (.mv (.t 5))]) (.ret [2] []))
def internalBytealgCutover : AFunc := ⟨1, 6, [.tmp 2], internalBytealgCutover_c0⟩
def internalBytealgCutoverr (R : Nat → List AV → Option Res) (N : Nat) (i1 : Int) : Option Res :=
  need (!decide (8 = 0)) <|
  some ⟨AV.int .i64 (IntKind.i64.wrap (Int.tdiv (IntKind.i64.wrap (i1 + 16)) 8)), false, []⟩
theorem internalBytealgCutover_eq (R : Nat → List AV → Option Res) (N : Nat) (i1 : Int) : runF gl R N internalBytealgCutover [AV.int .i64 i1] = internalBytealgCutoverr R N i1 := by
  kernel_rfl
theorem internalBytealgCutover_fit : fitF Tryd.prog internalBytealgCutover Tryd.f73 = true := by
  kernel_rfl

def internalBytealgHashStrString_L1s (R : Nat → List AV → Option Res) (N : Nat) (go : List UInt8 → Int → Int → Option Res) (k0 : List UInt8 → Int → Option Res) (s2 : List UInt8) (i1 : Int) (i2 : Int) : Option Res :=
  bif decide ((i2 : Int) < ((s2.length : Nat) : Int)) then
    (need (decide (0 ≤ (i2 : Int))) <|
    (s2[Int.toNat i2]?).bind fun c1 =>
    go s2 (IntKind.u32.wrap ((IntKind.u32.wrap (i1 * 16777619)) + (IntKind.u32.wrap (c1.toNat : Int)))) (IntKind.i64.wrap (i2 + 1)))
  else
    k0 s2 i1
def internalBytealgHashStrString_L1 (R : Nat → List AV → Option Res) (N : Nat) (k0 : List UInt8 → Int → Option Res) : Nat → List UInt8 → Int → Int → Option Res
  | 0, _, _, _ => none
  | n + 1, s2, i1, i2 => internalBytealgHashStrString_L1s R N (internalBytealgHashStrString_L1 R N k0 n) k0 s2 i1 i2
def internalBytealgHashStrString_c0 : AC := .seq (.seq (.region [.op (some 9) none (.mv (.t 5)), .op (some 10) none (.mv (.t 0)), .op (some 11) none (.len (.t 10) true), .op (some 12) none (.bin .lss (.t 9) (.t 11))]) (.cond (.t 12) (.skip) (.exit 0 [0, 4] []))) (.seq (.block 1 (.region [.op (some 15) none (.mv (.t 4)), .op (some 16) none (.bin .mul (.t 15) (.k (AV.int .u32 16777619))), .op (some 17) none (.mv (.t 0)), .op (some 18) none (.mv (.t 5)), .op (some 19) none (.index (.t 17) (.t 18)), .op (some 20) none (.cvInt .u32 (.t 19)), .op (some 21) none (.bin .add (.t 16) (.t 20)), .op (some 4) none (.mv (.t 21))])) (.region [.op (some 13) none (.mv (.t 5)), .op (some 14) none (.bin .add (.t 13) (.k (AV.int .i64 1))), .op (some 5) none (.mv (.t 14))]))
theorem internalBytealgHashStrString_L1s_eq (R : Nat → List AV → Option Res) (N : Nat) (K : Ex → St → Option Res) (W : St → Option Res) (s2 : List UInt8) (i1 : Int) (i2 : Int) :
    evC gl R N internalBytealgHashStrString_c0 (Kseq (fun st' => W (prune [0, 4, 5] [] st')) K) ⟨[(0, .imm (AV.str s2)), (4, .imm (AV.int .u32 i1)), (5, .imm (AV.int .i64 i2))], []⟩ =
    internalBytealgHashStrString_L1s R N (fun (s2 : List UInt8) (i1 : Int) (i2 : Int) => W ⟨[(0, .imm (AV.str s2)), (4, .imm (AV.int .u32 i1)), (5, .imm (AV.int .i64 i2))], []⟩) (fun (s3 : List UInt8) (i3 : Int) => K (.exit 0) ⟨[(0, .imm (AV.str s3)), (4, .imm (AV.int .u32 i3))], []⟩) s2 i1 i2 := by
  kernel_rfl
theorem internalBytealgHashStrString_L1_eq (R : Nat → List AV → Option Res) (N : Nat) (K : Ex → St → Option Res) : ∀ (n : Nat) (s2 : List UInt8) (i1 : Int) (i2 : Int),
    rounds [0, 4, 5] [] (evC gl R N internalBytealgHashStrString_c0) K n ⟨[(0, .imm (AV.str s2)), (4, .imm (AV.int .u32 i1)), (5, .imm (AV.int .i64 i2))], []⟩ = internalBytealgHashStrString_L1 R N (fun (s3 : List UInt8) (i3 : Int) => K (.exit 0) ⟨[(0, .imm (AV.str s3)), (4, .imm (AV.int .u32 i3))], []⟩) n s2 i1 i2
  | 0, _, _, _ => rfl
  | n + 1, s2, i1, i2 => (internalBytealgHashStrString_L1s_eq R N K (rounds [0, 4, 5] [] (evC gl R N internalBytealgHashStrString_c0) K n) s2 i1 i2).trans
      (congrArg (fun go => internalBytealgHashStrString_L1s R N go (fun (s3 : List UInt8) (i3 : Int) => K (.exit 0) ⟨[(0, .imm (AV.str s3)), (4, .imm (AV.int .u32 i3))], []⟩) s2 i1 i2) (funext fun s2 => funext fun i1 => funext fun i2 => internalBytealgHashStrString_L1_eq R N K n s2 i1 i2))
def internalBytealgHashStrString_L2s (R : Nat → List AV → Option Res) (N : Nat) (go : Int → Int → Int → Int → Option Res) (k0 : Int → Int → Option Res) (i6 : Int) (i7 : Int) (i8 : Int) (i9 : Int) : Option Res :=
  bif decide ((i9 : Int) > 0) then
    (bif ((IntKind.i64.wrap (BitVec.ofInt IntKind.i64.bits i9 &&& BitVec.ofInt IntKind.i64.bits 1).toNat) : Int) != 0 then
      (need (!decide (1 < 0)) <|
      go i6 (IntKind.u32.wrap (i7 * i8)) (IntKind.u32.wrap (i8 * i8)) (Int.fdiv i9 (2 ^ (min (Int.toNat 1) IntKind.i64.bits))))
    else
      need (!decide (1 < 0)) <|
      go i6 i7 (IntKind.u32.wrap (i8 * i8)) (Int.fdiv i9 (2 ^ (min (Int.toNat 1) IntKind.i64.bits))))
  else
    k0 i6 i7
def internalBytealgHashStrString_L2 (R : Nat → List AV → Option Res) (N : Nat) (k0 : Int → Int → Option Res) : Nat → Int → Int → Int → Int → Option Res
  | 0, _, _, _, _ => none
  | n + 1, i6, i7, i8, i9 => internalBytealgHashStrString_L2s R N (internalBytealgHashStrString_L2 R N k0 n) k0 i6 i7 i8 i9
def internalBytealgHashStrString_c1 : AC := .seq (.seq (.region [.op (some 24) none (.mv (.t 8)), .op (some 25) none (.bin .gtr (.t 24) (.k (AV.int .i64 0)))]) (.cond (.t 25) (.skip) (.exit 2 [4, 6] []))) (.seq (.block 3 (.seq (.seq (.region [.op (some 28) none (.mv (.t 8)), .op (some 29) none (.bin .and (.t 28) (.k (AV.int .i64 1))), .op (some 30) none (.bin .neq (.t 29) (.k (AV.int .i64 0)))]) (.cond (.t 30) (.region [.op (some 31) none (.mv (.t 6)), .op (some 32) none (.mv (.t 7)), .op (some 33) none (.bin .mul (.t 31) (.t 32)), .op (some 6) none (.mv (.t 33))]) (.skip))) (.region [.op (some 34) none (.mv (.t 7)), .op (some 35) none (.mv (.t 7)), .op (some 36) none (.bin .mul (.t 34) (.t 35)), .op (some 7) none (.mv (.t 36))]))) (.region [.op (some 26) none (.mv (.t 8)), .op (some 27) none (.bin .shr (.t 26) (.k (AV.int .u64 1))), .op (some 8) none (.mv (.t 27))]))
theorem internalBytealgHashStrString_L2s_eq (R : Nat → List AV → Option Res) (N : Nat) (K : Ex → St → Option Res) (W : St → Option Res) (i6 : Int) (i7 : Int) (i8 : Int) (i9 : Int) :
    evC gl R N internalBytealgHashStrString_c1 (Kseq (fun st' => W (prune [4, 6, 7, 8] [] st')) K) ⟨[(4, .imm (AV.int .u32 i6)), (6, .imm (AV.int .u32 i7)), (7, .imm (AV.int .u32 i8)), (8, .imm (AV.int .i64 i9))], []⟩ =
    internalBytealgHashStrString_L2s R N (fun (i6 : Int) (i7 : Int) (i8 : Int) (i9 : Int) => W ⟨[(4, .imm (AV.int .u32 i6)), (6, .imm (AV.int .u32 i7)), (7, .imm (AV.int .u32 i8)), (8, .imm (AV.int .i64 i9))], []⟩) (fun (i10 : Int) (i11 : Int) => K (.exit 2) ⟨[(4, .imm (AV.int .u32 i10)), (6, .imm (AV.int .u32 i11))], []⟩) i6 i7 i8 i9 := by
  kernel_rfl
theorem internalBytealgHashStrString_L2_eq (R : Nat → List AV → Option Res) (N : Nat) (K : Ex → St → Option Res) : ∀ (n : Nat) (i6 : Int) (i7 : Int) (i8 : Int) (i9 : Int),
    rounds [4, 6, 7, 8] [] (evC gl R N internalBytealgHashStrString_c1) K n ⟨[(4, .imm (AV.int .u32 i6)), (6, .imm (AV.int .u32 i7)), (7, .imm (AV.int .u32 i8)), (8, .imm (AV.int .i64 i9))], []⟩ = internalBytealgHashStrString_L2 R N (fun (i10 : Int) (i11 : Int) => K (.exit 2) ⟨[(4, .imm (AV.int .u32 i10)), (6, .imm (AV.int .u32 i11))], []⟩) n i6 i7 i8 i9
  | 0, _, _, _, _ => rfl
  | n + 1, i6, i7, i8, i9 => (internalBytealgHashStrString_L2s_eq R N K (rounds [4, 6, 7, 8] [] (evC gl R N internalBytealgHashStrString_c1) K n) i6 i7 i8 i9).trans
      (congrArg (fun go => internalBytealgHashStrString_L2s R N go (fun (i10 : Int) (i11 : Int) => K (.exit 2) ⟨[(4, .imm (AV.int .u32 i10)), (6, .imm (AV.int .u32 i11))], []⟩) i6 i7 i8 i9) (funext fun i6 => funext fun i7 => funext fun i8 => funext fun i9 => internalBytealgHashStrString_L2_eq R N K n i6 i7 i8 i9))
def internalBytealgHashStrString_c2 : AC := .seq (.region [.op (some 37) none (.mv (.t 4)), .op (some 38) none (.mv (.t 6)), .op (some 2) none (.mv (.t 37)), .op (some 3) none (.mv (.t 38))]) (.ret [2, 3] [])
def internalBytealgHashStrString_c3 : AC := .seq (.region [.op (some 6) none (.mv (.k (AV.int .u32 1))), .op (some 7) none (.mv (.k (AV.int .u32 16777619)))]) (.seq (.seq (.region [.op (some 22) none (.mv (.t 0)), .op (some 23) none (.len (.t 22) true), .op (some 8) none (.mv (.t 23))]) (.block 2 (.loop [4, 6, 7, 8] [] (internalBytealgHashStrString_c1)))) (internalBytealgHashStrString_c2))
def internalBytealgHashStrString_c4 : AC := .seq (.region [.op (some 2) none (.mv (.k (AV.int .u32 0))), .op (some 3) none (.mv (.k (AV.int .u32 0)))]) (.seq (.region [.op (some 4) none (.mv (.k (AV.int .u32 0)))]) (.seq (.seq (.region [.op (some 5) none (.mv (.k (AV.int .i64 0)))]) (.block 0 (.loop [0, 4, 5] [] (internalBytealgHashStrString_c0)))) (internalBytealgHashStrString_c3)))
def internalBytealgHashStrString : AFunc := ⟨1, 39, [.tmp 2, .tmp 3], internalBytealgHashStrString_c4⟩
def internalBytealgHashStrStringr (R : Nat → List AV → Option Res) (N : Nat) (s1 : List UInt8) : Option Res :=
  internalBytealgHashStrString_L1 R N
    (fun s5 i5 =>
      internalBytealgHashStrString_L2 R N
        (fun i14 i15 =>
          some ⟨AV.tup [AV.int .u32 i14, AV.int .u32 i15], false, []⟩)
        N i5 1 16777619 ((s5.length : Nat) : Int))
    N s1 0 0
theorem internalBytealgHashStrString_eq (R : Nat → List AV → Option Res) (N : Nat) (s1 : List UInt8) : runF gl R N internalBytealgHashStrString [AV.str s1] = internalBytealgHashStrStringr R N s1 := by
  refine Eq.trans (b :=
      rounds [0, 4, 5] [] (evC gl R N internalBytealgHashStrString_c0) (Kblock 0 (Kthen gl R N internalBytealgHashStrString_c3 (Kret internalBytealgHashStrString.rets []))) N ⟨[(0, .imm (AV.str s1)), (4, .imm (AV.int .u32 0)), (5, .imm (AV.int .i64 0))], []⟩) (by kernel_rfl) ?_
  simp (config := { maxSteps := 100000000 }) only [internalBytealgHashStrString_L1_eq, internalBytealgHashStrString_L2_eq]
  refine Eq.trans (b :=
      internalBytealgHashStrString_L1 R N
        (fun s5 i5 =>
          rounds [4, 6, 7, 8] [] (evC gl R N internalBytealgHashStrString_c1) (Kblock 2 (Kthen gl R N internalBytealgHashStrString_c2 (Kret internalBytealgHashStrString.rets []))) N ⟨[(4, .imm (AV.int .u32 i5)), (6, .imm (AV.int .u32 1)), (7, .imm (AV.int .u32 16777619)), (8, .imm (AV.int .i64 ((s5.length : Nat) : Int)))], []⟩)
        N s1 0 0) (by kernel_rfl) ?_
  simp (config := { maxSteps := 100000000 }) only [internalBytealgHashStrString_L1_eq, internalBytealgHashStrString_L2_eq]
  kernel_rfl
theorem internalBytealgHashStrString_fit : fitF Tryd.prog internalBytealgHashStrString Tryd.f75 = true := by
  kernel_rfl

def unicodeUtf8DecodeRuneInStringSlow_c1 : AC := .seq (.region [.op (some 2) none (.mv (.k (AV.int .i32 0))), .op (some 3) none (.mv (.k (AV.int .i64 0)))]) (.seq (.region [.op (some 13) none (.mv (.t 0)), .op (some 14) none (.len (.t 13) true), .op (some 4) none (.mv (.t 14))]) (.seq (.seq (.region [.op (some 15) none (.mv (.t 4)), .op (some 16) none (.bin .lss (.t 15) (.k (AV.int .i64 1)))]) (.cond (.t 16) (.seq (.region [.op (some 2) none (.mv (.k (AV.int .i32 65533))), .op (some 3) none (.mv (.k (AV.int .i64 0)))]) (.ret [2, 3] [])) (.skip))) (.seq (.region [.op (some 17) none (.mv (.t 0)), .op (some 18) none (.index (.t 17) (.k (AV.int .i64 0))), .op (some 5) none (.mv (.t 18))]) (.stuck))))
def unicodeUtf8DecodeRuneInStringSlow : AFunc := ⟨1, 117, [.tmp 2, .tmp 3], unicodeUtf8DecodeRuneInStringSlow_c1⟩
def unicodeUtf8DecodeRuneInStringSlowr (R : Nat → List AV → Option Res) (N : Nat) (s1 : List UInt8) : Option Res :=
  bif decide ((((s1.length : Nat) : Int) : Int) < 1) then
    (some ⟨AV.tup [AV.int .i32 65533, AV.int .i64 0], false, []⟩)
  else
    need (decide (0 ≤ (0 : Int))) <|
    (s1[Int.toNat 0]?).bind fun c1 =>
    none
theorem unicodeUtf8DecodeRuneInStringSlow_eq (R : Nat → List AV → Option Res) (N : Nat) (s1 : List UInt8) : runF gl R N unicodeUtf8DecodeRuneInStringSlow [AV.str s1] = unicodeUtf8DecodeRuneInStringSlowr R N s1 := by
  kernel_rfl
theorem unicodeUtf8DecodeRuneInStringSlow_fit : fitF Tryd.prog unicodeUtf8DecodeRuneInStringSlow Tryd.f70 = true := by
  kernel_rfl

def unicodeUtf8DecodeRuneInString_c0 : AC := .seq (.region [.op (some 2) none (.mv (.k (AV.int .i32 0))), .op (some 3) none (.mv (.k (AV.int .i64 0)))]) (.seq (.seq (.region [.op (some 4) none (.mv (.t 0)), .op (some 5) none (.bin .neq (.t 4) (.k (AV.str ([] : List UInt8)))), .op (some 6) none (.mv (.t 5)), .split 6, .op (some 7) (some (6, true)) (.mv (.t 0)), .op (some 8) (some (6, true)) (.index (.t 7) (.k (AV.int .i64 0))), .op (some 9) (some (6, true)) (.bin .lss (.t 8) (.k (AV.int .u8 128))), .op (some 10) none (.pick (.t 6) (.t 9) (.k (AV.bool false)))]) (.cond (.t 10) (.seq (.region [.op (some 11) none (.mv (.t 0)), .op (some 12) none (.index (.t 11) (.k (AV.int .i64 0))), .op (some 13) none (.cvInt .i32 (.t 12)), .op (some 2) none (.mv (.t 13)), .op (some 3) none (.mv (.k (AV.int .i64 1)))]) (.ret [2, 3] [])) (.region [.op (some 15) none (.mv (.t 0)), .op (some 16) none (.call id_unicodeUtf8DecodeRuneInStringSlow [.t 15] (.tup [.int .i32, .int .i64])), .op (some 14) none (.mv (.t 16)), .op (some 17) none (.extract (.t 14) 0), .op (some 18) none (.extract (.t 14) 1), .op (some 2) none (.mv (.t 17)), .op (some 3) none (.mv (.t 18))]))) (.ret [2, 3] []))
def unicodeUtf8DecodeRuneInString : AFunc := ⟨1, 19, [.tmp 2, .tmp 3], unicodeUtf8DecodeRuneInString_c0⟩
def unicodeUtf8DecodeRuneInStringr (R : Nat → List AV → Option Res) (N : Nat) (s1 : List UInt8) : Option Res :=
  bif !(s1 == ([] : List UInt8)) then
    (need (decide (0 ≤ (0 : Int))) <|
    (s1[Int.toNat 0]?).bind fun c1 =>
    bif decide (((c1.toNat : Int) : Int) < 128) then
      (need (decide (0 ≤ (0 : Int))) <|
      (s1[Int.toNat 0]?).bind fun c2 =>
      some ⟨AV.tup [AV.int .i32 (IntKind.i32.wrap (c2.toNat : Int)), AV.int .i64 1], false, []⟩)
    else
      (R id_unicodeUtf8DecodeRuneInStringSlow [AV.str s1]).bind fun r1 =>
      asJIT r1.v fun i1 i2 =>
      some ⟨AV.tup [AV.int .i32 i1, AV.int .i64 i2], false, []⟩)
  else
    (R id_unicodeUtf8DecodeRuneInStringSlow [AV.str s1]).bind fun r2 =>
    asJIT r2.v fun i3 i4 =>
    some ⟨AV.tup [AV.int .i32 i3, AV.int .i64 i4], false, []⟩
theorem unicodeUtf8DecodeRuneInString_eq (R : Nat → List AV → Option Res) (N : Nat) (s1 : List UInt8) : runF gl R N unicodeUtf8DecodeRuneInString [AV.str s1] = unicodeUtf8DecodeRuneInStringr R N s1 := by
  kernel_rfl
theorem unicodeUtf8DecodeRuneInString_fit : fitF Tryd.prog unicodeUtf8DecodeRuneInString Tryd.f64 = true := by
  kernel_rfl

def table : List (Nat × AFunc) := [(id_keepWithin, keepWithin), (id_doubleHex, doubleHex), (id_unicodeUtf8WordString, unicodeUtf8WordString), (id_charsPrintable, charsPrintable), (id_doubleRunes, doubleRunes), (id_doubleOne, doubleOne), (id_law06Wakes, law06Wakes), (id_internalStringsliteIndexByte, internalStringsliteIndexByte), (id_stringsIndexByte, stringsIndexByte), (id_doubleDigits, doubleDigits), (id_doubleNumber, doubleNumber), (id_doubleEscape, doubleEscape), (id_unicodeUtf8AppendRuneNonASCII, unicodeUtf8AppendRuneNonASCII), (id_unicodeUtf8AppendRune, unicodeUtf8AppendRune), (id_doubleTake, doubleTake), (id_law06DoubleEscapes, law06DoubleEscapes), (id_keepText, keepText), (id_keepLend, keepLend), (id_keepIntact, keepIntact), (id_unicodeUtf8DecodeRuneSlow, unicodeUtf8DecodeRuneSlow), (id_unicodeUtf8DecodeRune, unicodeUtf8DecodeRune), (id_charsRune, charsRune), (id_internalBytealgCutover, internalBytealgCutover), (id_internalBytealgHashStrString, internalBytealgHashStrString), (id_unicodeUtf8DecodeRuneInStringSlow, unicodeUtf8DecodeRuneInStringSlow), (id_unicodeUtf8DecodeRuneInString, unicodeUtf8DecodeRuneInString)]
theorem table_fits : Fits Tryd.prog table := ⟨⟨_, Tryd.func15, keepWithin_fit⟩, ⟨_, Tryd.func16, doubleHex_fit⟩, ⟨_, Tryd.func54, unicodeUtf8WordString_fit⟩, ⟨_, Tryd.func46, charsPrintable_fit⟩, ⟨_, Tryd.func50, doubleRunes_fit⟩, ⟨_, Tryd.func40, doubleOne_fit⟩, ⟨_, Tryd.func17, law06Wakes_fit⟩, ⟨_, Tryd.func58, internalStringsliteIndexByte_fit⟩, ⟨_, Tryd.func49, stringsIndexByte_fit⟩, ⟨_, Tryd.func51, doubleDigits_fit⟩, ⟨_, Tryd.func52, doubleNumber_fit⟩, ⟨_, Tryd.func32, doubleEscape_fit⟩, ⟨_, Tryd.func53, unicodeUtf8AppendRuneNonASCII_fit⟩, ⟨_, Tryd.func33, unicodeUtf8AppendRune_fit⟩, ⟨_, Tryd.func18, doubleTake_fit⟩, ⟨_, Tryd.func4, law06DoubleEscapes_fit⟩, ⟨_, Tryd.func19, keepText_fit⟩, ⟨_, Tryd.func20, keepLend_fit⟩, ⟨_, Tryd.func25, keepIntact_fit⟩, ⟨_, Tryd.func60, unicodeUtf8DecodeRuneSlow_fit⟩, ⟨_, Tryd.func56, unicodeUtf8DecodeRune_fit⟩, ⟨_, Tryd.func45, charsRune_fit⟩, ⟨_, Tryd.func73, internalBytealgCutover_fit⟩, ⟨_, Tryd.func75, internalBytealgHashStrString_fit⟩, ⟨_, Tryd.func70, unicodeUtf8DecodeRuneInStringSlow_fit⟩, ⟨_, Tryd.func64, unicodeUtf8DecodeRuneInString_fit⟩, trivial⟩
theorem table_fit : ∀ f F, get table f = some F → ∃ fn, Tryd.prog.funcs[f]? = some fn ∧ fitF Tryd.prog F fn = true := table_fits.get
end Go.Proofs.YtpgcjcggnfagfaaDoor.Vf
