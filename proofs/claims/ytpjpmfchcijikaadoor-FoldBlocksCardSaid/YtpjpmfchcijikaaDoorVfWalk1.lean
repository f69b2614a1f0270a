/- The code of the functions that the statements reach, as our evaluator takes it, and what each of them comes to, readably: printed by a program of ours. No condition. -/
import Derived.Test.YtpjpmfchcijikaaDoorVf2
import Derived.Test.YtpjpmfchcijikaaDoorChecked
import Derived.Lib.DecodeN
namespace Go.Proofs.YtpjpmfchcijikaaDoor.Vf
set_option linter.unusedVariables false
set_option linter.unusedSimpArgs false
set_option maxRecDepth 100000

def g_first : Nat := 1
def g_accept : Nat := 2
def gl : List (Nat × List AV) := [(g_first, (List.range 256).map fun c => AV.int .u8 (Lib.firstT c)), (g_accept, (List.range 32).map fun i => AV.int .u8 (bif Nat.beq (i % 2) 0 then Lib.accLo (i / 2) else Lib.accHi (i / 2)))]
def id_bytesAsciiSetContains : Nat := 52
def id_bytesContainsRune : Nat := 54
def id_bytesEqual : Nat := 25
def id_bytesHasPrefix : Nat := 13
def id_bytesIndexByte : Nat := 14
def id_bytesMakeASCIISet : Nat := 43
def id_bytesTrimLeft : Nat := 33
def id_bytesTrimLeftASCII : Nat := 44
def id_bytesTrimLeftByte : Nat := 42
def id_bytesTrimLeftUnicode : Nat := 45
def id_foldBetween : Nat := 40
def id_foldBody : Nat := 9
def id_foldBodyBlank : Nat := 18
def id_foldBodyColumn : Nat := 16
def id_foldBodyRow : Nat := 17
def id_foldFolded : Nat := 28
def id_foldInner : Nat := 51
def id_foldParts : Nat := 19
def id_foldValue : Nat := 15
def id_internalBytealgIndexByte : Nat := 26
def id_internalStringsliteCutPrefix : Nat := 41
def id_internalStringsliteHasPrefix : Nat := 48
def id_keepSameString : Nat := 10
def id_keepText : Nat := 6
def id_keepWithin : Nat := 5
def id_law07FoldBlocks : Nat := 3
def id_law07FoldBodies : Nat := 4
def id_law07Wakes : Nat := 8
def id_linesBlank : Nat := 30
def id_linesIndent : Nat := 20
def id_linesSplit : Nat := 7
def id_linesText : Nat := 32
def id_mathBitsMul : Nat := 34
def id_mathBitsMul32 : Nat := 46
def id_mathBitsMul64 : Nat := 47
def id_ref01Blank : Nat := 22
def id_ref01Body : Nat := 12
def id_ref01Indent : Nat := 23
def id_ref01Marked : Nat := 21
def id_ref01Split : Nat := 11
def id_ref01Stop : Nat := 24
def id_stringsBuilderCopyCheckLow : Nat := 49
def id_stringsBuilderGrow : Nat := 36
def id_stringsBuilderGrowLow : Nat := 50
def id_stringsBuilderLen : Nat := 38
def id_stringsBuilderReset : Nat := 73
def id_stringsBuilderString : Nat := 39
def id_stringsBuilderWriteString : Nat := 37
def id_stringsCutPrefix : Nat := 31
def id_stringsHasPrefix : Nat := 35
def id_stringsJoin : Nat := 29
def id_stringsRepeat : Nat := 27
def id_unicodeUtf8DecodeRune : Nat := 53
def id_unicodeUtf8DecodeRuneSlow : Nat := 57
def asIIIA {α : Type} (v : AV) (K : Int → Int → Int → Option α) : Option α :=
  asA v fun l1 => asC l1 fun x2 r2 => asI .i64 x2 fun a0 => asC r2 fun x3 r3 => asI .i64 x3 fun a1 => asC r3 fun x4 r4 => asI .i64 x4 fun a2 => asN r4 <| K a0 a1 a2
def asJIT {α : Type} (v : AV) (K : Int → Int → Option α) : Option α :=
  asT v fun l1 => asC l1 fun x2 r2 => asI .i32 x2 fun a0 => asC r2 fun x3 r3 => asI .i64 x3 fun a1 => asN r3 <| K a0 a1
def asSBT {α : Type} (v : AV) (K : List UInt8 → Bool → Option α) : Option α :=
  asT v fun l1 => asC l1 fun x2 r2 => asS x2 fun a0 => asC r2 fun x3 r3 => asB x3 fun a1 => asN r3 <| K a0 a1
def asIBT {α : Type} (v : AV) (K : Int → Bool → Option α) : Option α :=
  asT v fun l1 => asC l1 fun x2 r2 => asI .i64 x2 fun a0 => asC r2 fun x3 r3 => asB x3 fun a1 => asN r3 <| K a0 a1
def asRIBT {α : Type} (v : AV) (K : List AV → Int → Bool → Option α) : Option α :=
  asT v fun l1 => asC l1 fun x2 r2 => asR 1 x2 fun a0 => asC r2 fun x3 r3 => asI .i64 x3 fun a1 => asC r3 fun x4 r4 => asB x4 fun a2 => asN r4 <| K a0 a1 a2

def keepWithin_c0 : AC := .seq (.region [.op (some 4) none (.mv (.k (AV.int .i64 0)))]) (.seq (.seq (.region [.op (some 6) none (.mv (.t 1)), .op (some 7) none (.bin .lss (.t 6) (.k (AV.int .i64 1)))]) (.cond (.t 7) (.seq (.region [.op (some 4) none (.mv (.k (AV.int .i64 0)))]) (.ret [4] [])) (.skip))) (.seq (.region [.op (some 8) none (.mv (.t 0)), .op (some 9) none (.mv (.t 1)), .op (some 10) none (.bin .rem (.t 8) (.t 9)), .op (some 5) none (.mv (.t 10))]) (.seq (.seq (.region [.op (some 11) none (.mv (.t 5)), .op (some 12) none (.bin .lss (.t 11) (.k (AV.int .i64 0)))]) (.cond (.t 12) (.region [.op (some 13) none (.mv (.t 5)), .op (some 14) none (.mv (.t 1)), .op (some 15) none (.bin .add (.t 13) (.t 14)), .op (some 5) none (.mv (.t 15))]) (.skip))) (.seq (.region [.op (some 16) none (.mv (.t 5)), .op (some 4) none (.mv (.t 16))]) (.ret [4] [])))))
def keepWithin : AFunc := ⟨2, 17, [.tmp 4], keepWithin_c0⟩
def keepWithinr (R : Nat → List AV → Option Res) (N : Nat) (i1 : Int) (i2 : Int) : Option Res :=
  bif decide ((i2 : Int) < 1) then
    (some ⟨AV.int .i64 0, false, []⟩)
  else
    need (!decide (i2 = 0)) <|
    bif decide (((Int.tmod i1 i2) : Int) < 0) then
      (some ⟨AV.int .i64 (IntKind.i64.wrap ((Int.tmod i1 i2) + i2)), false, []⟩)
    else
      some ⟨AV.int .i64 (Int.tmod i1 i2), false, []⟩
theorem keepWithin_eq (R : Nat → List AV → Option Res) (N : Nat) (i1 : Int) (i2 : Int) : runF gl R N keepWithin [AV.int .i64 i1, AV.int .i64 i2] = keepWithinr R N i1 i2 := by
  kernel_rfl
theorem keepWithin_fit : fitF Tryd.prog keepWithin Tryd.f5 = true := by
  kernel_rfl

def keepText_c0 : AC := .seq (.region [.op (some 4) none (.mv (.k (AV.str ([] : List UInt8))))]) (.seq (.region [.op (some 5) none (.mv (.t 0)), .op (some 6) none (.mv (.t 0)), .op (some 7) none (.len (.t 6) true), .op (some 8) none (.mv (.t 1)), .op (some 9) none (.mn [.t 7, .t 8]), .op (some 10) none (.sliceS (.t 5) none (some (.t 9))), .op (some 4) none (.mv (.t 10))]) (.ret [4] []))
def keepText : AFunc := ⟨2, 11, [.tmp 4], keepText_c0⟩
def keepTextr (R : Nat → List AV → Option Res) (N : Nat) (s1 : List UInt8) (i1 : Int) : Option Res :=
  need (decide (0 ≤ (if i1 < ((s1.length : Nat) : Int) then i1 else ((s1.length : Nat) : Int) : Int)) && decide ((if i1 < ((s1.length : Nat) : Int) then i1 else ((s1.length : Nat) : Int) : Int) ≤ ((s1.length : Nat) : Int))) <|
  some ⟨AV.str ((s1.take (Int.toNat (if i1 < ((s1.length : Nat) : Int) then i1 else ((s1.length : Nat) : Int)))).drop 0), false, []⟩
theorem keepText_eq (R : Nat → List AV → Option Res) (N : Nat) (s1 : List UInt8) (i1 : Int) : runF gl R N keepText [AV.str s1, AV.int .i64 i1] = keepTextr R N s1 i1 := by
  kernel_rfl
theorem keepText_fit : fitF Tryd.prog keepText Tryd.f6 = true := by
  kernel_rfl

def bytesEqual_c0 : AC := .seq (.region [.op (some 4) none (.mv (.k (AV.bool false)))]) (.seq (.region [.op (some 5) none (.mv (.t 0)), .op (some 6) none (.cvStr (.t 5)), .op (some 7) none (.mv (.t 1)), .op (some 8) none (.cvStr (.t 7)), .op (some 9) none (.bin .eql (.t 6) (.t 8)), .op (some 4) none (.mv (.t 9))]) (.ret [4] []))
def bytesEqual : AFunc := ⟨2, 10, [.tmp 4], bytesEqual_c0⟩
def bytesEqualr (R : Nat → List AV → Option Res) (N : Nat) (s1 : List UInt8) (s2 : List UInt8) : Option Res :=
  some ⟨AV.bool (s1 == s2), false, []⟩
theorem bytesEqual_eq (R : Nat → List AV → Option Res) (N : Nat) (s1 : List UInt8) (s2 : List UInt8) : runF gl R N bytesEqual [AV.bytes s1, AV.bytes s2] = bytesEqualr R N s1 s2 := by
  kernel_rfl
theorem bytesEqual_fit : fitF Tryd.prog bytesEqual Tryd.f25 = true := by
  kernel_rfl

def bytesHasPrefix_c0 : AC := .seq (.region [.op (some 4) none (.mv (.k (AV.bool false)))]) (.seq (.region [.op (some 5) none (.mv (.t 0)), .op (some 6) none (.len (.t 5) false), .op (some 7) none (.mv (.t 1)), .op (some 8) none (.len (.t 7) false), .op (some 9) none (.bin .geq (.t 6) (.t 8)), .op (some 10) none (.mv (.t 9)), .split 10, .op (some 11) (some (10, true)) (.mv (.t 0)), .op (some 12) (some (10, true)) (.mv (.t 1)), .op (some 13) (some (10, true)) (.len (.t 12) false), .op (some 14) (some (10, true)) (.slice (.t 11) none (some (.t 13)) 1), .op (some 15) (some (10, true)) (.mv (.t 1)), .op (some 16) (some (10, true)) (.call id_bytesEqual [.t 14, .t 15] (.bool)), .op (some 17) none (.pick (.t 10) (.t 16) (.k (AV.bool false))), .op (some 4) none (.mv (.t 17))]) (.ret [4] []))
def bytesHasPrefix : AFunc := ⟨2, 18, [.tmp 4], bytesHasPrefix_c0⟩
def bytesHasPrefixr (R : Nat → List AV → Option Res) (N : Nat) (s1 : List UInt8) (s2 : List UInt8) : Option Res :=
  bif decide ((((s1.length : Nat) : Int) : Int) ≥ ((s2.length : Nat) : Int)) then
    (need (decide (0 ≤ (((s2.length : Nat) : Int) : Int)) && decide ((((s2.length : Nat) : Int) : Int) ≤ ((s1.length : Nat) : Int))) <|
    (R id_bytesEqual [AV.bytes ((s1.take (Int.toNat ((s2.length : Nat) : Int))).drop 0), AV.bytes s2]).bind fun r1 =>
    asB r1.v fun b1 =>
    some ⟨AV.bool b1, false, []⟩)
  else
    some ⟨AV.bool false, false, []⟩
theorem bytesHasPrefix_eq (R : Nat → List AV → Option Res) (N : Nat) (s1 : List UInt8) (s2 : List UInt8) : runF gl R N bytesHasPrefix [AV.bytes s1, AV.bytes s2] = bytesHasPrefixr R N s1 s2 := by
  kernel_rfl
theorem bytesHasPrefix_fit : fitF Tryd.prog bytesHasPrefix Tryd.f13 = true := by
  kernel_rfl

def bytesIndexByte_c0 : AC := .seq (.region [.op (some 4) none (.mv (.k (AV.int .i64 0)))]) (.seq (.region [.op (some 5) none (.mv (.t 0)), .op (some 6) none (.mv (.t 1)), .op (some 7) none (.call id_internalBytealgIndexByte [.t 5, .t 6] (.int .i64)), .op (some 4) none (.mv (.t 7))]) (.ret [4] []))
def bytesIndexByte : AFunc := ⟨2, 8, [.tmp 4], bytesIndexByte_c0⟩
def bytesIndexByter (R : Nat → List AV → Option Res) (N : Nat) (s1 : List UInt8) (i1 : Int) : Option Res :=
  (R id_internalBytealgIndexByte [AV.bytes s1, AV.int .u8 i1]).bind fun r1 =>
  asI .i64 r1.v fun i2 =>
  some ⟨AV.int .i64 i2, false, []⟩
theorem bytesIndexByte_eq (R : Nat → List AV → Option Res) (N : Nat) (s1 : List UInt8) (i1 : Int) : runF gl R N bytesIndexByte [AV.bytes s1, AV.int .u8 i1] = bytesIndexByter R N s1 i1 := by
  kernel_rfl
theorem bytesIndexByte_fit : fitF Tryd.prog bytesIndexByte Tryd.f14 = true := by
  kernel_rfl

def linesSplit_L1s (R : Nat → List AV → Option Res) (N : Nat) (go : List UInt8 → Int → List AV → Option Res) (k0 : List AV → Option Res) (k1 : List AV → Option Res) (s2 : List UInt8) (i1 : Int) (l1 : List AV) : Option Res :=
  bif decide ((i1 : Int) < ((s2.length : Nat) : Int)) then
    (need (decide (0 ≤ (i1 : Int)) && decide ((i1 : Int) ≤ ((s2.length : Nat) : Int))) <|
    (R id_bytesIndexByte [AV.bytes ((s2.take s2.length).drop (Int.toNat i1)), AV.int .u8 10]).bind fun r2 =>
    asI .i64 r2.v fun i2 =>
    bif decide ((i2 : Int) < 0) then
      (need (decide (((l1.drop 0).take l1.length).length + [AV.agg [AV.int .i64 i1, AV.int .i64 ((s2.length : Nat) : Int), AV.int .i64 ((s2.length : Nat) : Int)]].length ≤ 1099511627776)) <|
      k0 (((l1.drop 0).take l1.length) ++ [AV.agg [AV.int .i64 i1, AV.int .i64 ((s2.length : Nat) : Int), AV.int .i64 ((s2.length : Nat) : Int)]]))
    else
      bif decide ((i2 : Int) > 0) then
        (need (decide (0 ≤ (IntKind.i64.wrap ((IntKind.i64.wrap (i1 + i2)) - 1) : Int))) <|
        (s2[Int.toNat (IntKind.i64.wrap ((IntKind.i64.wrap (i1 + i2)) - 1))]?).bind fun c1 =>
        bif ((c1.toNat : Int) : Int) == 13 then
          (need (decide (((l1.drop 0).take l1.length).length + [AV.agg [AV.int .i64 i1, AV.int .i64 (IntKind.i64.wrap ((IntKind.i64.wrap (i1 + i2)) - 1)), AV.int .i64 (IntKind.i64.wrap ((IntKind.i64.wrap (i1 + i2)) + 1))]].length ≤ 1099511627776)) <|
          go s2 (IntKind.i64.wrap ((IntKind.i64.wrap (i1 + i2)) + 1)) (((l1.drop 0).take l1.length) ++ [AV.agg [AV.int .i64 i1, AV.int .i64 (IntKind.i64.wrap ((IntKind.i64.wrap (i1 + i2)) - 1)), AV.int .i64 (IntKind.i64.wrap ((IntKind.i64.wrap (i1 + i2)) + 1))]]))
        else
          need (decide (((l1.drop 0).take l1.length).length + [AV.agg [AV.int .i64 i1, AV.int .i64 (IntKind.i64.wrap (i1 + i2)), AV.int .i64 (IntKind.i64.wrap ((IntKind.i64.wrap (i1 + i2)) + 1))]].length ≤ 1099511627776)) <|
          go s2 (IntKind.i64.wrap ((IntKind.i64.wrap (i1 + i2)) + 1)) (((l1.drop 0).take l1.length) ++ [AV.agg [AV.int .i64 i1, AV.int .i64 (IntKind.i64.wrap (i1 + i2)), AV.int .i64 (IntKind.i64.wrap ((IntKind.i64.wrap (i1 + i2)) + 1))]]))
      else
        need (decide (((l1.drop 0).take l1.length).length + [AV.agg [AV.int .i64 i1, AV.int .i64 (IntKind.i64.wrap (i1 + i2)), AV.int .i64 (IntKind.i64.wrap ((IntKind.i64.wrap (i1 + i2)) + 1))]].length ≤ 1099511627776)) <|
        go s2 (IntKind.i64.wrap ((IntKind.i64.wrap (i1 + i2)) + 1)) (((l1.drop 0).take l1.length) ++ [AV.agg [AV.int .i64 i1, AV.int .i64 (IntKind.i64.wrap (i1 + i2)), AV.int .i64 (IntKind.i64.wrap ((IntKind.i64.wrap (i1 + i2)) + 1))]]))
  else
    k1 l1
def linesSplit_L1 (R : Nat → List AV → Option Res) (N : Nat) (k0 : List AV → Option Res) (k1 : List AV → Option Res) : Nat → List UInt8 → Int → List AV → Option Res
  | 0, _, _, _ => none
  | n + 1, s2, i1, l1 => linesSplit_L1s R N (linesSplit_L1 R N k0 k1 n) k0 k1 s2 i1 l1
def linesSplit_c0 : AC := .seq (.seq (.region [.op (some 11) none (.mv (.t 4)), .op (some 12) none (.mv (.t 0)), .op (some 13) none (.len (.t 12) false), .op (some 14) none (.bin .lss (.t 11) (.t 13))]) (.cond (.t 14) (.skip) (.exit 0 [3] [3]))) (.block 1 (.seq (.region [.op (some 15) none (.mv (.t 0)), .op (some 16) none (.mv (.t 4)), .op (some 17) none (.slice (.t 15) (some (.t 16)) none 1), .op (some 18) none (.call id_bytesIndexByte [.t 17, .k (AV.int .u8 10)] (.int .i64)), .op (some 5) none (.mv (.t 18))]) (.seq (.seq (.region [.op (some 19) none (.mv (.t 5)), .op (some 20) none (.bin .lss (.t 19) (.k (AV.int .i64 0)))]) (.cond (.t 20) (.seq (.region [.op (some 21) none (.mv (.t 3)), .op (some 22) none (.mv (.t 4)), .op (some 23) none (.mv (.t 0)), .op (some 24) none (.len (.t 23) false), .op (some 25) none (.mv (.t 0)), .op (some 26) none (.len (.t 25) false), .op (some 27) none (.build [AV.int .i64 0, AV.int .i64 0, AV.int .i64 0] [(0, 1, .t 22), (1, 1, .t 24), (2, 1, .t 26)]), .op (some 28) none (.bslice [.t 27] 3 false), .op (some 29) none (.app 3 (.t 21) (.t 28) 3 .any false), .op (some 2) none (.mv (.t 29))]) (.ret [2] [3])) (.skip))) (.seq (.region [.op (some 30) none (.mv (.t 4)), .op (some 31) none (.mv (.t 4)), .op (some 32) none (.mv (.t 5)), .op (some 33) none (.bin .add (.t 31) (.t 32)), .op (some 34) none (.mv (.t 4)), .op (some 35) none (.mv (.t 5)), .op (some 36) none (.bin .add (.t 34) (.t 35)), .op (some 37) none (.bin .add (.t 36) (.k (AV.int .i64 1))), .op (some 38) none (.build [AV.int .i64 0, AV.int .i64 0, AV.int .i64 0] [(0, 1, .t 30), (1, 1, .t 33), (2, 1, .t 37)]), .op (some 6) none (.alloc 1006 [AV.int .i64 0, AV.int .i64 0, AV.int .i64 0]), .op none none (.store (.t 6) (.t 38) 3)]) (.seq (.seq (.region [.op (some 39) none (.mv (.t 5)), .op (some 40) none (.bin .gtr (.t 39) (.k (AV.int .i64 0))), .op (some 41) none (.mv (.t 40)), .split 41, .op (some 42) (some (41, true)) (.mv (.t 0)), .op (some 43) (some (41, true)) (.faddr (.t 6) 1), .op (some 44) (some (41, true)) (.load (.t 43) none (.int .i64)), .op (some 45) (some (41, true)) (.bin .sub (.t 44) (.k (AV.int .i64 1))), .op (some 46) (some (41, true)) (.iaddr (.t 42) (.t 45) 1 (.int .u8)), .op (some 47) (some (41, true)) (.load (.t 46) none (.int .u8)), .op (some 48) (some (41, true)) (.bin .eql (.t 47) (.k (AV.int .u8 13))), .op (some 49) none (.pick (.t 41) (.t 48) (.k (AV.bool false)))]) (.cond (.t 49) (.region [.op (some 50) none (.faddr (.t 6) 1), .op (some 51) none (.load (.t 50) none (.int .i64)), .op (some 52) none (.bin .sub (.t 51) (.k (AV.int .i64 1))), .op (some 53) none (.faddr (.t 6) 1), .op none none (.store (.t 53) (.t 52) 1)]) (.skip))) (.seq (.region [.op (some 54) none (.mv (.t 3)), .op (some 55) none (.load (.t 6) (some 3) (.agg [.int .i64, .int .i64, .int .i64])), .op (some 56) none (.bslice [.t 55] 3 false), .op (some 57) none (.app 3 (.t 54) (.t 56) 3 .any false), .op (some 3) none (.mv (.t 57))]) (.region [.op (some 58) none (.faddr (.t 6) 2), .op (some 59) none (.load (.t 58) none (.int .i64)), .op (some 4) none (.mv (.t 59))])))))))
theorem linesSplit_L1s_eq (R : Nat → List AV → Option Res) (N : Nat) (K : Ex → St → Option Res) (W : St → Option Res) (s2 : List UInt8) (i1 : Int) (l1 : List AV) :
    evC gl R N linesSplit_c0 (Kseq (fun st' => W (prune [0, 3, 4] [3] st')) K) ⟨[(0, .imm (AV.bytes s2)), (3, .own 3 0 l1.length none), (4, .imm (AV.int .i64 i1))], [(3, .row 3 l1 false)]⟩ =
    linesSplit_L1s R N (fun (s2 : List UInt8) (i1 : Int) (l1 : List AV) => W ⟨[(0, .imm (AV.bytes s2)), (3, .own 3 0 l1.length none), (4, .imm (AV.int .i64 i1))], [(3, .row 3 l1 false)]⟩) (fun (l2 : List AV) => K .ret ⟨[(2, .own 3 0 l2.length none)], [(3, .row 3 l2 false)]⟩) (fun (l3 : List AV) => K (.exit 0) ⟨[(3, .own 3 0 l3.length none)], [(3, .row 3 l3 false)]⟩) s2 i1 l1 := by
  kernel_rfl
theorem linesSplit_L1_eq (R : Nat → List AV → Option Res) (N : Nat) (K : Ex → St → Option Res) : ∀ (n : Nat) (s2 : List UInt8) (i1 : Int) (l1 : List AV),
    rounds [0, 3, 4] [3] (evC gl R N linesSplit_c0) K n ⟨[(0, .imm (AV.bytes s2)), (3, .own 3 0 l1.length none), (4, .imm (AV.int .i64 i1))], [(3, .row 3 l1 false)]⟩ = linesSplit_L1 R N (fun (l2 : List AV) => K .ret ⟨[(2, .own 3 0 l2.length none)], [(3, .row 3 l2 false)]⟩) (fun (l3 : List AV) => K (.exit 0) ⟨[(3, .own 3 0 l3.length none)], [(3, .row 3 l3 false)]⟩) n s2 i1 l1
  | 0, _, _, _ => rfl
  | n + 1, s2, i1, l1 => (linesSplit_L1s_eq R N K (rounds [0, 3, 4] [3] (evC gl R N linesSplit_c0) K n) s2 i1 l1).trans
      (congrArg (fun go => linesSplit_L1s R N go (fun (l2 : List AV) => K .ret ⟨[(2, .own 3 0 l2.length none)], [(3, .row 3 l2 false)]⟩) (fun (l3 : List AV) => K (.exit 0) ⟨[(3, .own 3 0 l3.length none)], [(3, .row 3 l3 false)]⟩) s2 i1 l1) (funext fun s2 => funext fun i1 => funext fun l1 => linesSplit_L1_eq R N K n s2 i1 l1))
def linesSplit_c1 : AC := .seq (.region [.op (some 60) none (.mv (.t 3)), .op (some 2) none (.mv (.t 60))]) (.ret [2] [3])
def linesSplit_c2 : AC := .seq (.region [.op (some 2) none (.nilOwn 3 (some (3, .any)))]) (.seq (.region [.op (some 3) none (.nilOwn 3 (some (3, .any)))]) (.seq (.region [.op (some 4) none (.mv (.k (AV.int .i64 0)))]) (.seq (.seq (.region [.op (some 7) none (.mv (.t 0)), .op (some 8) none (.bsliceOwn 8 [.k (AV.int .u8 239), .k (AV.int .u8 187), .k (AV.int .u8 191)] 1 .any true), .op (some 9) none (.cvSame (.t 8)), .op (some 10) none (.call id_bytesHasPrefix [.t 7, .t 9] (.bool))]) (.cond (.t 10) (.region [.op (some 4) none (.mv (.k (AV.int .i64 3)))]) (.skip))) (.seq (.block 0 (.loop [0, 3, 4] [3] (linesSplit_c0))) (linesSplit_c1)))))
def linesSplit : AFunc := ⟨1, 61, [.tmp 2], linesSplit_c2⟩
def linesSplitr (R : Nat → List AV → Option Res) (N : Nat) (s1 : List UInt8) : Option Res :=
  (R id_bytesHasPrefix [AV.bytes s1, AV.bytes ((([239, 187, 191] : List UInt8).drop 0).take 3)]).bind fun r1 =>
  asB r1.v fun b1 =>
  bif b1 then
    (linesSplit_L1 R N
      (fun l6 =>
        some ⟨AV.row 3 ((l6.drop 0).take l6.length), true, []⟩)
      (fun l7 =>
        some ⟨AV.row 3 ((l7.drop 0).take l7.length), true, []⟩)
      N s1 3 [])
  else
    linesSplit_L1 R N
      (fun l8 =>
        some ⟨AV.row 3 ((l8.drop 0).take l8.length), true, []⟩)
      (fun l9 =>
        some ⟨AV.row 3 ((l9.drop 0).take l9.length), true, []⟩)
      N s1 0 []
theorem linesSplit_eq (R : Nat → List AV → Option Res) (N : Nat) (s1 : List UInt8) : runF gl R N linesSplit [AV.bytes s1] = linesSplitr R N s1 := by
  refine Eq.trans (b :=
      (R id_bytesHasPrefix [AV.bytes s1, AV.bytes ((([239, 187, 191] : List UInt8).drop 0).take 3)]).bind fun r1 =>
      asB r1.v fun b1 =>
      bif b1 then
        (rounds [0, 3, 4] [3] (evC gl R N linesSplit_c0) (Kblock 0 (Kthen gl R N linesSplit_c1 (Kret linesSplit.rets))) N ⟨[(0, .imm (AV.bytes s1)), (3, .own 3 0 (([] : List AV).length) none), (4, .imm (AV.int .i64 3))], [(3, .row 3 [] false)]⟩)
      else
        rounds [0, 3, 4] [3] (evC gl R N linesSplit_c0) (Kblock 0 (Kthen gl R N linesSplit_c1 (Kret linesSplit.rets))) N ⟨[(0, .imm (AV.bytes s1)), (3, .own 3 0 (([] : List AV).length) none), (4, .imm (AV.int .i64 0))], [(3, .row 3 [] false)]⟩) (by kernel_rfl) ?_
  simp (config := { maxSteps := 100000000 }) only [linesSplit_L1_eq]
  kernel_rfl
theorem linesSplit_fit : fitF Tryd.prog linesSplit Tryd.f7 = true := by
  kernel_rfl

def internalStringsliteHasPrefix_c0 : AC := .seq (.region [.op (some 4) none (.mv (.k (AV.bool false)))]) (.seq (.region [.op (some 5) none (.mv (.t 0)), .op (some 6) none (.len (.t 5) true), .op (some 7) none (.mv (.t 1)), .op (some 8) none (.len (.t 7) true), .op (some 9) none (.bin .geq (.t 6) (.t 8)), .op (some 10) none (.mv (.t 9)), .split 10, .op (some 11) (some (10, true)) (.mv (.t 0)), .op (some 12) (some (10, true)) (.mv (.t 1)), .op (some 13) (some (10, true)) (.len (.t 12) true), .op (some 14) (some (10, true)) (.sliceS (.t 11) none (some (.t 13))), .op (some 15) (some (10, true)) (.mv (.t 1)), .op (some 16) (some (10, true)) (.bin .eql (.t 14) (.t 15)), .op (some 17) none (.pick (.t 10) (.t 16) (.k (AV.bool false))), .op (some 4) none (.mv (.t 17))]) (.ret [4] []))
def internalStringsliteHasPrefix : AFunc := ⟨2, 18, [.tmp 4], internalStringsliteHasPrefix_c0⟩
def internalStringsliteHasPrefixr (R : Nat → List AV → Option Res) (N : Nat) (s1 : List UInt8) (s2 : List UInt8) : Option Res :=
  bif decide ((((s1.length : Nat) : Int) : Int) ≥ ((s2.length : Nat) : Int)) then
    (need (decide (0 ≤ (((s2.length : Nat) : Int) : Int)) && decide ((((s2.length : Nat) : Int) : Int) ≤ ((s1.length : Nat) : Int))) <|
    some ⟨AV.bool (((s1.take (Int.toNat ((s2.length : Nat) : Int))).drop 0) == s2), false, []⟩)
  else
    some ⟨AV.bool false, false, []⟩
theorem internalStringsliteHasPrefix_eq (R : Nat → List AV → Option Res) (N : Nat) (s1 : List UInt8) (s2 : List UInt8) : runF gl R N internalStringsliteHasPrefix [AV.str s1, AV.str s2] = internalStringsliteHasPrefixr R N s1 s2 := by
  kernel_rfl
theorem internalStringsliteHasPrefix_fit : fitF Tryd.prog internalStringsliteHasPrefix Tryd.f48 = true := by
  kernel_rfl

def stringsHasPrefix_c0 : AC := .seq (.region [.op (some 4) none (.mv (.k (AV.bool false)))]) (.seq (.region [.op (some 5) none (.mv (.t 0)), .op (some 6) none (.mv (.t 1)), .op (some 7) none (.call id_internalStringsliteHasPrefix [.t 5, .t 6] (.bool)), .op (some 4) none (.mv (.t 7))]) (.ret [4] []))
def stringsHasPrefix : AFunc := ⟨2, 8, [.tmp 4], stringsHasPrefix_c0⟩
def stringsHasPrefixr (R : Nat → List AV → Option Res) (N : Nat) (s1 : List UInt8) (s2 : List UInt8) : Option Res :=
  (R id_internalStringsliteHasPrefix [AV.str s1, AV.str s2]).bind fun r1 =>
  asB r1.v fun b1 =>
  some ⟨AV.bool b1, false, []⟩
theorem stringsHasPrefix_eq (R : Nat → List AV → Option Res) (N : Nat) (s1 : List UInt8) (s2 : List UInt8) : runF gl R N stringsHasPrefix [AV.str s1, AV.str s2] = stringsHasPrefixr R N s1 s2 := by
  kernel_rfl
theorem stringsHasPrefix_fit : fitF Tryd.prog stringsHasPrefix Tryd.f35 = true := by
  kernel_rfl

def foldInner_c0 : AC := .seq (.region [.op (some 2) none (.mv (.k (AV.bool false)))]) (.seq (.region [.op (some 3) none (.mv (.t 0)), .op (some 4) none (.bin .neq (.t 3) (.k (AV.str ([] : List UInt8)))), .op (some 5) none (.mv (.t 4)), .split 5, .op (some 6) (some (5, true)) (.mv (.t 0)), .op (some 7) (some (5, true)) (.index (.t 6) (.k (AV.int .i64 0))), .op (some 8) (some (5, true)) (.bin .eql (.t 7) (.k (AV.int .u8 32))), .op (some 9) (some (5, true)) (.mv (.t 8)), .split 9, .op (some 10) (some (9, false)) (.mv (.t 0)), .op (some 11) (some (9, false)) (.index (.t 10) (.k (AV.int .i64 0))), .op (some 12) (some (9, false)) (.bin .eql (.t 11) (.k (AV.int .u8 9))), .op (some 13) (some (5, true)) (.pick (.t 9) (.k (AV.bool true)) (.t 12)), .op (some 14) none (.pick (.t 5) (.t 13) (.k (AV.bool false))), .op (some 2) none (.mv (.t 14))]) (.ret [2] []))
def foldInner : AFunc := ⟨1, 15, [.tmp 2], foldInner_c0⟩
def foldInnerr (R : Nat → List AV → Option Res) (N : Nat) (s1 : List UInt8) : Option Res :=
  bif !(s1 == ([] : List UInt8)) then
    (need (decide (0 ≤ (0 : Int))) <|
    (s1[Int.toNat 0]?).bind fun c1 =>
    bif ((c1.toNat : Int) : Int) == 32 then
      (some ⟨AV.bool true, false, []⟩)
    else
      need (decide (0 ≤ (0 : Int))) <|
      (s1[Int.toNat 0]?).bind fun c2 =>
      some ⟨AV.bool (((c2.toNat : Int) : Int) == 9), false, []⟩)
  else
    some ⟨AV.bool false, false, []⟩
theorem foldInner_eq (R : Nat → List AV → Option Res) (N : Nat) (s1 : List UInt8) : runF gl R N foldInner [AV.str s1] = foldInnerr R N s1 := by
  kernel_rfl
theorem foldInner_fit : fitF Tryd.prog foldInner Tryd.f51 = true := by
  kernel_rfl

def foldBetween_c0 : AC := .seq (.region [.op (some 6) none (.mv (.k (AV.str ([] : List UInt8))))]) (.seq (.seq (.region [.op (some 7) none (.mv (.t 0)), .op (some 8) none (.call id_foldInner [.t 7] (.bool)), .op (some 9) none (.mv (.t 8)), .split 9, .op (some 10) (some (9, false)) (.mv (.t 1)), .op (some 11) (some (9, false)) (.call id_foldInner [.t 10] (.bool)), .op (some 12) none (.pick (.t 9) (.k (AV.bool true)) (.t 11))]) (.cond (.t 12) (.seq (.region [.op (some 13) none (.mv (.t 2)), .op (some 14) none (.bin .add (.t 13) (.k (AV.int .i64 1))), .op (some 15) none (.call id_stringsRepeat [.k (AV.str ([10] : List UInt8)), .t 14] (.str)), .op (some 6) none (.mv (.t 15))]) (.ret [6] [])) (.skip))) (.seq (.seq (.region [.op (some 16) none (.mv (.t 2)), .op (some 17) none (.bin .eql (.t 16) (.k (AV.int .i64 0)))]) (.cond (.t 17) (.seq (.region [.op (some 6) none (.mv (.k (AV.str ([32] : List UInt8))))]) (.ret [6] [])) (.skip))) (.seq (.region [.op (some 18) none (.mv (.t 2)), .op (some 19) none (.call id_stringsRepeat [.k (AV.str ([10] : List UInt8)), .t 18] (.str)), .op (some 6) none (.mv (.t 19))]) (.ret [6] []))))
def foldBetween : AFunc := ⟨3, 20, [.tmp 6], foldBetween_c0⟩
def foldBetweenr (R : Nat → List AV → Option Res) (N : Nat) (s1 : List UInt8) (s2 : List UInt8) (i1 : Int) : Option Res :=
  (R id_foldInner [AV.str s1]).bind fun r1 =>
  asB r1.v fun b1 =>
  bif b1 then
    ((R id_stringsRepeat [AV.str ([10] : List UInt8), AV.int .i64 (IntKind.i64.wrap (i1 + 1))]).bind fun r2 =>
    asS r2.v fun s3 =>
    some ⟨AV.str s3, false, []⟩)
  else
    (R id_foldInner [AV.str s2]).bind fun r3 =>
    asB r3.v fun b2 =>
    bif b2 then
      ((R id_stringsRepeat [AV.str ([10] : List UInt8), AV.int .i64 (IntKind.i64.wrap (i1 + 1))]).bind fun r4 =>
      asS r4.v fun s4 =>
      some ⟨AV.str s4, false, []⟩)
    else
      bif (i1 : Int) == 0 then
        (some ⟨AV.str ([32] : List UInt8), false, []⟩)
      else
        (R id_stringsRepeat [AV.str ([10] : List UInt8), AV.int .i64 i1]).bind fun r5 =>
        asS r5.v fun s5 =>
        some ⟨AV.str s5, false, []⟩
theorem foldBetween_eq (R : Nat → List AV → Option Res) (N : Nat) (s1 : List UInt8) (s2 : List UInt8) (i1 : Int) : runF gl R N foldBetween [AV.str s1, AV.str s2, AV.int .i64 i1] = foldBetweenr R N s1 s2 i1 := by
  kernel_rfl
theorem foldBetween_fit : fitF Tryd.prog foldBetween Tryd.f40 = true := by
  kernel_rfl

def foldValue_L1s (R : Nat → List AV → Option Res) (N : Nat) (go : List AV → Int → Bool → Bool → Bool → Int → Option Res) (k0 : List AV → Int → Bool → Bool → Bool → Int → Option Res) (l2 : List AV) (i2 : Int) (b4 : Bool) (b5 : Bool) (b6 : Bool) (i3 : Int) : Option Res :=
  bif decide ((i2 : Int) > 0) then
    (need (decide (0 ≤ (IntKind.i64.wrap (i2 - 1) : Int))) <|
    (l2[Int.toNat (IntKind.i64.wrap (i2 - 1))]?).bind fun e1 =>
    asS e1 fun s1 =>
    bif s1 == ([] : List UInt8) then
      (go l2 (IntKind.i64.wrap (i2 - 1)) b4 b5 b6 i3)
    else
      k0 l2 i2 b4 b5 b6 i3)
  else
    k0 l2 i2 b4 b5 b6 i3
def foldValue_L1 (R : Nat → List AV → Option Res) (N : Nat) (k0 : List AV → Int → Bool → Bool → Bool → Int → Option Res) : Nat → List AV → Int → Bool → Bool → Bool → Int → Option Res
  | 0, _, _, _, _, _, _ => none
  | n + 1, l2, i2, b4, b5, b6, i3 => foldValue_L1s R N (foldValue_L1 R N k0 n) k0 l2 i2 b4 b5 b6 i3
def foldValue_c0 : AC := .seq (.seq (.region [.op (some 9) none (.mv (.t 5)), .op (some 10) none (.bin .gtr (.t 9) (.k (AV.int .i64 0))), .op (some 11) none (.mv (.t 10)), .split 11, .op (some 12) (some (11, true)) (.mv (.t 1)), .op (some 13) (some (11, true)) (.mv (.t 5)), .op (some 14) (some (11, true)) (.bin .sub (.t 13) (.k (AV.int .i64 1))), .op (some 15) (some (11, true)) (.iaddr (.t 12) (.t 14) 1 (.str)), .op (some 16) (some (11, true)) (.load (.t 15) none (.str)), .op (some 17) (some (11, true)) (.bin .eql (.t 16) (.k (AV.str ([] : List UInt8)))), .op (some 18) none (.pick (.t 11) (.t 17) (.k (AV.bool false)))]) (.cond (.t 18) (.skip) (.exit 0 [1, 2, 5] [1002]))) (.block 1 (.region [.op (some 19) none (.mv (.t 5)), .op (some 20) none (.bin .sub (.t 19) (.k (AV.int .i64 1))), .op (some 5) none (.mv (.t 20))]))
theorem foldValue_L1s_eq (R : Nat → List AV → Option Res) (N : Nat) (K : Ex → St → Option Res) (W : St → Option Res) (l2 : List AV) (i2 : Int) (b4 : Bool) (b5 : Bool) (b6 : Bool) (i3 : Int) :
    evC gl R N foldValue_c0 (Kseq (fun st' => W (prune [1, 2, 5] [1002] st')) K) ⟨[(1, .imm (AV.row 1 l2)), (2, .ptr 1002 0 0), (5, .imm (AV.int .i64 i2))], [(1002, .box [.imm (AV.bool b4), .imm (AV.bool b5), .imm (AV.bool b6), .imm (AV.int .i64 i3)])]⟩ =
    foldValue_L1s R N (fun (l2 : List AV) (i2 : Int) (b4 : Bool) (b5 : Bool) (b6 : Bool) (i3 : Int) => W ⟨[(1, .imm (AV.row 1 l2)), (2, .ptr 1002 0 0), (5, .imm (AV.int .i64 i2))], [(1002, .box [.imm (AV.bool b4), .imm (AV.bool b5), .imm (AV.bool b6), .imm (AV.int .i64 i3)])]⟩) (fun (l3 : List AV) (i4 : Int) (b7 : Bool) (b8 : Bool) (b9 : Bool) (i5 : Int) => K (.exit 0) ⟨[(1, .imm (AV.row 1 l3)), (2, .ptr 1002 0 0), (5, .imm (AV.int .i64 i4))], [(1002, .box [.imm (AV.bool b7), .imm (AV.bool b8), .imm (AV.bool b9), .imm (AV.int .i64 i5)])]⟩) l2 i2 b4 b5 b6 i3 := by
  kernel_rfl
theorem foldValue_L1_eq (R : Nat → List AV → Option Res) (N : Nat) (K : Ex → St → Option Res) : ∀ (n : Nat) (l2 : List AV) (i2 : Int) (b4 : Bool) (b5 : Bool) (b6 : Bool) (i3 : Int),
    rounds [1, 2, 5] [1002] (evC gl R N foldValue_c0) K n ⟨[(1, .imm (AV.row 1 l2)), (2, .ptr 1002 0 0), (5, .imm (AV.int .i64 i2))], [(1002, .box [.imm (AV.bool b4), .imm (AV.bool b5), .imm (AV.bool b6), .imm (AV.int .i64 i3)])]⟩ = foldValue_L1 R N (fun (l3 : List AV) (i4 : Int) (b7 : Bool) (b8 : Bool) (b9 : Bool) (i5 : Int) => K (.exit 0) ⟨[(1, .imm (AV.row 1 l3)), (2, .ptr 1002 0 0), (5, .imm (AV.int .i64 i4))], [(1002, .box [.imm (AV.bool b7), .imm (AV.bool b8), .imm (AV.bool b9), .imm (AV.int .i64 i5)])]⟩) n l2 i2 b4 b5 b6 i3
  | 0, _, _, _, _, _, _ => rfl
  | n + 1, l2, i2, b4, b5, b6, i3 => (foldValue_L1s_eq R N K (rounds [1, 2, 5] [1002] (evC gl R N foldValue_c0) K n) l2 i2 b4 b5 b6 i3).trans
      (congrArg (fun go => foldValue_L1s R N go (fun (l3 : List AV) (i4 : Int) (b7 : Bool) (b8 : Bool) (b9 : Bool) (i5 : Int) => K (.exit 0) ⟨[(1, .imm (AV.row 1 l3)), (2, .ptr 1002 0 0), (5, .imm (AV.int .i64 i4))], [(1002, .box [.imm (AV.bool b7), .imm (AV.bool b8), .imm (AV.bool b9), .imm (AV.int .i64 i5)])]⟩) l2 i2 b4 b5 b6 i3) (funext fun l2 => funext fun i2 => funext fun b4 => funext fun b5 => funext fun b6 => funext fun i3 => foldValue_L1_eq R N K n l2 i2 b4 b5 b6 i3))
def foldValue_c1 : AC := .seq (.region [.op (some 6) none (.mv (.k (AV.str ([] : List UInt8))))]) (.seq (.seq (.region [.op (some 21) none (.faddr (.t 2) 1), .op (some 22) none (.load (.t 21) none (.bool)), .op (some 23) none (.un .not (.t 22)), .op (some 24) none (.mv (.t 23)), .split 24, .op (some 25) (some (24, true)) (.mv (.t 5)), .op (some 26) (some (24, true)) (.bin .gtr (.t 25) (.k (AV.int .i64 0))), .op (some 27) none (.pick (.t 24) (.t 26) (.k (AV.bool false)))]) (.cond (.t 27) (.region [.op (some 6) none (.mv (.k (AV.str ([10] : List UInt8))))]) (.skip))) (.seq (.seq (.region [.op (some 28) none (.faddr (.t 2) 1), .op (some 29) none (.load (.t 28) none (.bool)), .op (some 30) none (.un .not (.t 29)), .op (some 31) none (.mv (.t 30)), .split 31, .op (some 32) (some (31, true)) (.faddr (.t 2) 2), .op (some 33) (some (31, true)) (.load (.t 32) none (.bool)), .op (some 34) none (.pick (.t 31) (.t 33) (.k (AV.bool false)))]) (.cond (.t 34) (.region [.op (some 35) none (.mv (.t 6)), .op (some 36) none (.mv (.t 1)), .op (some 37) none (.len (.t 36) false), .op (some 38) none (.mv (.t 5)), .op (some 39) none (.bin .sub (.t 37) (.t 38)), .op (some 40) none (.call id_stringsRepeat [.k (AV.str ([10] : List UInt8)), .t 39] (.str)), .op (some 41) none (.bin .add (.t 35) (.t 40)), .op (some 6) none (.mv (.t 41))]) (.skip))) (.seq (.seq (.region [.op (some 42) none (.faddr (.t 2) 0), .op (some 43) none (.load (.t 42) none (.bool))]) (.cond (.t 43) (.seq (.region [.op (some 44) none (.mv (.t 1)), .op (some 45) none (.mv (.t 5)), .op (some 46) none (.slice (.t 44) none (some (.t 45)) 1), .op (some 47) none (.call id_foldFolded [.t 46] (.str)), .op (some 48) none (.mv (.t 6)), .op (some 49) none (.bin .add (.t 47) (.t 48)), .op (some 4) none (.mv (.t 49))]) (.ret [4] [])) (.skip))) (.seq (.region [.op (some 50) none (.mv (.t 1)), .op (some 51) none (.mv (.t 5)), .op (some 52) none (.slice (.t 50) none (some (.t 51)) 1), .op (some 53) none (.call id_stringsJoin [.t 52, .k (AV.str ([10] : List UInt8))] (.str)), .op (some 54) none (.mv (.t 6)), .op (some 55) none (.bin .add (.t 53) (.t 54)), .op (some 4) none (.mv (.t 55))]) (.ret [4] [])))))
def foldValue_c2 : AC := .seq (.region [.op (some 2) none (.box 1002 (.t 0) 4), .op (some 4) none (.mv (.k (AV.str ([] : List UInt8))))]) (.seq (.region [.op (some 7) none (.mv (.t 1)), .op (some 8) none (.len (.t 7) false), .op (some 5) none (.mv (.t 8))]) (.seq (.block 0 (.loop [1, 2, 5] [1002] (foldValue_c0))) (foldValue_c1)))
def foldValue : AFunc := ⟨2, 56, [.tmp 4], foldValue_c2⟩
def foldValuer (R : Nat → List AV → Option Res) (N : Nat) (b1 : Bool) (b2 : Bool) (b3 : Bool) (i1 : Int) (l1 : List AV) : Option Res :=
  foldValue_L1 R N
    (fun l5 i8 b13 b14 b15 i9 =>
      bif !b14 then
        (bif decide ((i8 : Int) > 0) then
          (bif !b14 then
            (bif b15 then
              ((R id_stringsRepeat [AV.str ([10] : List UInt8), AV.int .i64 (IntKind.i64.wrap (((l5.length : Nat) : Int) - i8))]).bind fun r1 =>
              asS r1.v fun s2 =>
              need (decide ((([10] : List UInt8) : List UInt8).length + s2.length ≤ 9223372036854775807)) <|
              bif b13 then
                (need (decide (0 ≤ (i8 : Int)) && decide ((i8 : Int) ≤ ((l5.length : Nat) : Int))) <|
                (R id_foldFolded [AV.row 1 ((l5.take (Int.toNat i8)).drop 0)]).bind fun r2 =>
                asS r2.v fun s3 =>
                need (decide (s3.length + (([10] : List UInt8) ++ s2 : List UInt8).length ≤ 9223372036854775807)) <|
                some ⟨AV.str (s3 ++ (([10] : List UInt8) ++ s2)), false, []⟩)
              else
                need (decide (0 ≤ (i8 : Int)) && decide ((i8 : Int) ≤ ((l5.length : Nat) : Int))) <|
                (R id_stringsJoin [AV.row 1 ((l5.take (Int.toNat i8)).drop 0), AV.str ([10] : List UInt8)]).bind fun r3 =>
                asS r3.v fun s4 =>
                need (decide (s4.length + (([10] : List UInt8) ++ s2 : List UInt8).length ≤ 9223372036854775807)) <|
                some ⟨AV.str (s4 ++ (([10] : List UInt8) ++ s2)), false, []⟩)
            else
              bif b13 then
                (need (decide (0 ≤ (i8 : Int)) && decide ((i8 : Int) ≤ ((l5.length : Nat) : Int))) <|
                (R id_foldFolded [AV.row 1 ((l5.take (Int.toNat i8)).drop 0)]).bind fun r4 =>
                asS r4.v fun s5 =>
                need (decide (s5.length + (([10] : List UInt8) : List UInt8).length ≤ 9223372036854775807)) <|
                some ⟨AV.str (s5 ++ ([10] : List UInt8)), false, []⟩)
              else
                need (decide (0 ≤ (i8 : Int)) && decide ((i8 : Int) ≤ ((l5.length : Nat) : Int))) <|
                (R id_stringsJoin [AV.row 1 ((l5.take (Int.toNat i8)).drop 0), AV.str ([10] : List UInt8)]).bind fun r5 =>
                asS r5.v fun s6 =>
                need (decide (s6.length + (([10] : List UInt8) : List UInt8).length ≤ 9223372036854775807)) <|
                some ⟨AV.str (s6 ++ ([10] : List UInt8)), false, []⟩)
          else
            bif b13 then
              (need (decide (0 ≤ (i8 : Int)) && decide ((i8 : Int) ≤ ((l5.length : Nat) : Int))) <|
              (R id_foldFolded [AV.row 1 ((l5.take (Int.toNat i8)).drop 0)]).bind fun r6 =>
              asS r6.v fun s7 =>
              need (decide (s7.length + (([10] : List UInt8) : List UInt8).length ≤ 9223372036854775807)) <|
              some ⟨AV.str (s7 ++ ([10] : List UInt8)), false, []⟩)
            else
              need (decide (0 ≤ (i8 : Int)) && decide ((i8 : Int) ≤ ((l5.length : Nat) : Int))) <|
              (R id_stringsJoin [AV.row 1 ((l5.take (Int.toNat i8)).drop 0), AV.str ([10] : List UInt8)]).bind fun r7 =>
              asS r7.v fun s8 =>
              need (decide (s8.length + (([10] : List UInt8) : List UInt8).length ≤ 9223372036854775807)) <|
              some ⟨AV.str (s8 ++ ([10] : List UInt8)), false, []⟩)
        else
          bif !b14 then
            (bif b15 then
              ((R id_stringsRepeat [AV.str ([10] : List UInt8), AV.int .i64 (IntKind.i64.wrap (((l5.length : Nat) : Int) - i8))]).bind fun r8 =>
              asS r8.v fun s9 =>
              need (decide ((([] : List UInt8) : List UInt8).length + s9.length ≤ 9223372036854775807)) <|
              bif b13 then
                (need (decide (0 ≤ (i8 : Int)) && decide ((i8 : Int) ≤ ((l5.length : Nat) : Int))) <|
                (R id_foldFolded [AV.row 1 ((l5.take (Int.toNat i8)).drop 0)]).bind fun r9 =>
                asS r9.v fun s10 =>
                need (decide (s10.length + (([] : List UInt8) ++ s9 : List UInt8).length ≤ 9223372036854775807)) <|
                some ⟨AV.str (s10 ++ (([] : List UInt8) ++ s9)), false, []⟩)
              else
                need (decide (0 ≤ (i8 : Int)) && decide ((i8 : Int) ≤ ((l5.length : Nat) : Int))) <|
                (R id_stringsJoin [AV.row 1 ((l5.take (Int.toNat i8)).drop 0), AV.str ([10] : List UInt8)]).bind fun r10 =>
                asS r10.v fun s11 =>
                need (decide (s11.length + (([] : List UInt8) ++ s9 : List UInt8).length ≤ 9223372036854775807)) <|
                some ⟨AV.str (s11 ++ (([] : List UInt8) ++ s9)), false, []⟩)
            else
              bif b13 then
                (need (decide (0 ≤ (i8 : Int)) && decide ((i8 : Int) ≤ ((l5.length : Nat) : Int))) <|
                (R id_foldFolded [AV.row 1 ((l5.take (Int.toNat i8)).drop 0)]).bind fun r11 =>
                asS r11.v fun s12 =>
                need (decide (s12.length + (([] : List UInt8) : List UInt8).length ≤ 9223372036854775807)) <|
                some ⟨AV.str (s12 ++ ([] : List UInt8)), false, []⟩)
              else
                need (decide (0 ≤ (i8 : Int)) && decide ((i8 : Int) ≤ ((l5.length : Nat) : Int))) <|
                (R id_stringsJoin [AV.row 1 ((l5.take (Int.toNat i8)).drop 0), AV.str ([10] : List UInt8)]).bind fun r12 =>
                asS r12.v fun s13 =>
                need (decide (s13.length + (([] : List UInt8) : List UInt8).length ≤ 9223372036854775807)) <|
                some ⟨AV.str (s13 ++ ([] : List UInt8)), false, []⟩)
          else
            bif b13 then
              (need (decide (0 ≤ (i8 : Int)) && decide ((i8 : Int) ≤ ((l5.length : Nat) : Int))) <|
              (R id_foldFolded [AV.row 1 ((l5.take (Int.toNat i8)).drop 0)]).bind fun r13 =>
              asS r13.v fun s14 =>
              need (decide (s14.length + (([] : List UInt8) : List UInt8).length ≤ 9223372036854775807)) <|
              some ⟨AV.str (s14 ++ ([] : List UInt8)), false, []⟩)
            else
              need (decide (0 ≤ (i8 : Int)) && decide ((i8 : Int) ≤ ((l5.length : Nat) : Int))) <|
              (R id_stringsJoin [AV.row 1 ((l5.take (Int.toNat i8)).drop 0), AV.str ([10] : List UInt8)]).bind fun r14 =>
              asS r14.v fun s15 =>
              need (decide (s15.length + (([] : List UInt8) : List UInt8).length ≤ 9223372036854775807)) <|
              some ⟨AV.str (s15 ++ ([] : List UInt8)), false, []⟩)
      else
        bif !b14 then
          (bif b15 then
            ((R id_stringsRepeat [AV.str ([10] : List UInt8), AV.int .i64 (IntKind.i64.wrap (((l5.length : Nat) : Int) - i8))]).bind fun r15 =>
            asS r15.v fun s16 =>
            need (decide ((([] : List UInt8) : List UInt8).length + s16.length ≤ 9223372036854775807)) <|
            bif b13 then
              (need (decide (0 ≤ (i8 : Int)) && decide ((i8 : Int) ≤ ((l5.length : Nat) : Int))) <|
              (R id_foldFolded [AV.row 1 ((l5.take (Int.toNat i8)).drop 0)]).bind fun r16 =>
              asS r16.v fun s17 =>
              need (decide (s17.length + (([] : List UInt8) ++ s16 : List UInt8).length ≤ 9223372036854775807)) <|
              some ⟨AV.str (s17 ++ (([] : List UInt8) ++ s16)), false, []⟩)
            else
              need (decide (0 ≤ (i8 : Int)) && decide ((i8 : Int) ≤ ((l5.length : Nat) : Int))) <|
              (R id_stringsJoin [AV.row 1 ((l5.take (Int.toNat i8)).drop 0), AV.str ([10] : List UInt8)]).bind fun r17 =>
              asS r17.v fun s18 =>
              need (decide (s18.length + (([] : List UInt8) ++ s16 : List UInt8).length ≤ 9223372036854775807)) <|
              some ⟨AV.str (s18 ++ (([] : List UInt8) ++ s16)), false, []⟩)
          else
            bif b13 then
              (need (decide (0 ≤ (i8 : Int)) && decide ((i8 : Int) ≤ ((l5.length : Nat) : Int))) <|
              (R id_foldFolded [AV.row 1 ((l5.take (Int.toNat i8)).drop 0)]).bind fun r18 =>
              asS r18.v fun s19 =>
              need (decide (s19.length + (([] : List UInt8) : List UInt8).length ≤ 9223372036854775807)) <|
              some ⟨AV.str (s19 ++ ([] : List UInt8)), false, []⟩)
            else
              need (decide (0 ≤ (i8 : Int)) && decide ((i8 : Int) ≤ ((l5.length : Nat) : Int))) <|
              (R id_stringsJoin [AV.row 1 ((l5.take (Int.toNat i8)).drop 0), AV.str ([10] : List UInt8)]).bind fun r19 =>
              asS r19.v fun s20 =>
              need (decide (s20.length + (([] : List UInt8) : List UInt8).length ≤ 9223372036854775807)) <|
              some ⟨AV.str (s20 ++ ([] : List UInt8)), false, []⟩)
        else
          bif b13 then
            (need (decide (0 ≤ (i8 : Int)) && decide ((i8 : Int) ≤ ((l5.length : Nat) : Int))) <|
            (R id_foldFolded [AV.row 1 ((l5.take (Int.toNat i8)).drop 0)]).bind fun r20 =>
            asS r20.v fun s21 =>
            need (decide (s21.length + (([] : List UInt8) : List UInt8).length ≤ 9223372036854775807)) <|
            some ⟨AV.str (s21 ++ ([] : List UInt8)), false, []⟩)
          else
            need (decide (0 ≤ (i8 : Int)) && decide ((i8 : Int) ≤ ((l5.length : Nat) : Int))) <|
            (R id_stringsJoin [AV.row 1 ((l5.take (Int.toNat i8)).drop 0), AV.str ([10] : List UInt8)]).bind fun r21 =>
            asS r21.v fun s22 =>
            need (decide (s22.length + (([] : List UInt8) : List UInt8).length ≤ 9223372036854775807)) <|
            some ⟨AV.str (s22 ++ ([] : List UInt8)), false, []⟩)
    N l1 ((l1.length : Nat) : Int) b1 b2 b3 i1
theorem foldValue_eq (R : Nat → List AV → Option Res) (N : Nat) (b1 : Bool) (b2 : Bool) (b3 : Bool) (i1 : Int) (l1 : List AV) : runF gl R N foldValue [AV.agg [AV.bool b1, AV.bool b2, AV.bool b3, AV.int .i64 i1], AV.row 1 l1] = foldValuer R N b1 b2 b3 i1 l1 := by
  refine Eq.trans (b :=
      rounds [1, 2, 5] [1002] (evC gl R N foldValue_c0) (Kblock 0 (Kthen gl R N foldValue_c1 (Kret foldValue.rets))) N ⟨[(1, .imm (AV.row 1 l1)), (2, .ptr 1002 0 0), (5, .imm (AV.int .i64 ((l1.length : Nat) : Int)))], [(1002, .box [.imm (AV.bool b1), .imm (AV.bool b2), .imm (AV.bool b3), .imm (AV.int .i64 i1)])]⟩) (by kernel_rfl) ?_
  simp (config := { maxSteps := 100000000 }) only [foldValue_L1_eq]
  kernel_rfl
theorem foldValue_fit : fitF Tryd.prog foldValue Tryd.f15 = true := by
  kernel_rfl

def law07Wakes_c0 : AC := .seq (.region [.op (some 0) none (.mv (.k (AV.bool false)))]) (.seq (.region [.op (some 1) none (.build [AV.bool false, AV.bool false, AV.bool false, AV.int .i64 0] [(0, 1, .k (AV.bool true))]), .op (some 2) none (.bslice [.k (AV.str ([97] : List UInt8)), .k (AV.str ([98] : List UInt8))] 1 false), .op (some 3) none (.call id_foldValue [.t 1, .t 2] (.str)), .op (some 4) none (.bin .eql (.t 3) (.k (AV.str ([97, 32, 98, 10] : List UInt8)))), .op (some 0) none (.mv (.t 4))]) (.ret [0] []))
def law07Wakes : AFunc := ⟨0, 5, [.tmp 0], law07Wakes_c0⟩
def law07Wakesr (R : Nat → List AV → Option Res) (N : Nat) : Option Res :=
  (R id_foldValue [AV.agg [AV.bool true, AV.bool false, AV.bool false, AV.int .i64 0], AV.row 1 [AV.str ([97] : List UInt8), AV.str ([98] : List UInt8)]]).bind fun r1 =>
  asS r1.v fun s1 =>
  some ⟨AV.bool (s1 == ([97, 32, 98, 10] : List UInt8)), false, []⟩
theorem law07Wakes_eq (R : Nat → List AV → Option Res) (N : Nat) : runF gl R N law07Wakes [] = law07Wakesr R N := by
  kernel_rfl
theorem law07Wakes_fit : fitF Tryd.prog law07Wakes Tryd.f8 = true := by
  kernel_rfl

def foldBodyRow_c0 : AC := .seq (.region [.op (some 2) none (.box 1002 (.t 0) 2), .op (some 4) none (.mv (.k (AV.str ([] : List UInt8))))]) (.seq (.regionD [4] [] [.op (some 5) none (.faddr (.t 2) 0), .op (some 6) none (.load (.t 5) none (.bytes)), .op (some 7) none (.faddr (.t 2) 1), .op (some 8) none (.load (.t 7) none (.row 3)), .op (some 9) none (.mv (.t 1)), .op (some 10) none (.iaddr (.t 8) (.t 9) 3 (.agg [.int .i64, .int .i64, .int .i64])), .op (some 11) none (.faddr (.t 10) 0), .op (some 12) none (.load (.t 11) none (.int .i64)), .op (some 13) none (.faddr (.t 2) 1), .op (some 14) none (.load (.t 13) none (.row 3)), .op (some 15) none (.mv (.t 1)), .op (some 16) none (.iaddr (.t 14) (.t 15) 3 (.agg [.int .i64, .int .i64, .int .i64])), .op (some 17) none (.faddr (.t 16) 1), .op (some 18) none (.load (.t 17) none (.int .i64)), .op (some 19) none (.slice (.t 6) (some (.t 12)) (some (.t 18)) 1), .op (some 20) none (.cvStr (.t 19)), .op (some 4) none (.mv (.t 20))] []) (.ret [4] []))
def foldBodyRow : AFunc := ⟨2, 21, [.tmp 4], foldBodyRow_c0⟩
def foldBodyRowr (R : Nat → List AV → Option Res) (N : Nat) (s1 : List UInt8) (l1 : List AV) (i1 : Int) : Option Res :=
  need (decide (0 ≤ (i1 : Int))) <|
  (l1[Int.toNat i1]?).bind fun e1 =>
  asIIIA e1 fun i2 i3 i4 =>
  need (decide (0 ≤ (i1 : Int))) <|
  (l1[Int.toNat i1]?).bind fun e2 =>
  asIIIA e2 fun i5 i6 i7 =>
  need (decide (0 ≤ (i6 : Int)) && decide ((i6 : Int) ≤ ((s1.length : Nat) : Int))) <|
  need (decide (0 ≤ (i2 : Int)) && decide ((i2 : Int) ≤ ((Int.toNat i6 : Nat) : Int))) <|
  some ⟨AV.str ((s1.take (Int.toNat i6)).drop (Int.toNat i2)), false, []⟩
theorem foldBodyRow_eq (R : Nat → List AV → Option Res) (N : Nat) (s1 : List UInt8) (l1 : List AV) (i1 : Int) : runF gl R N foldBodyRow [AV.agg [AV.bytes s1, AV.row 3 l1], AV.int .i64 i1] = foldBodyRowr R N s1 l1 i1 := by
  kernel_rfl
theorem foldBodyRow_fit : fitF Tryd.prog foldBodyRow Tryd.f17 = true := by
  kernel_rfl

def linesText_c0 : AC := .seq (.region [.op (some 3) none (.box 1003 (.t 1) 3), .op (some 4) none (.mv (.k (AV.bytes [])))]) (.seq (.region [.op (some 7) none (.faddr (.t 3) 1), .op (some 8) none (.load (.t 7) none (.int .i64)), .op (some 9) none (.mv (.t 0)), .op (some 10) none (.len (.t 9) false), .op (some 11) none (.mn [.t 8, .t 10]), .op (some 5) none (.mv (.t 11))]) (.seq (.region [.op (some 12) none (.faddr (.t 3) 0), .op (some 13) none (.load (.t 12) none (.int .i64)), .op (some 14) none (.mx [.k (AV.int .i64 0), .t 13]), .op (some 15) none (.mv (.t 5)), .op (some 16) none (.mx [.k (AV.int .i64 0), .t 15]), .op (some 17) none (.mn [.t 14, .t 16]), .op (some 6) none (.mv (.t 17))]) (.seq (.region [.op (some 18) none (.mv (.t 0)), .op (some 19) none (.mv (.t 6)), .op (some 20) none (.mv (.t 6)), .op (some 21) none (.mv (.t 5)), .op (some 22) none (.mx [.t 20, .t 21]), .op (some 23) none (.slice (.t 18) (some (.t 19)) (some (.t 22)) 1), .op (some 4) none (.mv (.t 23))]) (.ret [4] []))))
def linesText : AFunc := ⟨2, 24, [.tmp 4], linesText_c0⟩
def linesTextr (R : Nat → List AV → Option Res) (N : Nat) (s1 : List UInt8) (i1 : Int) (i2 : Int) (i3 : Int) : Option Res :=
  need (decide (0 ≤ (if (if ((s1.length : Nat) : Int) < i2 then ((s1.length : Nat) : Int) else i2) > (if (if (if ((s1.length : Nat) : Int) < i2 then ((s1.length : Nat) : Int) else i2) > 0 then (if ((s1.length : Nat) : Int) < i2 then ((s1.length : Nat) : Int) else i2) else 0) < (if i1 > 0 then i1 else 0) then (if (if ((s1.length : Nat) : Int) < i2 then ((s1.length : Nat) : Int) else i2) > 0 then (if ((s1.length : Nat) : Int) < i2 then ((s1.length : Nat) : Int) else i2) else 0) else (if i1 > 0 then i1 else 0)) then (if ((s1.length : Nat) : Int) < i2 then ((s1.length : Nat) : Int) else i2) else (if (if (if ((s1.length : Nat) : Int) < i2 then ((s1.length : Nat) : Int) else i2) > 0 then (if ((s1.length : Nat) : Int) < i2 then ((s1.length : Nat) : Int) else i2) else 0) < (if i1 > 0 then i1 else 0) then (if (if ((s1.length : Nat) : Int) < i2 then ((s1.length : Nat) : Int) else i2) > 0 then (if ((s1.length : Nat) : Int) < i2 then ((s1.length : Nat) : Int) else i2) else 0) else (if i1 > 0 then i1 else 0)) : Int)) && decide ((if (if ((s1.length : Nat) : Int) < i2 then ((s1.length : Nat) : Int) else i2) > (if (if (if ((s1.length : Nat) : Int) < i2 then ((s1.length : Nat) : Int) else i2) > 0 then (if ((s1.length : Nat) : Int) < i2 then ((s1.length : Nat) : Int) else i2) else 0) < (if i1 > 0 then i1 else 0) then (if (if ((s1.length : Nat) : Int) < i2 then ((s1.length : Nat) : Int) else i2) > 0 then (if ((s1.length : Nat) : Int) < i2 then ((s1.length : Nat) : Int) else i2) else 0) else (if i1 > 0 then i1 else 0)) then (if ((s1.length : Nat) : Int) < i2 then ((s1.length : Nat) : Int) else i2) else (if (if (if ((s1.length : Nat) : Int) < i2 then ((s1.length : Nat) : Int) else i2) > 0 then (if ((s1.length : Nat) : Int) < i2 then ((s1.length : Nat) : Int) else i2) else 0) < (if i1 > 0 then i1 else 0) then (if (if ((s1.length : Nat) : Int) < i2 then ((s1.length : Nat) : Int) else i2) > 0 then (if ((s1.length : Nat) : Int) < i2 then ((s1.length : Nat) : Int) else i2) else 0) else (if i1 > 0 then i1 else 0)) : Int) ≤ ((s1.length : Nat) : Int))) <|
  need (decide (0 ≤ (if (if (if ((s1.length : Nat) : Int) < i2 then ((s1.length : Nat) : Int) else i2) > 0 then (if ((s1.length : Nat) : Int) < i2 then ((s1.length : Nat) : Int) else i2) else 0) < (if i1 > 0 then i1 else 0) then (if (if ((s1.length : Nat) : Int) < i2 then ((s1.length : Nat) : Int) else i2) > 0 then (if ((s1.length : Nat) : Int) < i2 then ((s1.length : Nat) : Int) else i2) else 0) else (if i1 > 0 then i1 else 0) : Int)) && decide ((if (if (if ((s1.length : Nat) : Int) < i2 then ((s1.length : Nat) : Int) else i2) > 0 then (if ((s1.length : Nat) : Int) < i2 then ((s1.length : Nat) : Int) else i2) else 0) < (if i1 > 0 then i1 else 0) then (if (if ((s1.length : Nat) : Int) < i2 then ((s1.length : Nat) : Int) else i2) > 0 then (if ((s1.length : Nat) : Int) < i2 then ((s1.length : Nat) : Int) else i2) else 0) else (if i1 > 0 then i1 else 0) : Int) ≤ ((Int.toNat (if (if ((s1.length : Nat) : Int) < i2 then ((s1.length : Nat) : Int) else i2) > (if (if (if ((s1.length : Nat) : Int) < i2 then ((s1.length : Nat) : Int) else i2) > 0 then (if ((s1.length : Nat) : Int) < i2 then ((s1.length : Nat) : Int) else i2) else 0) < (if i1 > 0 then i1 else 0) then (if (if ((s1.length : Nat) : Int) < i2 then ((s1.length : Nat) : Int) else i2) > 0 then (if ((s1.length : Nat) : Int) < i2 then ((s1.length : Nat) : Int) else i2) else 0) else (if i1 > 0 then i1 else 0)) then (if ((s1.length : Nat) : Int) < i2 then ((s1.length : Nat) : Int) else i2) else (if (if (if ((s1.length : Nat) : Int) < i2 then ((s1.length : Nat) : Int) else i2) > 0 then (if ((s1.length : Nat) : Int) < i2 then ((s1.length : Nat) : Int) else i2) else 0) < (if i1 > 0 then i1 else 0) then (if (if ((s1.length : Nat) : Int) < i2 then ((s1.length : Nat) : Int) else i2) > 0 then (if ((s1.length : Nat) : Int) < i2 then ((s1.length : Nat) : Int) else i2) else 0) else (if i1 > 0 then i1 else 0))) : Nat) : Int))) <|
  some ⟨AV.bytes ((s1.take (Int.toNat (if (if ((s1.length : Nat) : Int) < i2 then ((s1.length : Nat) : Int) else i2) > (if (if (if ((s1.length : Nat) : Int) < i2 then ((s1.length : Nat) : Int) else i2) > 0 then (if ((s1.length : Nat) : Int) < i2 then ((s1.length : Nat) : Int) else i2) else 0) < (if i1 > 0 then i1 else 0) then (if (if ((s1.length : Nat) : Int) < i2 then ((s1.length : Nat) : Int) else i2) > 0 then (if ((s1.length : Nat) : Int) < i2 then ((s1.length : Nat) : Int) else i2) else 0) else (if i1 > 0 then i1 else 0)) then (if ((s1.length : Nat) : Int) < i2 then ((s1.length : Nat) : Int) else i2) else (if (if (if ((s1.length : Nat) : Int) < i2 then ((s1.length : Nat) : Int) else i2) > 0 then (if ((s1.length : Nat) : Int) < i2 then ((s1.length : Nat) : Int) else i2) else 0) < (if i1 > 0 then i1 else 0) then (if (if ((s1.length : Nat) : Int) < i2 then ((s1.length : Nat) : Int) else i2) > 0 then (if ((s1.length : Nat) : Int) < i2 then ((s1.length : Nat) : Int) else i2) else 0) else (if i1 > 0 then i1 else 0))))).drop (Int.toNat (if (if (if ((s1.length : Nat) : Int) < i2 then ((s1.length : Nat) : Int) else i2) > 0 then (if ((s1.length : Nat) : Int) < i2 then ((s1.length : Nat) : Int) else i2) else 0) < (if i1 > 0 then i1 else 0) then (if (if ((s1.length : Nat) : Int) < i2 then ((s1.length : Nat) : Int) else i2) > 0 then (if ((s1.length : Nat) : Int) < i2 then ((s1.length : Nat) : Int) else i2) else 0) else (if i1 > 0 then i1 else 0)))), false, []⟩
theorem linesText_eq (R : Nat → List AV → Option Res) (N : Nat) (s1 : List UInt8) (i1 : Int) (i2 : Int) (i3 : Int) : runF gl R N linesText [AV.bytes s1, AV.agg [AV.int .i64 i1, AV.int .i64 i2, AV.int .i64 i3]] = linesTextr R N s1 i1 i2 i3 := by
  kernel_rfl
theorem linesText_fit : fitF Tryd.prog linesText Tryd.f32 = true := by
  kernel_rfl

def bytesTrimLeftByte_L1s (R : Nat → List AV → Option Res) (N : Nat) (go : List UInt8 → Int → Option Res) (k0 : List UInt8 → Option Res) (s2 : List UInt8) (i2 : Int) : Option Res :=
  bif decide ((((s2.length : Nat) : Int) : Int) > 0) then
    (need (decide (0 ≤ (0 : Int))) <|
    (s2[Int.toNat 0]?).bind fun c1 =>
    bif ((c1.toNat : Int) : Int) == i2 then
      (need (decide (0 ≤ (1 : Int)) && decide ((1 : Int) ≤ ((s2.length : Nat) : Int))) <|
      go ((s2.take s2.length).drop (Int.toNat 1)) i2)
    else
      k0 s2)
  else
    k0 s2
def bytesTrimLeftByte_L1 (R : Nat → List AV → Option Res) (N : Nat) (k0 : List UInt8 → Option Res) : Nat → List UInt8 → Int → Option Res
  | 0, _, _ => none
  | n + 1, s2, i2 => bytesTrimLeftByte_L1s R N (bytesTrimLeftByte_L1 R N k0 n) k0 s2 i2
def bytesTrimLeftByte_c0 : AC := .seq (.seq (.region [.op (some 5) none (.mv (.t 0)), .op (some 6) none (.len (.t 5) false), .op (some 7) none (.bin .gtr (.t 6) (.k (AV.int .i64 0))), .op (some 8) none (.mv (.t 7)), .split 8, .op (some 9) (some (8, true)) (.mv (.t 0)), .op (some 10) (some (8, true)) (.iaddr (.t 9) (.k (AV.int .i64 0)) 1 (.int .u8)), .op (some 11) (some (8, true)) (.load (.t 10) none (.int .u8)), .op (some 12) (some (8, true)) (.mv (.t 1)), .op (some 13) (some (8, true)) (.bin .eql (.t 11) (.t 12)), .op (some 14) none (.pick (.t 8) (.t 13) (.k (AV.bool false)))]) (.cond (.t 14) (.skip) (.exit 0 [0] []))) (.block 1 (.region [.op (some 15) none (.mv (.t 0)), .op (some 16) none (.slice (.t 15) (some (.k (AV.int .i64 1))) none 1), .op (some 0) none (.mv (.t 16))]))
theorem bytesTrimLeftByte_L1s_eq (R : Nat → List AV → Option Res) (N : Nat) (K : Ex → St → Option Res) (W : St → Option Res) (s2 : List UInt8) (i2 : Int) :
    evC gl R N bytesTrimLeftByte_c0 (Kseq (fun st' => W (prune [0, 1] [] st')) K) ⟨[(0, .imm (AV.bytes s2)), (1, .imm (AV.int .u8 i2))], []⟩ =
    bytesTrimLeftByte_L1s R N (fun (s2 : List UInt8) (i2 : Int) => W ⟨[(0, .imm (AV.bytes s2)), (1, .imm (AV.int .u8 i2))], []⟩) (fun (s3 : List UInt8) => K (.exit 0) ⟨[(0, .imm (AV.bytes s3))], []⟩) s2 i2 := by
  kernel_rfl
theorem bytesTrimLeftByte_L1_eq (R : Nat → List AV → Option Res) (N : Nat) (K : Ex → St → Option Res) : ∀ (n : Nat) (s2 : List UInt8) (i2 : Int),
    rounds [0, 1] [] (evC gl R N bytesTrimLeftByte_c0) K n ⟨[(0, .imm (AV.bytes s2)), (1, .imm (AV.int .u8 i2))], []⟩ = bytesTrimLeftByte_L1 R N (fun (s3 : List UInt8) => K (.exit 0) ⟨[(0, .imm (AV.bytes s3))], []⟩) n s2 i2
  | 0, _, _ => rfl
  | n + 1, s2, i2 => (bytesTrimLeftByte_L1s_eq R N K (rounds [0, 1] [] (evC gl R N bytesTrimLeftByte_c0) K n) s2 i2).trans
      (congrArg (fun go => bytesTrimLeftByte_L1s R N go (fun (s3 : List UInt8) => K (.exit 0) ⟨[(0, .imm (AV.bytes s3))], []⟩) s2 i2) (funext fun s2 => funext fun i2 => bytesTrimLeftByte_L1_eq R N K n s2 i2))
def bytesTrimLeftByte_c1 : AC := .seq (.seq (.region [.op (some 17) none (.mv (.t 0)), .op (some 18) none (.len (.t 17) false), .op (some 19) none (.bin .eql (.t 18) (.k (AV.int .i64 0)))]) (.cond (.t 19) (.seq (.region [.op (some 4) none (.mv (.k (AV.bytes [])))]) (.ret [4] [])) (.skip))) (.seq (.region [.op (some 20) none (.mv (.t 0)), .op (some 4) none (.mv (.t 20))]) (.ret [4] []))
def bytesTrimLeftByte_c2 : AC := .seq (.region [.op (some 4) none (.mv (.k (AV.bytes [])))]) (.seq (.block 0 (.loop [0, 1] [] (bytesTrimLeftByte_c0))) (bytesTrimLeftByte_c1))
def bytesTrimLeftByte : AFunc := ⟨2, 21, [.tmp 4], bytesTrimLeftByte_c2⟩
def bytesTrimLeftByter (R : Nat → List AV → Option Res) (N : Nat) (s1 : List UInt8) (i1 : Int) : Option Res :=
  bytesTrimLeftByte_L1 R N
    (fun s5 =>
      bif (((s5.length : Nat) : Int) : Int) == 0 then
        (some ⟨AV.bytes [], false, []⟩)
      else
        some ⟨AV.bytes s5, false, []⟩)
    N s1 i1
theorem bytesTrimLeftByte_eq (R : Nat → List AV → Option Res) (N : Nat) (s1 : List UInt8) (i1 : Int) : runF gl R N bytesTrimLeftByte [AV.bytes s1, AV.int .u8 i1] = bytesTrimLeftByter R N s1 i1 := by
  refine Eq.trans (b :=
      rounds [0, 1] [] (evC gl R N bytesTrimLeftByte_c0) (Kblock 0 (Kthen gl R N bytesTrimLeftByte_c1 (Kret bytesTrimLeftByte.rets))) N ⟨[(0, .imm (AV.bytes s1)), (1, .imm (AV.int .u8 i1))], []⟩) (by kernel_rfl) ?_
  simp (config := { maxSteps := 100000000 }) only [bytesTrimLeftByte_L1_eq]
  kernel_rfl
theorem bytesTrimLeftByte_fit : fitF Tryd.prog bytesTrimLeftByte Tryd.f42 = true := by
  kernel_rfl

def bytesMakeASCIISet : AFunc := ⟨1, 21, [.cell 2 256, .tmp 3], .stuck⟩
def bytesMakeASCIISetr (R : Nat → List AV → Option Res) (N : Nat) (s1 : List UInt8) : Option Res :=
  none
theorem bytesMakeASCIISet_eq (R : Nat → List AV → Option Res) (N : Nat) (s1 : List UInt8) : runF gl R N bytesMakeASCIISet [AV.str s1] = bytesMakeASCIISetr R N s1 := by
  kernel_rfl
theorem bytesMakeASCIISet_fit : fitF Tryd.prog bytesMakeASCIISet Tryd.f43 = true := by
  kernel_rfl

def bytesAsciiSetContains_c1 : AC := .seq (.region [.op (some 4) none (.mv (.k (AV.bool false)))]) (.stuck)
def bytesAsciiSetContains : AFunc := ⟨2, 10, [.tmp 4], bytesAsciiSetContains_c1⟩
def bytesAsciiSetContainsr (R : Nat → List AV → Option Res) (N : Nat) (v1 : AV) (i1 : Int) : Option Res :=
  none
theorem bytesAsciiSetContains_eq (R : Nat → List AV → Option Res) (N : Nat) (v1 : AV) (i1 : Int) : runF gl R N bytesAsciiSetContains [v1, AV.int .u8 i1] = bytesAsciiSetContainsr R N v1 i1 := by
  kernel_rfl
theorem bytesAsciiSetContains_fit : fitF Tryd.prog bytesAsciiSetContains Tryd.f52 = true := by
  kernel_rfl

def bytesTrimLeftASCII_L1s (R : Nat → List AV → Option Res) (N : Nat) (go : List UInt8 → AV → Option Res) (k0 : List UInt8 → Option Res) (s2 : List UInt8) (v2 : AV) : Option Res :=
  bif decide ((((s2.length : Nat) : Int) : Int) > 0) then
    (need (decide (0 ≤ (0 : Int))) <|
    (s2[Int.toNat 0]?).bind fun c1 =>
    (R id_bytesAsciiSetContains [v2, AV.int .u8 (c1.toNat : Int)]).bind fun r1 =>
    asB r1.v fun b1 =>
    bif !b1 then
      (k0 s2)
    else
      need (decide (0 ≤ (1 : Int)) && decide ((1 : Int) ≤ ((s2.length : Nat) : Int))) <|
      go ((s2.take s2.length).drop (Int.toNat 1)) v2)
  else
    k0 s2
def bytesTrimLeftASCII_L1 (R : Nat → List AV → Option Res) (N : Nat) (k0 : List UInt8 → Option Res) : Nat → List UInt8 → AV → Option Res
  | 0, _, _ => none
  | n + 1, s2, v2 => bytesTrimLeftASCII_L1s R N (bytesTrimLeftASCII_L1 R N k0 n) k0 s2 v2
def bytesTrimLeftASCII_c0 : AC := .seq (.seq (.region [.op (some 5) none (.mv (.t 0)), .op (some 6) none (.len (.t 5) false), .op (some 7) none (.bin .gtr (.t 6) (.k (AV.int .i64 0)))]) (.cond (.t 7) (.skip) (.exit 0 [0] []))) (.block 1 (.seq (.seq (.region [.op (some 8) none (.mv (.t 1)), .op (some 9) none (.mv (.t 0)), .op (some 10) none (.iaddr (.t 9) (.k (AV.int .i64 0)) 1 (.int .u8)), .op (some 11) none (.load (.t 10) none (.int .u8)), .op (some 12) none (.call id_bytesAsciiSetContains [.t 8, .t 11] (.bool)), .op (some 13) none (.un .not (.t 12))]) (.cond (.t 13) (.exit 0 [0] []) (.skip))) (.region [.op (some 14) none (.mv (.t 0)), .op (some 15) none (.slice (.t 14) (some (.k (AV.int .i64 1))) none 1), .op (some 0) none (.mv (.t 15))])))
theorem bytesTrimLeftASCII_L1s_eq (R : Nat → List AV → Option Res) (N : Nat) (K : Ex → St → Option Res) (W : St → Option Res) (s2 : List UInt8) (v2 : AV) :
    evC gl R N bytesTrimLeftASCII_c0 (Kseq (fun st' => W (prune [0, 1] [] st')) K) ⟨[(0, .imm (AV.bytes s2)), (1, .imm v2)], []⟩ =
    bytesTrimLeftASCII_L1s R N (fun (s2 : List UInt8) (v2 : AV) => W ⟨[(0, .imm (AV.bytes s2)), (1, .imm v2)], []⟩) (fun (s3 : List UInt8) => K (.exit 0) ⟨[(0, .imm (AV.bytes s3))], []⟩) s2 v2 := by
  kernel_rfl
theorem bytesTrimLeftASCII_L1_eq (R : Nat → List AV → Option Res) (N : Nat) (K : Ex → St → Option Res) : ∀ (n : Nat) (s2 : List UInt8) (v2 : AV),
    rounds [0, 1] [] (evC gl R N bytesTrimLeftASCII_c0) K n ⟨[(0, .imm (AV.bytes s2)), (1, .imm v2)], []⟩ = bytesTrimLeftASCII_L1 R N (fun (s3 : List UInt8) => K (.exit 0) ⟨[(0, .imm (AV.bytes s3))], []⟩) n s2 v2
  | 0, _, _ => rfl
  | n + 1, s2, v2 => (bytesTrimLeftASCII_L1s_eq R N K (rounds [0, 1] [] (evC gl R N bytesTrimLeftASCII_c0) K n) s2 v2).trans
      (congrArg (fun go => bytesTrimLeftASCII_L1s R N go (fun (s3 : List UInt8) => K (.exit 0) ⟨[(0, .imm (AV.bytes s3))], []⟩) s2 v2) (funext fun s2 => funext fun v2 => bytesTrimLeftASCII_L1_eq R N K n s2 v2))
def bytesTrimLeftASCII_c1 : AC := .seq (.seq (.region [.op (some 16) none (.mv (.t 0)), .op (some 17) none (.len (.t 16) false), .op (some 18) none (.bin .eql (.t 17) (.k (AV.int .i64 0)))]) (.cond (.t 18) (.seq (.region [.op (some 4) none (.mv (.k (AV.bytes [])))]) (.ret [4] [])) (.skip))) (.seq (.region [.op (some 19) none (.mv (.t 0)), .op (some 4) none (.mv (.t 19))]) (.ret [4] []))
def bytesTrimLeftASCII_c2 : AC := .seq (.region [.op (some 4) none (.mv (.k (AV.bytes [])))]) (.seq (.block 0 (.loop [0, 1] [] (bytesTrimLeftASCII_c0))) (bytesTrimLeftASCII_c1))
def bytesTrimLeftASCII : AFunc := ⟨2, 20, [.tmp 4], bytesTrimLeftASCII_c2⟩
def bytesTrimLeftASCIIr (R : Nat → List AV → Option Res) (N : Nat) (s1 : List UInt8) (v1 : AV) : Option Res :=
  bytesTrimLeftASCII_L1 R N
    (fun s5 =>
      bif (((s5.length : Nat) : Int) : Int) == 0 then
        (some ⟨AV.bytes [], false, []⟩)
      else
        some ⟨AV.bytes s5, false, []⟩)
    N s1 v1
theorem bytesTrimLeftASCII_eq (R : Nat → List AV → Option Res) (N : Nat) (s1 : List UInt8) (v1 : AV) : runF gl R N bytesTrimLeftASCII [AV.bytes s1, v1] = bytesTrimLeftASCIIr R N s1 v1 := by
  refine Eq.trans (b :=
      rounds [0, 1] [] (evC gl R N bytesTrimLeftASCII_c0) (Kblock 0 (Kthen gl R N bytesTrimLeftASCII_c1 (Kret bytesTrimLeftASCII.rets))) N ⟨[(0, .imm (AV.bytes s1)), (1, .imm v1)], []⟩) (by kernel_rfl) ?_
  simp (config := { maxSteps := 100000000 }) only [bytesTrimLeftASCII_L1_eq]
  kernel_rfl
theorem bytesTrimLeftASCII_fit : fitF Tryd.prog bytesTrimLeftASCII Tryd.f44 = true := by
  kernel_rfl

def unicodeUtf8DecodeRuneSlow_c1 : AC := .seq (.region [.op (some 2) none (.mv (.k (AV.int .i32 0))), .op (some 3) none (.mv (.k (AV.int .i64 0)))]) (.seq (.region [.op (some 13) none (.mv (.t 0)), .op (some 14) none (.len (.t 13) false), .op (some 4) none (.mv (.t 14))]) (.seq (.seq (.region [.op (some 15) none (.mv (.t 4)), .op (some 16) none (.bin .lss (.t 15) (.k (AV.int .i64 1)))]) (.cond (.t 16) (.seq (.region [.op (some 2) none (.mv (.k (AV.int .i32 65533))), .op (some 3) none (.mv (.k (AV.int .i64 0)))]) (.ret [2, 3] [])) (.skip))) (.seq (.region [.op (some 17) none (.mv (.t 0)), .op (some 18) none (.iaddr (.t 17) (.k (AV.int .i64 0)) 1 (.int .u8)), .op (some 19) none (.load (.t 18) none (.int .u8)), .op (some 5) none (.mv (.t 19))]) (.stuck))))
def unicodeUtf8DecodeRuneSlow : AFunc := ⟨1, 122, [.tmp 2, .tmp 3], unicodeUtf8DecodeRuneSlow_c1⟩
def unicodeUtf8DecodeRuneSlowr (R : Nat → List AV → Option Res) (N : Nat) (s1 : List UInt8) : Option Res :=
  bif decide ((((s1.length : Nat) : Int) : Int) < 1) then
    (some ⟨AV.tup [AV.int .i32 65533, AV.int .i64 0], false, []⟩)
  else
    need (decide (0 ≤ (0 : Int))) <|
    (s1[Int.toNat 0]?).bind fun c1 =>
    none
theorem unicodeUtf8DecodeRuneSlow_eq (R : Nat → List AV → Option Res) (N : Nat) (s1 : List UInt8) : runF gl R N unicodeUtf8DecodeRuneSlow [AV.bytes s1] = unicodeUtf8DecodeRuneSlowr R N s1 := by
  kernel_rfl
theorem unicodeUtf8DecodeRuneSlow_fit : fitF Tryd.prog unicodeUtf8DecodeRuneSlow Tryd.f57 = true := by
  kernel_rfl

def unicodeUtf8DecodeRune_L1s (R : Nat → List AV → Option Res) (N : Nat) (go : List UInt8 → List UInt8 → Int → Int → Option Res) (k0 : Int → Int → Option Res) (k1 : List UInt8 → Option Res) (s2 : List UInt8) (s3 : List UInt8) (i1 : Int) (i2 : Int) : Option Res :=
  bif decide ((i2 : Int) < i1) then
    (need (decide (0 ≤ (i2 : Int))) <|
    (s3[Int.toNat i2]?).bind fun c1 =>
    bif decide (((c1.toNat : Int) : Int) < 128) then
      (k0 (IntKind.i32.wrap (c1.toNat : Int)) 1)
    else
      k1 s2)
  else
    k1 s2
def unicodeUtf8DecodeRune_L1 (R : Nat → List AV → Option Res) (N : Nat) (k0 : Int → Int → Option Res) (k1 : List UInt8 → Option Res) : Nat → List UInt8 → List UInt8 → Int → Int → Option Res
  | 0, _, _, _, _ => none
  | n + 1, s2, s3, i1, i2 => unicodeUtf8DecodeRune_L1s R N (unicodeUtf8DecodeRune_L1 R N k0 k1 n) k0 k1 s2 s3 i1 i2
def unicodeUtf8DecodeRune_c0 : AC := .seq (.region [.op (some 9) none (.bin .lss (.t 8) (.t 7))]) (.seq (.cond (.t 9) (.skip) (.exit 0 [0] [])) (.seq (.block 1 (.seq (.region [.op (some 10) none (.iaddr (.t 6) (.t 8) 1 (.int .u8)), .op (some 11) none (.load (.t 10) none (.int .u8)), .op (some 5) none (.mv (.t 11))]) (.seq (.seq (.region [.op (some 12) none (.mv (.t 5)), .op (some 13) none (.bin .lss (.t 12) (.k (AV.int .u8 128)))]) (.cond (.t 13) (.seq (.region [.op (some 14) none (.mv (.t 5)), .op (some 15) none (.cvInt .i32 (.t 14)), .op (some 2) none (.mv (.t 15)), .op (some 3) none (.mv (.k (AV.int .i64 1)))]) (.ret [2, 3] [])) (.skip))) (.exit 0 [0] [])))) (.region [.op (some 16) none (.bin .add (.t 8) (.k (AV.int .i64 1))), .op (some 8) none (.mv (.t 16))])))
theorem unicodeUtf8DecodeRune_L1s_eq (R : Nat → List AV → Option Res) (N : Nat) (K : Ex → St → Option Res) (W : St → Option Res) (s2 : List UInt8) (s3 : List UInt8) (i1 : Int) (i2 : Int) :
    evC gl R N unicodeUtf8DecodeRune_c0 (Kseq (fun st' => W (prune [0, 6, 7, 8] [] st')) K) ⟨[(0, .imm (AV.bytes s2)), (6, .imm (AV.bytes s3)), (7, .imm (AV.int .i64 i1)), (8, .imm (AV.int .i64 i2))], []⟩ =
    unicodeUtf8DecodeRune_L1s R N (fun (s2 : List UInt8) (s3 : List UInt8) (i1 : Int) (i2 : Int) => W ⟨[(0, .imm (AV.bytes s2)), (6, .imm (AV.bytes s3)), (7, .imm (AV.int .i64 i1)), (8, .imm (AV.int .i64 i2))], []⟩) (fun (i3 : Int) (i4 : Int) => K .ret ⟨[(2, .imm (AV.int .i32 i3)), (3, .imm (AV.int .i64 i4))], []⟩) (fun (s4 : List UInt8) => K (.exit 0) ⟨[(0, .imm (AV.bytes s4))], []⟩) s2 s3 i1 i2 := by
  kernel_rfl
theorem unicodeUtf8DecodeRune_L1_eq (R : Nat → List AV → Option Res) (N : Nat) (K : Ex → St → Option Res) : ∀ (n : Nat) (s2 : List UInt8) (s3 : List UInt8) (i1 : Int) (i2 : Int),
    rounds [0, 6, 7, 8] [] (evC gl R N unicodeUtf8DecodeRune_c0) K n ⟨[(0, .imm (AV.bytes s2)), (6, .imm (AV.bytes s3)), (7, .imm (AV.int .i64 i1)), (8, .imm (AV.int .i64 i2))], []⟩ = unicodeUtf8DecodeRune_L1 R N (fun (i3 : Int) (i4 : Int) => K .ret ⟨[(2, .imm (AV.int .i32 i3)), (3, .imm (AV.int .i64 i4))], []⟩) (fun (s4 : List UInt8) => K (.exit 0) ⟨[(0, .imm (AV.bytes s4))], []⟩) n s2 s3 i1 i2
  | 0, _, _, _, _ => rfl
  | n + 1, s2, s3, i1, i2 => (unicodeUtf8DecodeRune_L1s_eq R N K (rounds [0, 6, 7, 8] [] (evC gl R N unicodeUtf8DecodeRune_c0) K n) s2 s3 i1 i2).trans
      (congrArg (fun go => unicodeUtf8DecodeRune_L1s R N go (fun (i3 : Int) (i4 : Int) => K .ret ⟨[(2, .imm (AV.int .i32 i3)), (3, .imm (AV.int .i64 i4))], []⟩) (fun (s4 : List UInt8) => K (.exit 0) ⟨[(0, .imm (AV.bytes s4))], []⟩) s2 s3 i1 i2) (funext fun s2 => funext fun s3 => funext fun i1 => funext fun i2 => unicodeUtf8DecodeRune_L1_eq R N K n s2 s3 i1 i2))
def unicodeUtf8DecodeRune_c1 : AC := .seq (.region [.op (some 18) none (.mv (.t 0)), .op (some 19) none (.call id_unicodeUtf8DecodeRuneSlow [.t 18] (.tup [.int .i32, .int .i64])), .op (some 17) none (.mv (.t 19)), .op (some 20) none (.extract (.t 17) 0), .op (some 21) none (.extract (.t 17) 1), .op (some 2) none (.mv (.t 20)), .op (some 3) none (.mv (.t 21))]) (.ret [2, 3] [])
def unicodeUtf8DecodeRune_c2 : AC := .seq (.region [.op (some 2) none (.mv (.k (AV.int .i32 0))), .op (some 3) none (.mv (.k (AV.int .i64 0)))]) (.seq (.seq (.region [.op (some 6) none (.mv (.t 0)), .op (some 7) none (.len (.t 6) false), .op (some 8) none (.mv (.k (AV.int .i64 0)))]) (.block 0 (.loop [0, 6, 7, 8] [] (unicodeUtf8DecodeRune_c0)))) (unicodeUtf8DecodeRune_c1))
def unicodeUtf8DecodeRune : AFunc := ⟨1, 22, [.tmp 2, .tmp 3], unicodeUtf8DecodeRune_c2⟩
def unicodeUtf8DecodeRuner (R : Nat → List AV → Option Res) (N : Nat) (s1 : List UInt8) : Option Res :=
  unicodeUtf8DecodeRune_L1 R N
    (fun i7 i8 =>
      some ⟨AV.tup [AV.int .i32 i7, AV.int .i64 i8], false, []⟩)
    (fun s6 =>
      (R id_unicodeUtf8DecodeRuneSlow [AV.bytes s6]).bind fun r1 =>
      asJIT r1.v fun i9 i10 =>
      some ⟨AV.tup [AV.int .i32 i9, AV.int .i64 i10], false, []⟩)
    N s1 s1 ((s1.length : Nat) : Int) 0
theorem unicodeUtf8DecodeRune_eq (R : Nat → List AV → Option Res) (N : Nat) (s1 : List UInt8) : runF gl R N unicodeUtf8DecodeRune [AV.bytes s1] = unicodeUtf8DecodeRuner R N s1 := by
  refine Eq.trans (b :=
      rounds [0, 6, 7, 8] [] (evC gl R N unicodeUtf8DecodeRune_c0) (Kblock 0 (Kthen gl R N unicodeUtf8DecodeRune_c1 (Kret unicodeUtf8DecodeRune.rets))) N ⟨[(0, .imm (AV.bytes s1)), (6, .imm (AV.bytes s1)), (7, .imm (AV.int .i64 ((s1.length : Nat) : Int))), (8, .imm (AV.int .i64 0))], []⟩) (by kernel_rfl) ?_
  simp (config := { maxSteps := 100000000 }) only [unicodeUtf8DecodeRune_L1_eq]
  kernel_rfl
theorem unicodeUtf8DecodeRune_fit : fitF Tryd.prog unicodeUtf8DecodeRune Tryd.f53 = true := by
  kernel_rfl

def bytesContainsRune_c1 : AC := .seq (.region [.op (some 4) none (.mv (.k (AV.bool false)))]) (.stuck)
def bytesContainsRune : AFunc := ⟨2, 15, [.tmp 4], bytesContainsRune_c1⟩
def bytesContainsRuner (R : Nat → List AV → Option Res) (N : Nat) (s1 : List UInt8) (i1 : Int) : Option Res :=
  none
theorem bytesContainsRune_eq (R : Nat → List AV → Option Res) (N : Nat) (s1 : List UInt8) (i1 : Int) : runF gl R N bytesContainsRune [AV.str s1, AV.int .i32 i1] = bytesContainsRuner R N s1 i1 := by
  kernel_rfl
theorem bytesContainsRune_fit : fitF Tryd.prog bytesContainsRune Tryd.f54 = true := by
  kernel_rfl

def bytesTrimLeftUnicode_L1s (R : Nat → List AV → Option Res) (N : Nat) (go : List UInt8 → List UInt8 → Option Res) (k0 : List UInt8 → Option Res) (s3 : List UInt8) (s4 : List UInt8) : Option Res :=
  bif decide ((((s3.length : Nat) : Int) : Int) > 0) then
    ((R id_unicodeUtf8DecodeRune [AV.bytes s3]).bind fun r1 =>
    asJIT r1.v fun i1 i2 =>
    none)
  else
    k0 s3
def bytesTrimLeftUnicode_L1 (R : Nat → List AV → Option Res) (N : Nat) (k0 : List UInt8 → Option Res) : Nat → List UInt8 → List UInt8 → Option Res
  | 0, _, _ => none
  | n + 1, s3, s4 => bytesTrimLeftUnicode_L1s R N (bytesTrimLeftUnicode_L1 R N k0 n) k0 s3 s4
def bytesTrimLeftUnicode_c1 : AC := .seq (.seq (.region [.op (some 7) none (.mv (.t 0)), .op (some 8) none (.len (.t 7) false), .op (some 9) none (.bin .gtr (.t 8) (.k (AV.int .i64 0)))]) (.cond (.t 9) (.skip) (.exit 0 [0] []))) (.block 1 (.seq (.region [.op (some 11) none (.mv (.t 0)), .op (some 12) none (.call id_unicodeUtf8DecodeRune [.t 11] (.tup [.int .i32, .int .i64])), .op (some 10) none (.mv (.t 12)), .op (some 13) none (.extract (.t 10) 0), .op (some 14) none (.extract (.t 10) 1), .op (some 5) none (.mv (.t 13)), .op (some 6) none (.mv (.t 14))]) (.stuck)))
theorem bytesTrimLeftUnicode_L1s_eq (R : Nat → List AV → Option Res) (N : Nat) (K : Ex → St → Option Res) (W : St → Option Res) (s3 : List UInt8) (s4 : List UInt8) :
    evC gl R N bytesTrimLeftUnicode_c1 (Kseq (fun st' => W (prune [0, 1] [] st')) K) ⟨[(0, .imm (AV.bytes s3)), (1, .imm (AV.str s4))], []⟩ =
    bytesTrimLeftUnicode_L1s R N (fun (s3 : List UInt8) (s4 : List UInt8) => W ⟨[(0, .imm (AV.bytes s3)), (1, .imm (AV.str s4))], []⟩) (fun (s5 : List UInt8) => K (.exit 0) ⟨[(0, .imm (AV.bytes s5))], []⟩) s3 s4 := by
  kernel_rfl
theorem bytesTrimLeftUnicode_L1_eq (R : Nat → List AV → Option Res) (N : Nat) (K : Ex → St → Option Res) : ∀ (n : Nat) (s3 : List UInt8) (s4 : List UInt8),
    rounds [0, 1] [] (evC gl R N bytesTrimLeftUnicode_c1) K n ⟨[(0, .imm (AV.bytes s3)), (1, .imm (AV.str s4))], []⟩ = bytesTrimLeftUnicode_L1 R N (fun (s5 : List UInt8) => K (.exit 0) ⟨[(0, .imm (AV.bytes s5))], []⟩) n s3 s4
  | 0, _, _ => rfl
  | n + 1, s3, s4 => (bytesTrimLeftUnicode_L1s_eq R N K (rounds [0, 1] [] (evC gl R N bytesTrimLeftUnicode_c1) K n) s3 s4).trans
      (congrArg (fun go => bytesTrimLeftUnicode_L1s R N go (fun (s5 : List UInt8) => K (.exit 0) ⟨[(0, .imm (AV.bytes s5))], []⟩) s3 s4) (funext fun s3 => funext fun s4 => bytesTrimLeftUnicode_L1_eq R N K n s3 s4))
def bytesTrimLeftUnicode_c2 : AC := .seq (.seq (.region [.op (some 22) none (.mv (.t 0)), .op (some 23) none (.len (.t 22) false), .op (some 24) none (.bin .eql (.t 23) (.k (AV.int .i64 0)))]) (.cond (.t 24) (.seq (.region [.op (some 4) none (.mv (.k (AV.bytes [])))]) (.ret [4] [])) (.skip))) (.seq (.region [.op (some 25) none (.mv (.t 0)), .op (some 4) none (.mv (.t 25))]) (.ret [4] []))
def bytesTrimLeftUnicode_c3 : AC := .seq (.region [.op (some 4) none (.mv (.k (AV.bytes [])))]) (.seq (.block 0 (.loop [0, 1] [] (bytesTrimLeftUnicode_c1))) (bytesTrimLeftUnicode_c2))
def bytesTrimLeftUnicode : AFunc := ⟨2, 26, [.tmp 4], bytesTrimLeftUnicode_c3⟩
def bytesTrimLeftUnicoder (R : Nat → List AV → Option Res) (N : Nat) (s1 : List UInt8) (s2 : List UInt8) : Option Res :=
  bytesTrimLeftUnicode_L1 R N
    (fun s7 =>
      bif (((s7.length : Nat) : Int) : Int) == 0 then
        (some ⟨AV.bytes [], false, []⟩)
      else
        some ⟨AV.bytes s7, false, []⟩)
    N s1 s2
theorem bytesTrimLeftUnicode_eq (R : Nat → List AV → Option Res) (N : Nat) (s1 : List UInt8) (s2 : List UInt8) : runF gl R N bytesTrimLeftUnicode [AV.bytes s1, AV.str s2] = bytesTrimLeftUnicoder R N s1 s2 := by
  refine Eq.trans (b :=
      rounds [0, 1] [] (evC gl R N bytesTrimLeftUnicode_c1) (Kblock 0 (Kthen gl R N bytesTrimLeftUnicode_c2 (Kret bytesTrimLeftUnicode.rets))) N ⟨[(0, .imm (AV.bytes s1)), (1, .imm (AV.str s2))], []⟩) (by kernel_rfl) ?_
  simp (config := { maxSteps := 100000000 }) only [bytesTrimLeftUnicode_L1_eq]
  kernel_rfl
theorem bytesTrimLeftUnicode_fit : fitF Tryd.prog bytesTrimLeftUnicode Tryd.f45 = true := by
  kernel_rfl

def bytesTrimLeft_c1 : AC := .seq (.region [.op (some 4) none (.mv (.k (AV.bytes [])))]) (.seq (.seq (.region [.op (some 7) none (.mv (.t 0)), .op (some 8) none (.len (.t 7) false), .op (some 9) none (.bin .eql (.t 8) (.k (AV.int .i64 0)))]) (.cond (.t 9) (.seq (.region [.op (some 4) none (.mv (.k (AV.bytes [])))]) (.ret [4] [])) (.skip))) (.seq (.seq (.region [.op (some 10) none (.mv (.t 1)), .op (some 11) none (.bin .eql (.t 10) (.k (AV.str ([] : List UInt8))))]) (.cond (.t 11) (.seq (.region [.op (some 12) none (.mv (.t 0)), .op (some 4) none (.mv (.t 12))]) (.ret [4] [])) (.skip))) (.seq (.seq (.region [.op (some 13) none (.mv (.t 1)), .op (some 14) none (.len (.t 13) true), .op (some 15) none (.bin .eql (.t 14) (.k (AV.int .i64 1))), .op (some 16) none (.mv (.t 15)), .split 16, .op (some 17) (some (16, true)) (.mv (.t 1)), .op (some 18) (some (16, true)) (.index (.t 17) (.k (AV.int .i64 0))), .op (some 19) (some (16, true)) (.bin .lss (.t 18) (.k (AV.int .u8 128))), .op (some 20) none (.pick (.t 16) (.t 19) (.k (AV.bool false)))]) (.cond (.t 20) (.seq (.region [.op (some 21) none (.mv (.t 0)), .op (some 22) none (.mv (.t 1)), .op (some 23) none (.index (.t 22) (.k (AV.int .i64 0))), .op (some 24) none (.call id_bytesTrimLeftByte [.t 21, .t 23] (.bytes)), .op (some 4) none (.mv (.t 24))]) (.ret [4] [])) (.skip))) (.stuck))))
def bytesTrimLeft : AFunc := ⟨2, 36, [.tmp 4], bytesTrimLeft_c1⟩
def bytesTrimLeftr (R : Nat → List AV → Option Res) (N : Nat) (s1 : List UInt8) (s2 : List UInt8) : Option Res :=
  bif (((s1.length : Nat) : Int) : Int) == 0 then
    (some ⟨AV.bytes [], false, []⟩)
  else
    bif s2 == ([] : List UInt8) then
      (some ⟨AV.bytes s1, false, []⟩)
    else
      bif (((s2.length : Nat) : Int) : Int) == 1 then
        (need (decide (0 ≤ (0 : Int))) <|
        (s2[Int.toNat 0]?).bind fun c1 =>
        bif decide (((c1.toNat : Int) : Int) < 128) then
          (need (decide (0 ≤ (0 : Int))) <|
          (s2[Int.toNat 0]?).bind fun c2 =>
          (R id_bytesTrimLeftByte [AV.bytes s1, AV.int .u8 (c2.toNat : Int)]).bind fun r1 =>
          asY r1.v fun s3 =>
          some ⟨AV.bytes s3, false, []⟩)
        else
          none)
      else
        none
theorem bytesTrimLeft_eq (R : Nat → List AV → Option Res) (N : Nat) (s1 : List UInt8) (s2 : List UInt8) : runF gl R N bytesTrimLeft [AV.bytes s1, AV.str s2] = bytesTrimLeftr R N s1 s2 := by
  kernel_rfl
theorem bytesTrimLeft_fit : fitF Tryd.prog bytesTrimLeft Tryd.f33 = true := by
  kernel_rfl

def linesIndent_c0 : AC := .seq (.region [.op (some 3) none (.box 1003 (.t 1) 3), .op (some 4) none (.mv (.k (AV.int .i64 0)))]) (.seq (.region [.op (some 6) none (.mv (.t 0)), .op (some 7) none (.load (.t 3) (some 3) (.agg [.int .i64, .int .i64, .int .i64])), .op (some 8) none (.call id_linesText [.t 6, .t 7] (.bytes)), .op (some 5) none (.mv (.t 8))]) (.seq (.region [.op (some 9) none (.mv (.t 5)), .op (some 10) none (.len (.t 9) false), .op (some 11) none (.mv (.t 5)), .op (some 12) none (.call id_bytesTrimLeft [.t 11, .k (AV.str ([32] : List UInt8))] (.bytes)), .op (some 13) none (.len (.t 12) false), .op (some 14) none (.bin .sub (.t 10) (.t 13)), .op (some 4) none (.mv (.t 14))]) (.ret [4] [])))
def linesIndent : AFunc := ⟨2, 15, [.tmp 4], linesIndent_c0⟩
def linesIndentr (R : Nat → List AV → Option Res) (N : Nat) (s1 : List UInt8) (i1 : Int) (i2 : Int) (i3 : Int) : Option Res :=
  (R id_linesText [AV.bytes s1, AV.agg [AV.int .i64 i1, AV.int .i64 i2, AV.int .i64 i3]]).bind fun r1 =>
  asY r1.v fun s2 =>
  (R id_bytesTrimLeft [AV.bytes s2, AV.str ([32] : List UInt8)]).bind fun r2 =>
  asY r2.v fun s3 =>
  some ⟨AV.int .i64 (IntKind.i64.wrap (((s2.length : Nat) : Int) - ((s3.length : Nat) : Int))), false, []⟩
theorem linesIndent_eq (R : Nat → List AV → Option Res) (N : Nat) (s1 : List UInt8) (i1 : Int) (i2 : Int) (i3 : Int) : runF gl R N linesIndent [AV.bytes s1, AV.agg [AV.int .i64 i1, AV.int .i64 i2, AV.int .i64 i3]] = linesIndentr R N s1 i1 i2 i3 := by
  kernel_rfl
theorem linesIndent_fit : fitF Tryd.prog linesIndent Tryd.f20 = true := by
  kernel_rfl

def linesBlank_c0 : AC := .seq (.region [.op (some 3) none (.box 1003 (.t 1) 3), .op (some 4) none (.mv (.k (AV.bool false)))]) (.seq (.regionD [4] [] [.op (some 5) none (.mv (.t 0)), .op (some 6) none (.load (.t 3) (some 3) (.agg [.int .i64, .int .i64, .int .i64])), .op (some 7) none (.call id_linesIndent [.t 5, .t 6] (.int .i64)), .op (some 8) none (.mv (.t 0)), .op (some 9) none (.load (.t 3) (some 3) (.agg [.int .i64, .int .i64, .int .i64])), .op (some 10) none (.call id_linesText [.t 8, .t 9] (.bytes)), .op (some 11) none (.len (.t 10) false), .op (some 12) none (.bin .eql (.t 7) (.t 11)), .op (some 4) none (.mv (.t 12))] []) (.ret [4] []))
def linesBlank : AFunc := ⟨2, 13, [.tmp 4], linesBlank_c0⟩
def linesBlankr (R : Nat → List AV → Option Res) (N : Nat) (s1 : List UInt8) (i1 : Int) (i2 : Int) (i3 : Int) : Option Res :=
  (R id_linesIndent [AV.bytes s1, AV.agg [AV.int .i64 i1, AV.int .i64 i2, AV.int .i64 i3]]).bind fun r1 =>
  asI .i64 r1.v fun i4 =>
  (R id_linesText [AV.bytes s1, AV.agg [AV.int .i64 i1, AV.int .i64 i2, AV.int .i64 i3]]).bind fun r2 =>
  asY r2.v fun s2 =>
  some ⟨AV.bool ((i4 : Int) == ((s2.length : Nat) : Int)), false, []⟩
theorem linesBlank_eq (R : Nat → List AV → Option Res) (N : Nat) (s1 : List UInt8) (i1 : Int) (i2 : Int) (i3 : Int) : runF gl R N linesBlank [AV.bytes s1, AV.agg [AV.int .i64 i1, AV.int .i64 i2, AV.int .i64 i3]] = linesBlankr R N s1 i1 i2 i3 := by
  kernel_rfl
theorem linesBlank_fit : fitF Tryd.prog linesBlank Tryd.f30 = true := by
  kernel_rfl

def foldBodyBlank_c0 : AC := .seq (.region [.op (some 2) none (.box 1002 (.t 0) 2), .op (some 4) none (.mv (.k (AV.bool false)))]) (.seq (.regionD [4] [] [.op (some 5) none (.faddr (.t 2) 0), .op (some 6) none (.load (.t 5) none (.bytes)), .op (some 7) none (.faddr (.t 2) 1), .op (some 8) none (.load (.t 7) none (.row 3)), .op (some 9) none (.mv (.t 1)), .op (some 10) none (.iaddr (.t 8) (.t 9) 3 (.agg [.int .i64, .int .i64, .int .i64])), .op (some 11) none (.load (.t 10) (some 3) (.agg [.int .i64, .int .i64, .int .i64])), .op (some 12) none (.call id_linesBlank [.t 6, .t 11] (.bool)), .op (some 4) none (.mv (.t 12))] []) (.ret [4] []))
def foldBodyBlank : AFunc := ⟨2, 13, [.tmp 4], foldBodyBlank_c0⟩
def foldBodyBlankr (R : Nat → List AV → Option Res) (N : Nat) (s1 : List UInt8) (l1 : List AV) (i1 : Int) : Option Res :=
  need (decide (0 ≤ (i1 : Int))) <|
  (l1[Int.toNat i1]?).bind fun e1 =>
  asIIIA e1 fun i2 i3 i4 =>
  (R id_linesBlank [AV.bytes s1, AV.agg [AV.int .i64 i2, AV.int .i64 i3, AV.int .i64 i4]]).bind fun r1 =>
  asB r1.v fun b1 =>
  some ⟨AV.bool b1, false, []⟩
theorem foldBodyBlank_eq (R : Nat → List AV → Option Res) (N : Nat) (s1 : List UInt8) (l1 : List AV) (i1 : Int) : runF gl R N foldBodyBlank [AV.agg [AV.bytes s1, AV.row 3 l1], AV.int .i64 i1] = foldBodyBlankr R N s1 l1 i1 := by
  kernel_rfl
theorem foldBodyBlank_fit : fitF Tryd.prog foldBodyBlank Tryd.f18 = true := by
  kernel_rfl

def internalStringsliteCutPrefix_c0 : AC := .seq (.region [.op (some 4) none (.mv (.k (AV.str ([] : List UInt8)))), .op (some 5) none (.mv (.k (AV.bool false)))]) (.seq (.seq (.region [.op (some 6) none (.mv (.t 0)), .op (some 7) none (.mv (.t 1)), .op (some 8) none (.call id_internalStringsliteHasPrefix [.t 6, .t 7] (.bool)), .op (some 9) none (.un .not (.t 8))]) (.cond (.t 9) (.seq (.region [.op (some 10) none (.mv (.t 0)), .op (some 4) none (.mv (.t 10)), .op (some 5) none (.mv (.k (AV.bool false)))]) (.ret [4, 5] [])) (.skip))) (.seq (.region [.op (some 11) none (.mv (.t 0)), .op (some 12) none (.mv (.t 1)), .op (some 13) none (.len (.t 12) true), .op (some 14) none (.sliceS (.t 11) (some (.t 13)) none), .op (some 4) none (.mv (.t 14)), .op (some 5) none (.mv (.k (AV.bool true)))]) (.ret [4, 5] [])))
def internalStringsliteCutPrefix : AFunc := ⟨2, 15, [.tmp 4, .tmp 5], internalStringsliteCutPrefix_c0⟩
def internalStringsliteCutPrefixr (R : Nat → List AV → Option Res) (N : Nat) (s1 : List UInt8) (s2 : List UInt8) : Option Res :=
  (R id_internalStringsliteHasPrefix [AV.str s1, AV.str s2]).bind fun r1 =>
  asB r1.v fun b1 =>
  bif !b1 then
    (some ⟨AV.tup [AV.str s1, AV.bool false], false, []⟩)
  else
    need (decide (0 ≤ (((s2.length : Nat) : Int) : Int)) && decide ((((s2.length : Nat) : Int) : Int) ≤ ((s1.length : Nat) : Int))) <|
    some ⟨AV.tup [AV.str ((s1.take s1.length).drop (Int.toNat ((s2.length : Nat) : Int))), AV.bool true], false, []⟩
theorem internalStringsliteCutPrefix_eq (R : Nat → List AV → Option Res) (N : Nat) (s1 : List UInt8) (s2 : List UInt8) : runF gl R N internalStringsliteCutPrefix [AV.str s1, AV.str s2] = internalStringsliteCutPrefixr R N s1 s2 := by
  kernel_rfl
theorem internalStringsliteCutPrefix_fit : fitF Tryd.prog internalStringsliteCutPrefix Tryd.f41 = true := by
  kernel_rfl

def stringsCutPrefix_c0 : AC := .seq (.region [.op (some 4) none (.mv (.k (AV.str ([] : List UInt8)))), .op (some 5) none (.mv (.k (AV.bool false)))]) (.seq (.region [.op (some 6) none (.mv (.t 0)), .op (some 7) none (.mv (.t 1)), .op (some 8) none (.call id_internalStringsliteCutPrefix [.t 6, .t 7] (.tup [.str, .bool])), .op (some 9) none (.extract (.t 8) 0), .op (some 10) none (.extract (.t 8) 1), .op (some 4) none (.mv (.t 9)), .op (some 5) none (.mv (.t 10))]) (.ret [4, 5] []))
def stringsCutPrefix : AFunc := ⟨2, 11, [.tmp 4, .tmp 5], stringsCutPrefix_c0⟩
def stringsCutPrefixr (R : Nat → List AV → Option Res) (N : Nat) (s1 : List UInt8) (s2 : List UInt8) : Option Res :=
  (R id_internalStringsliteCutPrefix [AV.str s1, AV.str s2]).bind fun r1 =>
  asSBT r1.v fun s3 b1 =>
  some ⟨AV.tup [AV.str s3, AV.bool b1], false, []⟩
theorem stringsCutPrefix_eq (R : Nat → List AV → Option Res) (N : Nat) (s1 : List UInt8) (s2 : List UInt8) : runF gl R N stringsCutPrefix [AV.str s1, AV.str s2] = stringsCutPrefixr R N s1 s2 := by
  kernel_rfl
theorem stringsCutPrefix_fit : fitF Tryd.prog stringsCutPrefix Tryd.f31 = true := by
  kernel_rfl

def foldParts_L1s (R : Nat → List AV → Option Res) (N : Nat) (go : List UInt8 → List AV → Int → Int → Option Res) (k0 : Bool → Option Res) (k1 : Option Res) (s2 : List UInt8) (l1 : List AV) (i1 : Int) (i2 : Int) : Option Res :=
  bif decide ((i2 : Int) < i1) then
    (need (decide (0 ≤ (i2 : Int))) <|
    (l1[Int.toNat i2]?).bind fun e1 =>
    asS e1 fun s3 =>
    (R id_stringsCutPrefix [AV.str s2, AV.str s3]).bind fun r1 =>
    asSBT r1.v fun s4 b1 =>
    bif b1 then
      (bif s4 == ([] : List UInt8) then
        (k0 true)
      else
        need (decide (0 ≤ (0 : Int))) <|
        (s4[Int.toNat 0]?).bind fun c1 =>
        bif ((c1.toNat : Int) : Int) == 32 then
          (k0 true)
        else
          go s2 l1 i1 (IntKind.i64.wrap (i2 + 1)))
    else
      go s2 l1 i1 (IntKind.i64.wrap (i2 + 1)))
  else
    k1
def foldParts_L1 (R : Nat → List AV → Option Res) (N : Nat) (k0 : Bool → Option Res) (k1 : Option Res) : Nat → List UInt8 → List AV → Int → Int → Option Res
  | 0, _, _, _, _ => none
  | n + 1, s2, l1, i1, i2 => foldParts_L1s R N (foldParts_L1 R N k0 k1 n) k0 k1 s2 l1 i1 i2
def foldParts_c0 : AC := .seq (.region [.op (some 10) none (.bin .lss (.t 9) (.t 8))]) (.seq (.cond (.t 10) (.skip) (.exit 0 [] [])) (.seq (.block 1 (.seq (.region [.op (some 11) none (.iaddr (.t 7) (.t 9) 1 (.str)), .op (some 12) none (.load (.t 11) none (.str)), .op (some 4) none (.mv (.t 12))]) (.seq (.region [.op (some 14) none (.mv (.t 0)), .op (some 15) none (.mv (.t 4)), .op (some 16) none (.call id_stringsCutPrefix [.t 14, .t 15] (.tup [.str, .bool])), .op (some 13) none (.mv (.t 16)), .op (some 17) none (.extract (.t 13) 0), .op (some 18) none (.extract (.t 13) 1), .op (some 5) none (.mv (.t 17)), .op (some 6) none (.mv (.t 18))]) (.seq (.region [.op (some 19) none (.mv (.t 6)), .op (some 20) none (.mv (.t 19)), .split 20, .op (some 21) (some (20, true)) (.mv (.t 5)), .op (some 22) (some (20, true)) (.bin .eql (.t 21) (.k (AV.str ([] : List UInt8)))), .op (some 23) (some (20, true)) (.mv (.t 22)), .split 23, .op (some 24) (some (23, false)) (.mv (.t 5)), .op (some 25) (some (23, false)) (.index (.t 24) (.k (AV.int .i64 0))), .op (some 26) (some (23, false)) (.bin .eql (.t 25) (.k (AV.int .u8 32))), .op (some 27) (some (20, true)) (.pick (.t 23) (.k (AV.bool true)) (.t 26)), .op (some 28) none (.pick (.t 20) (.t 27) (.k (AV.bool false)))]) (.cond (.t 28) (.seq (.region [.op (some 2) none (.mv (.k (AV.bool true)))]) (.ret [2] [])) (.skip)))))) (.region [.op (some 29) none (.bin .add (.t 9) (.k (AV.int .i64 1))), .op (some 9) none (.mv (.t 29))])))
theorem foldParts_L1s_eq (R : Nat → List AV → Option Res) (N : Nat) (K : Ex → St → Option Res) (W : St → Option Res) (s2 : List UInt8) (l1 : List AV) (i1 : Int) (i2 : Int) :
    evC gl R N foldParts_c0 (Kseq (fun st' => W (prune [0, 7, 8, 9] [] st')) K) ⟨[(0, .imm (AV.str s2)), (7, .imm (AV.row 1 l1)), (8, .imm (AV.int .i64 i1)), (9, .imm (AV.int .i64 i2))], []⟩ =
    foldParts_L1s R N (fun (s2 : List UInt8) (l1 : List AV) (i1 : Int) (i2 : Int) => W ⟨[(0, .imm (AV.str s2)), (7, .imm (AV.row 1 l1)), (8, .imm (AV.int .i64 i1)), (9, .imm (AV.int .i64 i2))], []⟩) (fun (b2 : Bool) => K .ret ⟨[(2, .imm (AV.bool b2))], []⟩) (K (.exit 0) ⟨[], []⟩) s2 l1 i1 i2 := by
  kernel_rfl
theorem foldParts_L1_eq (R : Nat → List AV → Option Res) (N : Nat) (K : Ex → St → Option Res) : ∀ (n : Nat) (s2 : List UInt8) (l1 : List AV) (i1 : Int) (i2 : Int),
    rounds [0, 7, 8, 9] [] (evC gl R N foldParts_c0) K n ⟨[(0, .imm (AV.str s2)), (7, .imm (AV.row 1 l1)), (8, .imm (AV.int .i64 i1)), (9, .imm (AV.int .i64 i2))], []⟩ = foldParts_L1 R N (fun (b2 : Bool) => K .ret ⟨[(2, .imm (AV.bool b2))], []⟩) (K (.exit 0) ⟨[], []⟩) n s2 l1 i1 i2
  | 0, _, _, _, _ => rfl
  | n + 1, s2, l1, i1, i2 => (foldParts_L1s_eq R N K (rounds [0, 7, 8, 9] [] (evC gl R N foldParts_c0) K n) s2 l1 i1 i2).trans
      (congrArg (fun go => foldParts_L1s R N go (fun (b2 : Bool) => K .ret ⟨[(2, .imm (AV.bool b2))], []⟩) (K (.exit 0) ⟨[], []⟩) s2 l1 i1 i2) (funext fun s2 => funext fun l1 => funext fun i1 => funext fun i2 => foldParts_L1_eq R N K n s2 l1 i1 i2))
def foldParts_c1 : AC := .seq (.region [.op (some 2) none (.mv (.k (AV.bool false)))]) (.ret [2] [])
def foldParts_c2 : AC := .seq (.region [.op (some 2) none (.mv (.k (AV.bool false)))]) (.seq (.seq (.region [.op (some 7) none (.bslice [.k (AV.str ([45, 45, 45] : List UInt8)), .k (AV.str ([46, 46, 46] : List UInt8))] 1 false), .op (some 8) none (.len (.t 7) false), .op (some 9) none (.mv (.k (AV.int .i64 0)))]) (.block 0 (.loop [0, 7, 8, 9] [] (foldParts_c0)))) (foldParts_c1))
def foldParts : AFunc := ⟨1, 30, [.tmp 2], foldParts_c2⟩
def foldPartsr (R : Nat → List AV → Option Res) (N : Nat) (s1 : List UInt8) : Option Res :=
  foldParts_L1 R N
    (fun b4 =>
      some ⟨AV.bool b4, false, []⟩)
    (
      some ⟨AV.bool false, false, []⟩)
    N s1 [AV.str ([45, 45, 45] : List UInt8), AV.str ([46, 46, 46] : List UInt8)] (([AV.str ([45, 45, 45] : List UInt8), AV.str ([46, 46, 46] : List UInt8)].length : Nat) : Int) 0
theorem foldParts_eq (R : Nat → List AV → Option Res) (N : Nat) (s1 : List UInt8) : runF gl R N foldParts [AV.str s1] = foldPartsr R N s1 := by
  refine Eq.trans (b :=
      rounds [0, 7, 8, 9] [] (evC gl R N foldParts_c0) (Kblock 0 (Kthen gl R N foldParts_c1 (Kret foldParts.rets))) N ⟨[(0, .imm (AV.str s1)), (7, .imm (AV.row 1 [AV.str ([45, 45, 45] : List UInt8), AV.str ([46, 46, 46] : List UInt8)])), (8, .imm (AV.int .i64 (([AV.str ([45, 45, 45] : List UInt8), AV.str ([46, 46, 46] : List UInt8)].length : Nat) : Int))), (9, .imm (AV.int .i64 0))], []⟩) (by kernel_rfl) ?_
  simp (config := { maxSteps := 100000000 }) only [foldParts_L1_eq]
  kernel_rfl
theorem foldParts_fit : fitF Tryd.prog foldParts Tryd.f19 = true := by
  kernel_rfl

def foldBodyColumn_L1s (R : Nat → List AV → Option Res) (N : Nat) (go : Int → Int → Int → List UInt8 → List AV → Option Res) (k0 : Int → Option Res) (k1 : Int → Bool → Option Res) (i4 : Int) (i5 : Int) (i6 : Int) (s2 : List UInt8) (l2 : List AV) : Option Res :=
  bif decide ((i6 : Int) < ((l2.length : Nat) : Int)) then
    ((R id_foldBodyBlank [AV.agg [AV.bytes s2, AV.row 3 l2], AV.int .i64 i6]).bind fun r1 =>
    asB r1.v fun b1 =>
    bif b1 then
      (go i4 i5 (IntKind.i64.wrap (i6 + 1)) s2 l2)
    else
      need (decide (0 ≤ (i6 : Int))) <|
      (l2[Int.toNat i6]?).bind fun e1 =>
      asIIIA e1 fun i7 i8 i9 =>
      (R id_linesIndent [AV.bytes s2, AV.agg [AV.int .i64 i7, AV.int .i64 i8, AV.int .i64 i9]]).bind fun r2 =>
      asI .i64 r2.v fun i10 =>
      bif decide ((i10 : Int) ≤ i4) then
        (k0 i5)
      else
        (R id_foldBodyRow [AV.agg [AV.bytes s2, AV.row 3 l2], AV.int .i64 i6]).bind fun r3 =>
        asS r3.v fun s3 =>
        (R id_foldParts [AV.str s3]).bind fun r4 =>
        asB r4.v fun b2 =>
        bif b2 then
          (k0 i5)
        else
          k1 i10 true)
  else
    k0 i5
def foldBodyColumn_L1 (R : Nat → List AV → Option Res) (N : Nat) (k0 : Int → Option Res) (k1 : Int → Bool → Option Res) : Nat → Int → Int → Int → List UInt8 → List AV → Option Res
  | 0, _, _, _, _, _ => none
  | n + 1, i4, i5, i6, s2, l2 => foldBodyColumn_L1s R N (foldBodyColumn_L1 R N k0 k1 n) k0 k1 i4 i5 i6 s2 l2
def foldBodyColumn_c0 : AC := .seq (.seq (.region [.op (some 21) none (.mv (.t 11)), .op (some 22) none (.faddr (.t 4) 1), .op (some 23) none (.load (.t 22) none (.row 3)), .op (some 24) none (.len (.t 23) false), .op (some 25) none (.bin .lss (.t 21) (.t 24))]) (.cond (.t 25) (.skip) (.exit 0 [10] []))) (.seq (.block 1 (.seq (.seq (.region [.op (some 28) none (.load (.t 4) (some 2) (.agg [.bytes, .row 3])), .op (some 29) none (.mv (.t 11)), .op (some 30) none (.call id_foldBodyBlank [.t 28, .t 29] (.bool))]) (.cond (.t 30) (.exit 1 [2, 4, 10, 11] [1004]) (.skip))) (.seq (.regionD [2, 4, 10, 11, 12] [1004] [.op (some 31) none (.faddr (.t 4) 0), .op (some 32) none (.load (.t 31) none (.bytes)), .op (some 33) none (.faddr (.t 4) 1), .op (some 34) none (.load (.t 33) none (.row 3)), .op (some 35) none (.mv (.t 11)), .op (some 36) none (.iaddr (.t 34) (.t 35) 3 (.agg [.int .i64, .int .i64, .int .i64])), .op (some 37) none (.load (.t 36) (some 3) (.agg [.int .i64, .int .i64, .int .i64])), .op (some 38) none (.call id_linesIndent [.t 32, .t 37] (.int .i64)), .op (some 12) none (.mv (.t 38))] []) (.seq (.seq (.region [.op (some 39) none (.mv (.t 12)), .op (some 40) none (.mv (.t 2)), .op (some 41) none (.bin .leq (.t 39) (.t 40)), .op (some 42) none (.mv (.t 41)), .split 42, .op (some 43) (some (42, false)) (.load (.t 4) (some 2) (.agg [.bytes, .row 3])), .op (some 44) (some (42, false)) (.mv (.t 11)), .op (some 45) (some (42, false)) (.call id_foldBodyRow [.t 43, .t 44] (.str)), .op (some 46) (some (42, false)) (.call id_foldParts [.t 45] (.bool)), .op (some 47) none (.pick (.t 42) (.k (AV.bool true)) (.t 46))]) (.cond (.t 47) (.exit 0 [10] []) (.skip))) (.seq (.region [.op (some 48) none (.mv (.t 12)), .op (some 8) none (.mv (.t 48)), .op (some 9) none (.mv (.k (AV.bool true)))]) (.ret [8, 9] [])))))) (.region [.op (some 26) none (.mv (.t 11)), .op (some 27) none (.bin .add (.t 26) (.k (AV.int .i64 1))), .op (some 11) none (.mv (.t 27))]))
theorem foldBodyColumn_L1s_eq (R : Nat → List AV → Option Res) (N : Nat) (K : Ex → St → Option Res) (W : St → Option Res) (i4 : Int) (i5 : Int) (i6 : Int) (s2 : List UInt8) (l2 : List AV) :
    evC gl R N foldBodyColumn_c0 (Kseq (fun st' => W (prune [2, 4, 10, 11] [1004] st')) K) ⟨[(2, .imm (AV.int .i64 i4)), (4, .ptr 1004 0 0), (10, .imm (AV.int .i64 i5)), (11, .imm (AV.int .i64 i6))], [(1004, .box [.imm (AV.bytes s2), .imm (AV.row 3 l2)])]⟩ =
    foldBodyColumn_L1s R N (fun (i4 : Int) (i5 : Int) (i6 : Int) (s2 : List UInt8) (l2 : List AV) => W ⟨[(2, .imm (AV.int .i64 i4)), (4, .ptr 1004 0 0), (10, .imm (AV.int .i64 i5)), (11, .imm (AV.int .i64 i6))], [(1004, .box [.imm (AV.bytes s2), .imm (AV.row 3 l2)])]⟩) (fun (i11 : Int) => K (.exit 0) ⟨[(10, .imm (AV.int .i64 i11))], []⟩) (fun (i12 : Int) (b3 : Bool) => K .ret ⟨[(8, .imm (AV.int .i64 i12)), (9, .imm (AV.bool b3))], []⟩) i4 i5 i6 s2 l2 := by
  kernel_rfl
theorem foldBodyColumn_L1_eq (R : Nat → List AV → Option Res) (N : Nat) (K : Ex → St → Option Res) : ∀ (n : Nat) (i4 : Int) (i5 : Int) (i6 : Int) (s2 : List UInt8) (l2 : List AV),
    rounds [2, 4, 10, 11] [1004] (evC gl R N foldBodyColumn_c0) K n ⟨[(2, .imm (AV.int .i64 i4)), (4, .ptr 1004 0 0), (10, .imm (AV.int .i64 i5)), (11, .imm (AV.int .i64 i6))], [(1004, .box [.imm (AV.bytes s2), .imm (AV.row 3 l2)])]⟩ = foldBodyColumn_L1 R N (fun (i11 : Int) => K (.exit 0) ⟨[(10, .imm (AV.int .i64 i11))], []⟩) (fun (i12 : Int) (b3 : Bool) => K .ret ⟨[(8, .imm (AV.int .i64 i12)), (9, .imm (AV.bool b3))], []⟩) n i4 i5 i6 s2 l2
  | 0, _, _, _, _, _ => rfl
  | n + 1, i4, i5, i6, s2, l2 => (foldBodyColumn_L1s_eq R N K (rounds [2, 4, 10, 11] [1004] (evC gl R N foldBodyColumn_c0) K n) i4 i5 i6 s2 l2).trans
      (congrArg (fun go => foldBodyColumn_L1s R N go (fun (i11 : Int) => K (.exit 0) ⟨[(10, .imm (AV.int .i64 i11))], []⟩) (fun (i12 : Int) (b3 : Bool) => K .ret ⟨[(8, .imm (AV.int .i64 i12)), (9, .imm (AV.bool b3))], []⟩) i4 i5 i6 s2 l2) (funext fun i4 => funext fun i5 => funext fun i6 => funext fun s2 => funext fun l2 => foldBodyColumn_L1_eq R N K n i4 i5 i6 s2 l2))
def foldBodyColumn_c1 : AC := .seq (.region [.op (some 49) none (.mv (.t 10)), .op (some 50) none (.bin .add (.t 49) (.k (AV.int .i64 1))), .op (some 8) none (.mv (.t 50)), .op (some 9) none (.mv (.k (AV.bool false)))]) (.ret [8, 9] [])
def foldBodyColumn_c2 : AC := .seq (.region [.op (some 4) none (.box 1004 (.t 0) 2), .op (some 8) none (.mv (.k (AV.int .i64 0))), .op (some 9) none (.mv (.k (AV.bool false)))]) (.seq (.region [.op (some 13) none (.mv (.t 2)), .op (some 14) none (.mx [.k (AV.int .i64 0), .t 13]), .op (some 10) none (.mv (.t 14))]) (.seq (.seq (.region [.op (some 15) none (.mv (.t 3)), .op (some 16) none (.bin .gtr (.t 15) (.k (AV.int .i64 0)))]) (.cond (.t 16) (.seq (.region [.op (some 17) none (.mv (.t 10)), .op (some 18) none (.mv (.t 3)), .op (some 19) none (.bin .add (.t 17) (.t 18)), .op (some 8) none (.mv (.t 19)), .op (some 9) none (.mv (.k (AV.bool true)))]) (.ret [8, 9] [])) (.skip))) (.seq (.seq (.region [.op (some 20) none (.mv (.t 1)), .op (some 11) none (.mv (.t 20))]) (.block 0 (.loop [2, 4, 10, 11] [1004] (foldBodyColumn_c0)))) (foldBodyColumn_c1))))
def foldBodyColumn : AFunc := ⟨4, 51, [.tmp 8, .tmp 9], foldBodyColumn_c2⟩
def foldBodyColumnr (R : Nat → List AV → Option Res) (N : Nat) (s1 : List UInt8) (l1 : List AV) (i1 : Int) (i2 : Int) (i3 : Int) : Option Res :=
  bif decide ((i3 : Int) > 0) then
    (some ⟨AV.tup [AV.int .i64 (IntKind.i64.wrap ((if i2 > 0 then i2 else 0) + i3)), AV.bool true], false, []⟩)
  else
    foldBodyColumn_L1 R N
      (fun i15 =>
        some ⟨AV.tup [AV.int .i64 (IntKind.i64.wrap (i15 + 1)), AV.bool false], false, []⟩)
      (fun i16 b5 =>
        some ⟨AV.tup [AV.int .i64 i16, AV.bool b5], false, []⟩)
      N i2 (if i2 > 0 then i2 else 0) i1 s1 l1
theorem foldBodyColumn_eq (R : Nat → List AV → Option Res) (N : Nat) (s1 : List UInt8) (l1 : List AV) (i1 : Int) (i2 : Int) (i3 : Int) : runF gl R N foldBodyColumn [AV.agg [AV.bytes s1, AV.row 3 l1], AV.int .i64 i1, AV.int .i64 i2, AV.int .i64 i3] = foldBodyColumnr R N s1 l1 i1 i2 i3 := by
  refine Eq.trans (b :=
      bif decide ((i3 : Int) > 0) then
        (some ⟨AV.tup [AV.int .i64 (IntKind.i64.wrap ((if i2 > 0 then i2 else 0) + i3)), AV.bool true], false, []⟩)
      else
        rounds [2, 4, 10, 11] [1004] (evC gl R N foldBodyColumn_c0) (Kblock 0 (Kthen gl R N foldBodyColumn_c1 (Kret foldBodyColumn.rets))) N ⟨[(2, .imm (AV.int .i64 i2)), (4, .ptr 1004 0 0), (10, .imm (AV.int .i64 (if i2 > 0 then i2 else 0))), (11, .imm (AV.int .i64 i1))], [(1004, .box [.imm (AV.bytes s1), .imm (AV.row 3 l1)])]⟩) (by kernel_rfl) ?_
  simp (config := { maxSteps := 100000000 }) only [foldBodyColumn_L1_eq]
  kernel_rfl
theorem foldBodyColumn_fit : fitF Tryd.prog foldBodyColumn Tryd.f16 = true := by
  kernel_rfl

def foldBody_L1s (R : Nat → List AV → Option Res) (N : Nat) (go : List UInt8 → List AV → Int → Int → Bool → List AV → List UInt8 → List AV → Option Res) (k0 : Int → Bool → List AV → Option Res) (k1 : Int → List AV → Option Res) (s2 : List UInt8) (l2 : List AV) (i5 : Int) (i6 : Int) (b5 : Bool) (l3 : List AV) (s3 : List UInt8) (l4 : List AV) : Option Res :=
  bif decide ((i5 : Int) < ((l2.length : Nat) : Int)) then
    ((R id_foldBodyRow [AV.agg [AV.bytes s3, AV.row 3 l4], AV.int .i64 i5]).bind fun r2 =>
    asS r2.v fun s4 =>
    (R id_foldBodyBlank [AV.agg [AV.bytes s3, AV.row 3 l4], AV.int .i64 i5]).bind fun r3 =>
    asB r3.v fun b6 =>
    bif b6 then
      (bif decide ((((s4.length : Nat) : Int) : Int) > i6) then
        (k0 0 false [])
      else
        need (decide (((l3.drop 0).take l3.length).length + [AV.str ([] : List UInt8)].length ≤ 1099511627776)) <|
        go s2 l2 (IntKind.i64.wrap (i5 + 1)) i6 b5 (((l3.drop 0).take l3.length) ++ [AV.str ([] : List UInt8)]) s3 l4)
    else
      bif !b5 then
        (k1 i5 l3)
      else
        (R id_foldParts [AV.str s4]).bind fun r4 =>
        asB r4.v fun b7 =>
        bif b7 then
          (k1 i5 l3)
        else
          need (decide (0 ≤ (i5 : Int))) <|
          (l2[Int.toNat i5]?).bind fun e1 =>
          asIIIA e1 fun i7 i8 i9 =>
          (R id_linesIndent [AV.bytes s2, AV.agg [AV.int .i64 i7, AV.int .i64 i8, AV.int .i64 i9]]).bind fun r5 =>
          asI .i64 r5.v fun i10 =>
          bif decide ((i10 : Int) < i6) then
            (k1 i5 l3)
          else
            need (decide (0 ≤ (i6 : Int)) && decide ((i6 : Int) ≤ ((s4.length : Nat) : Int))) <|
            need (decide (((l3.drop 0).take l3.length).length + [AV.str ((s4.take s4.length).drop (Int.toNat i6))].length ≤ 1099511627776)) <|
            go s2 l2 (IntKind.i64.wrap (i5 + 1)) i6 b5 (((l3.drop 0).take l3.length) ++ [AV.str ((s4.take s4.length).drop (Int.toNat i6))]) s3 l4)
  else
    k1 i5 l3
def foldBody_L1 (R : Nat → List AV → Option Res) (N : Nat) (k0 : Int → Bool → List AV → Option Res) (k1 : Int → List AV → Option Res) : Nat → List UInt8 → List AV → Int → Int → Bool → List AV → List UInt8 → List AV → Option Res
  | 0, _, _, _, _, _, _, _, _ => none
  | n + 1, s2, l2, i5, i6, b5, l3, s3, l4 => foldBody_L1s R N (foldBody_L1 R N k0 k1 n) k0 k1 s2 l2 i5 i6 b5 l3 s3 l4
def foldBody_c0 : AC := .seq (.seq (.region [.op (some 35) none (.mv (.t 11)), .op (some 36) none (.mv (.t 1)), .op (some 37) none (.len (.t 36) false), .op (some 38) none (.bin .lss (.t 35) (.t 37))]) (.cond (.t 38) (.skip) (.exit 0 [10, 11] [10]))) (.seq (.block 1 (.seq (.region [.op (some 41) none (.load (.t 13) (some 2) (.agg [.bytes, .row 3])), .op (some 42) none (.mv (.t 11)), .op (some 43) none (.call id_foldBodyRow [.t 41, .t 42] (.str)), .op (some 16) none (.mv (.t 43))]) (.seq (.seq (.region [.op (some 44) none (.load (.t 13) (some 2) (.agg [.bytes, .row 3])), .op (some 45) none (.mv (.t 11)), .op (some 46) none (.call id_foldBodyBlank [.t 44, .t 45] (.bool))]) (.cond (.t 46) (.seq (.seq (.region [.op (some 47) none (.mv (.t 16)), .op (some 48) none (.len (.t 47) true), .op (some 49) none (.mv (.t 14)), .op (some 50) none (.bin .gtr (.t 48) (.t 49))]) (.cond (.t 50) (.seq (.region [.op (some 10) none (.nilOwn 10 (some (1, .any))), .op (some 11) none (.mv (.k (AV.int .i64 0))), .op (some 12) none (.mv (.k (AV.bool false)))]) (.ret [10, 11, 12] [10])) (.skip))) (.seq (.region [.op (some 51) none (.mv (.t 10)), .op (some 52) none (.bslice [.k (AV.str ([] : List UInt8))] 1 false), .op (some 53) none (.app 10 (.t 51) (.t 52) 1 .any false), .op (some 10) none (.mv (.t 53))]) (.exit 1 [0, 1, 10, 11, 13, 14, 15] [10, 1013]))) (.skip))) (.seq (.seq (.region [.op (some 54) none (.mv (.t 15)), .op (some 55) none (.un .not (.t 54)), .op (some 56) none (.mv (.t 55)), .split 56, .op (some 57) (some (56, false)) (.mv (.t 16)), .op (some 58) (some (56, false)) (.call id_foldParts [.t 57] (.bool)), .op (some 59) none (.pick (.t 56) (.k (AV.bool true)) (.t 58)), .op (some 60) none (.mv (.t 59)), .split 60, .op (some 61) (some (60, false)) (.mv (.t 0)), .op (some 62) (some (60, false)) (.mv (.t 1)), .op (some 63) (some (60, false)) (.mv (.t 11)), .op (some 64) (some (60, false)) (.iaddr (.t 62) (.t 63) 3 (.agg [.int .i64, .int .i64, .int .i64])), .op (some 65) (some (60, false)) (.load (.t 64) (some 3) (.agg [.int .i64, .int .i64, .int .i64])), .op (some 66) (some (60, false)) (.call id_linesIndent [.t 61, .t 65] (.int .i64)), .op (some 67) (some (60, false)) (.mv (.t 14)), .op (some 68) (some (60, false)) (.bin .lss (.t 66) (.t 67)), .op (some 69) none (.pick (.t 60) (.k (AV.bool true)) (.t 68))]) (.cond (.t 69) (.exit 0 [10, 11] [10]) (.skip))) (.region [.op (some 70) none (.mv (.t 10)), .op (some 71) none (.mv (.t 16)), .op (some 72) none (.mv (.t 14)), .op (some 73) none (.sliceS (.t 71) (some (.t 72)) none), .op (some 74) none (.bslice [.t 73] 1 false), .op (some 75) none (.app 10 (.t 70) (.t 74) 1 .any false), .op (some 10) none (.mv (.t 75))]))))) (.region [.op (some 39) none (.mv (.t 11)), .op (some 40) none (.bin .add (.t 39) (.k (AV.int .i64 1))), .op (some 11) none (.mv (.t 40))]))
theorem foldBody_L1s_eq (R : Nat → List AV → Option Res) (N : Nat) (K : Ex → St → Option Res) (W : St → Option Res) (s2 : List UInt8) (l2 : List AV) (i5 : Int) (i6 : Int) (b5 : Bool) (l3 : List AV) (s3 : List UInt8) (l4 : List AV) :
    evC gl R N foldBody_c0 (Kseq (fun st' => W (prune [0, 1, 10, 11, 13, 14, 15] [10, 1013] st')) K) ⟨[(0, .imm (AV.bytes s2)), (1, .imm (AV.row 3 l2)), (10, .own 10 0 l3.length none), (11, .imm (AV.int .i64 i5)), (13, .ptr 1013 0 0), (14, .imm (AV.int .i64 i6)), (15, .imm (AV.bool b5))], [(10, .row 1 l3 false), (1013, .box [.imm (AV.bytes s3), .imm (AV.row 3 l4)])]⟩ =
    foldBody_L1s R N (fun (s2 : List UInt8) (l2 : List AV) (i5 : Int) (i6 : Int) (b5 : Bool) (l3 : List AV) (s3 : List UInt8) (l4 : List AV) => W ⟨[(0, .imm (AV.bytes s2)), (1, .imm (AV.row 3 l2)), (10, .own 10 0 l3.length none), (11, .imm (AV.int .i64 i5)), (13, .ptr 1013 0 0), (14, .imm (AV.int .i64 i6)), (15, .imm (AV.bool b5))], [(10, .row 1 l3 false), (1013, .box [.imm (AV.bytes s3), .imm (AV.row 3 l4)])]⟩) (fun (i11 : Int) (b8 : Bool) (l5 : List AV) => K .ret ⟨[(10, .own 10 0 l5.length none), (11, .imm (AV.int .i64 i11)), (12, .imm (AV.bool b8))], [(10, .row 1 l5 false)]⟩) (fun (i12 : Int) (l6 : List AV) => K (.exit 0) ⟨[(10, .own 10 0 l6.length none), (11, .imm (AV.int .i64 i12))], [(10, .row 1 l6 false)]⟩) s2 l2 i5 i6 b5 l3 s3 l4 := by
  kernel_rfl
theorem foldBody_L1_eq (R : Nat → List AV → Option Res) (N : Nat) (K : Ex → St → Option Res) : ∀ (n : Nat) (s2 : List UInt8) (l2 : List AV) (i5 : Int) (i6 : Int) (b5 : Bool) (l3 : List AV) (s3 : List UInt8) (l4 : List AV),
    rounds [0, 1, 10, 11, 13, 14, 15] [10, 1013] (evC gl R N foldBody_c0) K n ⟨[(0, .imm (AV.bytes s2)), (1, .imm (AV.row 3 l2)), (10, .own 10 0 l3.length none), (11, .imm (AV.int .i64 i5)), (13, .ptr 1013 0 0), (14, .imm (AV.int .i64 i6)), (15, .imm (AV.bool b5))], [(10, .row 1 l3 false), (1013, .box [.imm (AV.bytes s3), .imm (AV.row 3 l4)])]⟩ = foldBody_L1 R N (fun (i11 : Int) (b8 : Bool) (l5 : List AV) => K .ret ⟨[(10, .own 10 0 l5.length none), (11, .imm (AV.int .i64 i11)), (12, .imm (AV.bool b8))], [(10, .row 1 l5 false)]⟩) (fun (i12 : Int) (l6 : List AV) => K (.exit 0) ⟨[(10, .own 10 0 l6.length none), (11, .imm (AV.int .i64 i12))], [(10, .row 1 l6 false)]⟩) n s2 l2 i5 i6 b5 l3 s3 l4
  | 0, _, _, _, _, _, _, _, _ => rfl
  | n + 1, s2, l2, i5, i6, b5, l3, s3, l4 => (foldBody_L1s_eq R N K (rounds [0, 1, 10, 11, 13, 14, 15] [10, 1013] (evC gl R N foldBody_c0) K n) s2 l2 i5 i6 b5 l3 s3 l4).trans
      (congrArg (fun go => foldBody_L1s R N go (fun (i11 : Int) (b8 : Bool) (l5 : List AV) => K .ret ⟨[(10, .own 10 0 l5.length none), (11, .imm (AV.int .i64 i11)), (12, .imm (AV.bool b8))], [(10, .row 1 l5 false)]⟩) (fun (i12 : Int) (l6 : List AV) => K (.exit 0) ⟨[(10, .own 10 0 l6.length none), (11, .imm (AV.int .i64 i12))], [(10, .row 1 l6 false)]⟩) s2 l2 i5 i6 b5 l3 s3 l4) (funext fun s2 => funext fun l2 => funext fun i5 => funext fun i6 => funext fun b5 => funext fun l3 => funext fun s3 => funext fun l4 => foldBody_L1_eq R N K n s2 l2 i5 i6 b5 l3 s3 l4))
def foldBody_c1 : AC := .seq (.region [.op (some 76) none (.mv (.t 10)), .op (some 77) none (.mv (.t 11)), .op (some 10) none (.mv (.t 76)), .op (some 11) none (.mv (.t 77)), .op (some 12) none (.mv (.k (AV.bool true)))]) (.ret [10, 11, 12] [10])
def foldBody_c2 : AC := .seq (.region [.op (some 9) none (.box 1009 (.t 4) 4), .op (some 10) none (.nilOwn 10 (some (1, .any))), .op (some 11) none (.mv (.k (AV.int .i64 0))), .op (some 12) none (.mv (.k (AV.bool false)))]) (.seq (.region [.op (some 17) none (.mv (.t 0)), .op (some 18) none (.mv (.t 1)), .op (some 19) none (.build [AV.bytes [], AV.row 3 []] [(0, 1, .t 17), (1, 1, .t 18)]), .op (some 13) none (.alloc 1013 [AV.bytes [], AV.row 3 []]), .op none none (.store (.t 13) (.t 19) 2)]) (.seq (.region [.op (some 20) none (.mv (.t 2)), .op (some 21) none (.mx [.k (AV.int .i64 0), .t 20]), .op (some 22) none (.mv (.t 1)), .op (some 23) none (.len (.t 22) false), .op (some 24) none (.mn [.t 21, .t 23]), .op (some 2) none (.mv (.t 24))]) (.seq (.region [.op (some 26) none (.load (.t 13) (some 2) (.agg [.bytes, .row 3])), .op (some 27) none (.mv (.t 2)), .op (some 28) none (.mv (.t 3)), .op (some 29) none (.faddr (.t 9) 3), .op (some 30) none (.load (.t 29) none (.int .i64)), .op (some 31) none (.call id_foldBodyColumn [.t 26, .t 27, .t 28, .t 30] (.tup [.int .i64, .bool])), .op (some 25) none (.mv (.t 31)), .op (some 32) none (.extract (.t 25) 0), .op (some 33) none (.extract (.t 25) 1), .op (some 14) none (.mv (.t 32)), .op (some 15) none (.mv (.t 33))]) (.seq (.seq (.region [.op (some 34) none (.mv (.t 2)), .op (some 11) none (.mv (.t 34))]) (.block 0 (.loop [0, 1, 10, 11, 13, 14, 15] [10, 1013] (foldBody_c0)))) (foldBody_c1)))))
def foldBody : AFunc := ⟨5, 78, [.tmp 10, .tmp 11, .tmp 12], foldBody_c2⟩
def foldBodyr (R : Nat → List AV → Option Res) (N : Nat) (s1 : List UInt8) (l1 : List AV) (i1 : Int) (i2 : Int) (b1 : Bool) (b2 : Bool) (b3 : Bool) (i3 : Int) : Option Res :=
  (R id_foldBodyColumn [AV.agg [AV.bytes s1, AV.row 3 l1], AV.int .i64 (if ((l1.length : Nat) : Int) < (if i1 > 0 then i1 else 0) then ((l1.length : Nat) : Int) else (if i1 > 0 then i1 else 0)), AV.int .i64 i2, AV.int .i64 i3]).bind fun r1 =>
  asIBT r1.v fun i4 b4 =>
  foldBody_L1 R N
    (fun i15 b10 l9 =>
      some ⟨AV.tup [AV.row 1 ((l9.drop 0).take l9.length), AV.int .i64 i15, AV.bool b10], false, []⟩)
    (fun i16 l10 =>
      some ⟨AV.tup [AV.row 1 ((l10.drop 0).take l10.length), AV.int .i64 i16, AV.bool true], false, []⟩)
    N s1 l1 (if ((l1.length : Nat) : Int) < (if i1 > 0 then i1 else 0) then ((l1.length : Nat) : Int) else (if i1 > 0 then i1 else 0)) i4 b4 [] s1 l1
theorem foldBody_eq (R : Nat → List AV → Option Res) (N : Nat) (s1 : List UInt8) (l1 : List AV) (i1 : Int) (i2 : Int) (b1 : Bool) (b2 : Bool) (b3 : Bool) (i3 : Int) : runF gl R N foldBody [AV.bytes s1, AV.row 3 l1, AV.int .i64 i1, AV.int .i64 i2, AV.agg [AV.bool b1, AV.bool b2, AV.bool b3, AV.int .i64 i3]] = foldBodyr R N s1 l1 i1 i2 b1 b2 b3 i3 := by
  refine Eq.trans (b :=
      (R id_foldBodyColumn [AV.agg [AV.bytes s1, AV.row 3 l1], AV.int .i64 (if ((l1.length : Nat) : Int) < (if i1 > 0 then i1 else 0) then ((l1.length : Nat) : Int) else (if i1 > 0 then i1 else 0)), AV.int .i64 i2, AV.int .i64 i3]).bind fun r1 =>
      asIBT r1.v fun i4 b4 =>
      rounds [0, 1, 10, 11, 13, 14, 15] [10, 1013] (evC gl R N foldBody_c0) (Kblock 0 (Kthen gl R N foldBody_c1 (Kret foldBody.rets))) N ⟨[(0, .imm (AV.bytes s1)), (1, .imm (AV.row 3 l1)), (10, .own 10 0 (([] : List AV).length) none), (11, .imm (AV.int .i64 (if ((l1.length : Nat) : Int) < (if i1 > 0 then i1 else 0) then ((l1.length : Nat) : Int) else (if i1 > 0 then i1 else 0)))), (13, .ptr 1013 0 0), (14, .imm (AV.int .i64 i4)), (15, .imm (AV.bool b4))], [(10, .row 1 [] false), (1013, .box [.imm (AV.bytes s1), .imm (AV.row 3 l1)])]⟩) (by kernel_rfl) ?_
  simp (config := { maxSteps := 100000000 }) only [foldBody_L1_eq]
  kernel_rfl
theorem foldBody_fit : fitF Tryd.prog foldBody Tryd.f9 = true := by
  kernel_rfl

def keepSameString_L1s (R : Nat → List AV → Option Res) (N : Nat) (go : List AV → List AV → Int → Option Res) (k0 : Bool → Option Res) (k1 : Option Res) (l3 : List AV) (l4 : List AV) (i1 : Int) : Option Res :=
  bif decide ((i1 : Int) < ((l3.length : Nat) : Int)) then
    (need (decide (0 ≤ (i1 : Int))) <|
    (l3[Int.toNat i1]?).bind fun e1 =>
    asS e1 fun s1 =>
    need (decide (0 ≤ (i1 : Int))) <|
    (l4[Int.toNat i1]?).bind fun e2 =>
    asS e2 fun s2 =>
    bif !(s1 == s2) then
      (k0 false)
    else
      go l3 l4 (IntKind.i64.wrap (i1 + 1)))
  else
    k1
def keepSameString_L1 (R : Nat → List AV → Option Res) (N : Nat) (k0 : Bool → Option Res) (k1 : Option Res) : Nat → List AV → List AV → Int → Option Res
  | 0, _, _, _ => none
  | n + 1, l3, l4, i1 => keepSameString_L1s R N (keepSameString_L1 R N k0 k1 n) k0 k1 l3 l4 i1
def keepSameString_c0 : AC := .seq (.seq (.region [.op (some 11) none (.mv (.t 5)), .op (some 12) none (.mv (.t 0)), .op (some 13) none (.len (.t 12) false), .op (some 14) none (.bin .lss (.t 11) (.t 13))]) (.cond (.t 14) (.skip) (.exit 0 [] []))) (.seq (.block 1 (.seq (.regionD [0, 1, 5, 25] [] [.op (some 17) none (.mv (.t 0)), .op (some 18) none (.mv (.t 5)), .op (some 19) none (.iaddr (.t 17) (.t 18) 1 (.str)), .op (some 20) none (.load (.t 19) none (.str)), .op (some 21) none (.mv (.t 1)), .op (some 22) none (.mv (.t 5)), .op (some 23) none (.iaddr (.t 21) (.t 22) 1 (.str)), .op (some 24) none (.load (.t 23) none (.str)), .op (some 25) none (.bin .neq (.t 20) (.t 24))] []) (.cond (.t 25) (.seq (.region [.op (some 4) none (.mv (.k (AV.bool false)))]) (.ret [4] [])) (.skip)))) (.region [.op (some 15) none (.mv (.t 5)), .op (some 16) none (.bin .add (.t 15) (.k (AV.int .i64 1))), .op (some 5) none (.mv (.t 16))]))
theorem keepSameString_L1s_eq (R : Nat → List AV → Option Res) (N : Nat) (K : Ex → St → Option Res) (W : St → Option Res) (l3 : List AV) (l4 : List AV) (i1 : Int) :
    evC gl R N keepSameString_c0 (Kseq (fun st' => W (prune [0, 1, 5] [] st')) K) ⟨[(0, .imm (AV.row 1 l3)), (1, .imm (AV.row 1 l4)), (5, .imm (AV.int .i64 i1))], []⟩ =
    keepSameString_L1s R N (fun (l3 : List AV) (l4 : List AV) (i1 : Int) => W ⟨[(0, .imm (AV.row 1 l3)), (1, .imm (AV.row 1 l4)), (5, .imm (AV.int .i64 i1))], []⟩) (fun (b1 : Bool) => K .ret ⟨[(4, .imm (AV.bool b1))], []⟩) (K (.exit 0) ⟨[], []⟩) l3 l4 i1 := by
  kernel_rfl
theorem keepSameString_L1_eq (R : Nat → List AV → Option Res) (N : Nat) (K : Ex → St → Option Res) : ∀ (n : Nat) (l3 : List AV) (l4 : List AV) (i1 : Int),
    rounds [0, 1, 5] [] (evC gl R N keepSameString_c0) K n ⟨[(0, .imm (AV.row 1 l3)), (1, .imm (AV.row 1 l4)), (5, .imm (AV.int .i64 i1))], []⟩ = keepSameString_L1 R N (fun (b1 : Bool) => K .ret ⟨[(4, .imm (AV.bool b1))], []⟩) (K (.exit 0) ⟨[], []⟩) n l3 l4 i1
  | 0, _, _, _ => rfl
  | n + 1, l3, l4, i1 => (keepSameString_L1s_eq R N K (rounds [0, 1, 5] [] (evC gl R N keepSameString_c0) K n) l3 l4 i1).trans
      (congrArg (fun go => keepSameString_L1s R N go (fun (b1 : Bool) => K .ret ⟨[(4, .imm (AV.bool b1))], []⟩) (K (.exit 0) ⟨[], []⟩) l3 l4 i1) (funext fun l3 => funext fun l4 => funext fun i1 => keepSameString_L1_eq R N K n l3 l4 i1))
def keepSameString_c1 : AC := .seq (.region [.op (some 4) none (.mv (.k (AV.bool true)))]) (.ret [4] [])
def keepSameString_c2 : AC := .seq (.region [.op (some 4) none (.mv (.k (AV.bool false)))]) (.seq (.seq (.region [.op (some 6) none (.mv (.t 0)), .op (some 7) none (.len (.t 6) false), .op (some 8) none (.mv (.t 1)), .op (some 9) none (.len (.t 8) false), .op (some 10) none (.bin .neq (.t 7) (.t 9))]) (.cond (.t 10) (.seq (.region [.op (some 4) none (.mv (.k (AV.bool false)))]) (.ret [4] [])) (.skip))) (.seq (.seq (.region [.op (some 5) none (.mv (.k (AV.int .i64 0)))]) (.block 0 (.loop [0, 1, 5] [] (keepSameString_c0)))) (keepSameString_c1)))
def keepSameString : AFunc := ⟨2, 26, [.tmp 4], keepSameString_c2⟩
def keepSameStringr (R : Nat → List AV → Option Res) (N : Nat) (l1 : List AV) (l2 : List AV) : Option Res :=
  bif (((l1.length : Nat) : Int) : Int) != ((l2.length : Nat) : Int) then
    (some ⟨AV.bool false, false, []⟩)
  else
    keepSameString_L1 R N
      (fun b3 =>
        some ⟨AV.bool b3, false, []⟩)
      (
        some ⟨AV.bool true, false, []⟩)
      N l1 l2 0
theorem keepSameString_eq (R : Nat → List AV → Option Res) (N : Nat) (l1 : List AV) (l2 : List AV) : runF gl R N keepSameString [AV.row 1 l1, AV.row 1 l2] = keepSameStringr R N l1 l2 := by
  refine Eq.trans (b :=
      bif (((l1.length : Nat) : Int) : Int) != ((l2.length : Nat) : Int) then
        (some ⟨AV.bool false, false, []⟩)
      else
        rounds [0, 1, 5] [] (evC gl R N keepSameString_c0) (Kblock 0 (Kthen gl R N keepSameString_c1 (Kret keepSameString.rets))) N ⟨[(0, .imm (AV.row 1 l1)), (1, .imm (AV.row 1 l2)), (5, .imm (AV.int .i64 0))], []⟩) (by kernel_rfl) ?_
  simp (config := { maxSteps := 100000000 }) only [keepSameString_L1_eq]
  kernel_rfl
theorem keepSameString_fit : fitF Tryd.prog keepSameString Tryd.f10 = true := by
  kernel_rfl

def law07FoldBlocks_L1s (R : Nat → List AV → Option Res) (N : Nat) (go : List AV → Int → Int → List UInt8 → List UInt8 → Int → Option Res) (k0 : List AV → Int → Int → List UInt8 → List UInt8 → Option Res) (l2 : List AV) (i5 : Int) (i6 : Int) (s1 : List UInt8) (s2 : List UInt8) (i7 : Int) : Option Res :=
  bif decide ((i7 : Int) < i6) then
    (need (decide (s2.length + (([32] : List UInt8) : List UInt8).length ≤ 9223372036854775807)) <|
    go l2 i5 i6 s1 (s2 ++ ([32] : List UInt8)) (IntKind.i64.wrap (i7 + 1)))
  else
    k0 l2 i5 i6 s1 s2
def law07FoldBlocks_L1 (R : Nat → List AV → Option Res) (N : Nat) (k0 : List AV → Int → Int → List UInt8 → List UInt8 → Option Res) : Nat → List AV → Int → Int → List UInt8 → List UInt8 → Int → Option Res
  | 0, _, _, _, _, _, _ => none
  | n + 1, l2, i5, i6, s1, s2, i7 => law07FoldBlocks_L1s R N (law07FoldBlocks_L1 R N k0 n) k0 l2 i5 i6 s1 s2 i7
def law07FoldBlocks_c0 : AC := .seq (.seq (.region [.op (some 37) none (.mv (.t 12)), .op (some 38) none (.mv (.t 9)), .op (some 39) none (.bin .lss (.t 37) (.t 38))]) (.cond (.t 39) (.skip) (.exit 0 [0, 1, 9, 10, 11] []))) (.seq (.block 1 (.region [.op (some 42) none (.mv (.t 11)), .op (some 43) none (.bin .add (.t 42) (.k (AV.str ([32] : List UInt8)))), .op (some 11) none (.mv (.t 43))])) (.region [.op (some 40) none (.mv (.t 12)), .op (some 41) none (.bin .add (.t 40) (.k (AV.int .i64 1))), .op (some 12) none (.mv (.t 41))]))
theorem law07FoldBlocks_L1s_eq (R : Nat → List AV → Option Res) (N : Nat) (K : Ex → St → Option Res) (W : St → Option Res) (l2 : List AV) (i5 : Int) (i6 : Int) (s1 : List UInt8) (s2 : List UInt8) (i7 : Int) :
    evC gl R N law07FoldBlocks_c0 (Kseq (fun st' => W (prune [0, 1, 9, 10, 11, 12] [] st')) K) ⟨[(0, .imm (AV.row 1 l2)), (1, .imm (AV.int .i64 i5)), (9, .imm (AV.int .i64 i6)), (10, .imm (AV.str s1)), (11, .imm (AV.str s2)), (12, .imm (AV.int .i64 i7))], []⟩ =
    law07FoldBlocks_L1s R N (fun (l2 : List AV) (i5 : Int) (i6 : Int) (s1 : List UInt8) (s2 : List UInt8) (i7 : Int) => W ⟨[(0, .imm (AV.row 1 l2)), (1, .imm (AV.int .i64 i5)), (9, .imm (AV.int .i64 i6)), (10, .imm (AV.str s1)), (11, .imm (AV.str s2)), (12, .imm (AV.int .i64 i7))], []⟩) (fun (l3 : List AV) (i8 : Int) (i9 : Int) (s3 : List UInt8) (s4 : List UInt8) => K (.exit 0) ⟨[(0, .imm (AV.row 1 l3)), (1, .imm (AV.int .i64 i8)), (9, .imm (AV.int .i64 i9)), (10, .imm (AV.str s3)), (11, .imm (AV.str s4))], []⟩) l2 i5 i6 s1 s2 i7 := by
  kernel_rfl
theorem law07FoldBlocks_L1_eq (R : Nat → List AV → Option Res) (N : Nat) (K : Ex → St → Option Res) : ∀ (n : Nat) (l2 : List AV) (i5 : Int) (i6 : Int) (s1 : List UInt8) (s2 : List UInt8) (i7 : Int),
    rounds [0, 1, 9, 10, 11, 12] [] (evC gl R N law07FoldBlocks_c0) K n ⟨[(0, .imm (AV.row 1 l2)), (1, .imm (AV.int .i64 i5)), (9, .imm (AV.int .i64 i6)), (10, .imm (AV.str s1)), (11, .imm (AV.str s2)), (12, .imm (AV.int .i64 i7))], []⟩ = law07FoldBlocks_L1 R N (fun (l3 : List AV) (i8 : Int) (i9 : Int) (s3 : List UInt8) (s4 : List UInt8) => K (.exit 0) ⟨[(0, .imm (AV.row 1 l3)), (1, .imm (AV.int .i64 i8)), (9, .imm (AV.int .i64 i9)), (10, .imm (AV.str s3)), (11, .imm (AV.str s4))], []⟩) n l2 i5 i6 s1 s2 i7
  | 0, _, _, _, _, _, _ => rfl
  | n + 1, l2, i5, i6, s1, s2, i7 => (law07FoldBlocks_L1s_eq R N K (rounds [0, 1, 9, 10, 11, 12] [] (evC gl R N law07FoldBlocks_c0) K n) l2 i5 i6 s1 s2 i7).trans
      (congrArg (fun go => law07FoldBlocks_L1s R N go (fun (l3 : List AV) (i8 : Int) (i9 : Int) (s3 : List UInt8) (s4 : List UInt8) => K (.exit 0) ⟨[(0, .imm (AV.row 1 l3)), (1, .imm (AV.int .i64 i8)), (9, .imm (AV.int .i64 i9)), (10, .imm (AV.str s3)), (11, .imm (AV.str s4))], []⟩) l2 i5 i6 s1 s2 i7) (funext fun l2 => funext fun i5 => funext fun i6 => funext fun s1 => funext fun s2 => funext fun i7 => law07FoldBlocks_L1_eq R N K n l2 i5 i6 s1 s2 i7))
def law07FoldBlocks_L3s (R : Nat → List AV → Option Res) (N : Nat) (go : List AV → Int → Int → List UInt8 → List UInt8 → List UInt8 → Int → List UInt8 → List UInt8 → Int → Int → List AV → Option Res) (k0 : List AV → Int → Int → List UInt8 → List UInt8 → List UInt8 → Int → List UInt8 → List AV → Option Res) (l8 : List AV) (i17 : Int) (i18 : Int) (s14 : List UInt8) (s15 : List UInt8) (s16 : List UInt8) (i19 : Int) (s17 : List UInt8) (s18 : List UInt8) (i20 : Int) (i21 : Int) (l9 : List AV) : Option Res :=
  bif decide ((i21 : Int) < i20) then
    (need (decide (0 ≤ (i21 : Int))) <|
    (s18[Int.toNat i21]?).bind fun c1 =>
    bif ((c1.toNat : Int) : Int) != 10 then
      (bif ((c1.toNat : Int) : Int) != 13 then
        (bif ((c1.toNat : Int) : Int) != 32 then
          (need (decide (0 ≤ ((c1.toNat : Int) : Int)) && decide (((c1.toNat : Int) : Int) < 256)) <|
          need (decide (s17.length + ([UInt8.ofNat (Int.toNat (c1.toNat : Int))] : List UInt8).length ≤ 9223372036854775807)) <|
          go l8 i17 i18 s14 s15 s16 i19 (s17 ++ [UInt8.ofNat (Int.toNat (c1.toNat : Int))]) s18 i20 (IntKind.i64.wrap (i21 + 1)) l9)
        else
          bif !(s17 == ([] : List UInt8)) then
            (need (decide (0 ≤ ((c1.toNat : Int) : Int)) && decide (((c1.toNat : Int) : Int) < 256)) <|
            need (decide (s17.length + ([UInt8.ofNat (Int.toNat (c1.toNat : Int))] : List UInt8).length ≤ 9223372036854775807)) <|
            go l8 i17 i18 s14 s15 s16 i19 (s17 ++ [UInt8.ofNat (Int.toNat (c1.toNat : Int))]) s18 i20 (IntKind.i64.wrap (i21 + 1)) l9)
          else
            go l8 i17 i18 s14 s15 s16 i19 s17 s18 i20 (IntKind.i64.wrap (i21 + 1)) l9)
      else
        go l8 i17 i18 s14 s15 s16 i19 s17 s18 i20 (IntKind.i64.wrap (i21 + 1)) l9)
    else
      go l8 i17 i18 s14 s15 s16 i19 s17 s18 i20 (IntKind.i64.wrap (i21 + 1)) l9)
  else
    k0 l8 i17 i18 s14 s15 s16 i19 s17 l9
def law07FoldBlocks_L3 (R : Nat → List AV → Option Res) (N : Nat) (k0 : List AV → Int → Int → List UInt8 → List UInt8 → List UInt8 → Int → List UInt8 → List AV → Option Res) : Nat → List AV → Int → Int → List UInt8 → List UInt8 → List UInt8 → Int → List UInt8 → List UInt8 → Int → Int → List AV → Option Res
  | 0, _, _, _, _, _, _, _, _, _, _, _, _ => none
  | n + 1, l8, i17, i18, s14, s15, s16, i19, s17, s18, i20, i21, l9 => law07FoldBlocks_L3s R N (law07FoldBlocks_L3 R N k0 n) k0 l8 i17 i18 s14 s15 s16 i19 s17 s18 i20 i21 l9
def law07FoldBlocks_c1 : AC := .seq (.region [.op (some 62) none (.bin .lss (.t 61) (.t 60))]) (.seq (.cond (.t 62) (.skip) (.exit 4 [0, 1, 9, 10, 11, 13, 14, 15, 16] [13])) (.seq (.block 5 (.seq (.region [.op (some 63) none (.iaddr (.t 59) (.t 61) 1 (.int .u8)), .op (some 64) none (.load (.t 63) none (.int .u8)), .op (some 18) none (.mv (.t 64))]) (.seq (.region [.op (some 65) none (.mv (.t 18)), .op (some 66) none (.bin .neq (.t 65) (.k (AV.int .u8 10))), .op (some 67) none (.mv (.t 66)), .split 67, .op (some 68) (some (67, true)) (.mv (.t 18)), .op (some 69) (some (67, true)) (.bin .neq (.t 68) (.k (AV.int .u8 13))), .op (some 70) none (.pick (.t 67) (.t 69) (.k (AV.bool false))), .op (some 71) none (.mv (.t 70)), .split 71, .op (some 72) (some (71, true)) (.mv (.t 18)), .op (some 73) (some (71, true)) (.bin .neq (.t 72) (.k (AV.int .u8 32))), .op (some 74) (some (71, true)) (.mv (.t 73)), .split 74, .op (some 75) (some (74, false)) (.mv (.t 16)), .op (some 76) (some (74, false)) (.bin .neq (.t 75) (.k (AV.str ([] : List UInt8)))), .op (some 77) (some (71, true)) (.pick (.t 74) (.k (AV.bool true)) (.t 76)), .op (some 78) none (.pick (.t 71) (.t 77) (.k (AV.bool false)))]) (.cond (.t 78) (.region [.op (some 79) none (.mv (.t 16)), .op (some 80) none (.mv (.t 18)), .op (some 81) none (.bslice [.t 80] 1 true), .op (some 82) none (.cvStr (.t 81)), .op (some 83) none (.bin .add (.t 79) (.t 82)), .op (some 16) none (.mv (.t 83))]) (.skip))))) (.region [.op (some 84) none (.bin .add (.t 61) (.k (AV.int .i64 1))), .op (some 61) none (.mv (.t 84))])))
theorem law07FoldBlocks_L3s_eq (R : Nat → List AV → Option Res) (N : Nat) (K : Ex → St → Option Res) (W : St → Option Res) (l8 : List AV) (i17 : Int) (i18 : Int) (s14 : List UInt8) (s15 : List UInt8) (s16 : List UInt8) (i19 : Int) (s17 : List UInt8) (s18 : List UInt8) (i20 : Int) (i21 : Int) (l9 : List AV) :
    evC gl R N law07FoldBlocks_c1 (Kseq (fun st' => W (prune [0, 1, 9, 10, 11, 13, 14, 15, 16, 59, 60, 61] [13] st')) K) ⟨[(0, .imm (AV.row 1 l8)), (1, .imm (AV.int .i64 i17)), (9, .imm (AV.int .i64 i18)), (10, .imm (AV.str s14)), (11, .imm (AV.str s15)), (13, .own 13 0 l9.length none), (14, .imm (AV.str s16)), (15, .imm (AV.int .i64 i19)), (16, .imm (AV.str s17)), (59, .imm (AV.bytes s18)), (60, .imm (AV.int .i64 i20)), (61, .imm (AV.int .i64 i21))], [(13, .row 1 l9 false)]⟩ =
    law07FoldBlocks_L3s R N (fun (l8 : List AV) (i17 : Int) (i18 : Int) (s14 : List UInt8) (s15 : List UInt8) (s16 : List UInt8) (i19 : Int) (s17 : List UInt8) (s18 : List UInt8) (i20 : Int) (i21 : Int) (l9 : List AV) => W ⟨[(0, .imm (AV.row 1 l8)), (1, .imm (AV.int .i64 i17)), (9, .imm (AV.int .i64 i18)), (10, .imm (AV.str s14)), (11, .imm (AV.str s15)), (13, .own 13 0 l9.length none), (14, .imm (AV.str s16)), (15, .imm (AV.int .i64 i19)), (16, .imm (AV.str s17)), (59, .imm (AV.bytes s18)), (60, .imm (AV.int .i64 i20)), (61, .imm (AV.int .i64 i21))], [(13, .row 1 l9 false)]⟩) (fun (l10 : List AV) (i22 : Int) (i23 : Int) (s19 : List UInt8) (s20 : List UInt8) (s21 : List UInt8) (i24 : Int) (s22 : List UInt8) (l11 : List AV) => K (.exit 4) ⟨[(0, .imm (AV.row 1 l10)), (1, .imm (AV.int .i64 i22)), (9, .imm (AV.int .i64 i23)), (10, .imm (AV.str s19)), (11, .imm (AV.str s20)), (13, .own 13 0 l11.length none), (14, .imm (AV.str s21)), (15, .imm (AV.int .i64 i24)), (16, .imm (AV.str s22))], [(13, .row 1 l11 false)]⟩) l8 i17 i18 s14 s15 s16 i19 s17 s18 i20 i21 l9 := by
  kernel_rfl
theorem law07FoldBlocks_L3_eq (R : Nat → List AV → Option Res) (N : Nat) (K : Ex → St → Option Res) : ∀ (n : Nat) (l8 : List AV) (i17 : Int) (i18 : Int) (s14 : List UInt8) (s15 : List UInt8) (s16 : List UInt8) (i19 : Int) (s17 : List UInt8) (s18 : List UInt8) (i20 : Int) (i21 : Int) (l9 : List AV),
    rounds [0, 1, 9, 10, 11, 13, 14, 15, 16, 59, 60, 61] [13] (evC gl R N law07FoldBlocks_c1) K n ⟨[(0, .imm (AV.row 1 l8)), (1, .imm (AV.int .i64 i17)), (9, .imm (AV.int .i64 i18)), (10, .imm (AV.str s14)), (11, .imm (AV.str s15)), (13, .own 13 0 l9.length none), (14, .imm (AV.str s16)), (15, .imm (AV.int .i64 i19)), (16, .imm (AV.str s17)), (59, .imm (AV.bytes s18)), (60, .imm (AV.int .i64 i20)), (61, .imm (AV.int .i64 i21))], [(13, .row 1 l9 false)]⟩ = law07FoldBlocks_L3 R N (fun (l10 : List AV) (i22 : Int) (i23 : Int) (s19 : List UInt8) (s20 : List UInt8) (s21 : List UInt8) (i24 : Int) (s22 : List UInt8) (l11 : List AV) => K (.exit 4) ⟨[(0, .imm (AV.row 1 l10)), (1, .imm (AV.int .i64 i22)), (9, .imm (AV.int .i64 i23)), (10, .imm (AV.str s19)), (11, .imm (AV.str s20)), (13, .own 13 0 l11.length none), (14, .imm (AV.str s21)), (15, .imm (AV.int .i64 i24)), (16, .imm (AV.str s22))], [(13, .row 1 l11 false)]⟩) n l8 i17 i18 s14 s15 s16 i19 s17 s18 i20 i21 l9
  | 0, _, _, _, _, _, _, _, _, _, _, _, _ => rfl
  | n + 1, l8, i17, i18, s14, s15, s16, i19, s17, s18, i20, i21, l9 => (law07FoldBlocks_L3s_eq R N K (rounds [0, 1, 9, 10, 11, 13, 14, 15, 16, 59, 60, 61] [13] (evC gl R N law07FoldBlocks_c1) K n) l8 i17 i18 s14 s15 s16 i19 s17 s18 i20 i21 l9).trans
      (congrArg (fun go => law07FoldBlocks_L3s R N go (fun (l10 : List AV) (i22 : Int) (i23 : Int) (s19 : List UInt8) (s20 : List UInt8) (s21 : List UInt8) (i24 : Int) (s22 : List UInt8) (l11 : List AV) => K (.exit 4) ⟨[(0, .imm (AV.row 1 l10)), (1, .imm (AV.int .i64 i22)), (9, .imm (AV.int .i64 i23)), (10, .imm (AV.str s19)), (11, .imm (AV.str s20)), (13, .own 13 0 l11.length none), (14, .imm (AV.str s21)), (15, .imm (AV.int .i64 i24)), (16, .imm (AV.str s22))], [(13, .row 1 l11 false)]⟩) l8 i17 i18 s14 s15 s16 i19 s17 s18 i20 i21 l9) (funext fun l8 => funext fun i17 => funext fun i18 => funext fun s14 => funext fun s15 => funext fun s16 => funext fun i19 => funext fun s17 => funext fun s18 => funext fun i20 => funext fun i21 => funext fun l9 => law07FoldBlocks_L3_eq R N K n l8 i17 i18 s14 s15 s16 i19 s17 s18 i20 i21 l9))
def law07FoldBlocks_L4s (R : Nat → List AV → Option Res) (N : Nat) (go : List AV → Int → Int → List UInt8 → List UInt8 → List UInt8 → Int → List UInt8 → List AV → Option Res) (k0 : List AV → Int → Int → List UInt8 → List UInt8 → List UInt8 → Int → List UInt8 → List AV → Option Res) (l16 : List AV) (i31 : Int) (i32 : Int) (s31 : List UInt8) (s32 : List UInt8) (s33 : List UInt8) (i33 : Int) (s34 : List UInt8) (l17 : List AV) : Option Res :=
  bif decide ((((s34.length : Nat) : Int) : Int) > 0) then
    (need (decide (0 ≤ (IntKind.i64.wrap (((s34.length : Nat) : Int) - 1) : Int))) <|
    (s34[Int.toNat (IntKind.i64.wrap (((s34.length : Nat) : Int) - 1))]?).bind fun c2 =>
    bif ((c2.toNat : Int) : Int) == 32 then
      (need (decide (0 ≤ (IntKind.i64.wrap (((s34.length : Nat) : Int) - 1) : Int)) && decide ((IntKind.i64.wrap (((s34.length : Nat) : Int) - 1) : Int) ≤ ((s34.length : Nat) : Int))) <|
      go l16 i31 i32 s31 s32 s33 i33 ((s34.take (Int.toNat (IntKind.i64.wrap (((s34.length : Nat) : Int) - 1)))).drop 0) l17)
    else
      k0 l16 i31 i32 s31 s32 s33 i33 s34 l17)
  else
    k0 l16 i31 i32 s31 s32 s33 i33 s34 l17
def law07FoldBlocks_L4 (R : Nat → List AV → Option Res) (N : Nat) (k0 : List AV → Int → Int → List UInt8 → List UInt8 → List UInt8 → Int → List UInt8 → List AV → Option Res) : Nat → List AV → Int → Int → List UInt8 → List UInt8 → List UInt8 → Int → List UInt8 → List AV → Option Res
  | 0, _, _, _, _, _, _, _, _, _ => none
  | n + 1, l16, i31, i32, s31, s32, s33, i33, s34, l17 => law07FoldBlocks_L4s R N (law07FoldBlocks_L4 R N k0 n) k0 l16 i31 i32 s31 s32 s33 i33 s34 l17
def law07FoldBlocks_c2 : AC := .seq (.seq (.region [.op (some 85) none (.mv (.t 16)), .op (some 86) none (.len (.t 85) true), .op (some 87) none (.bin .gtr (.t 86) (.k (AV.int .i64 0))), .op (some 88) none (.mv (.t 87)), .split 88, .op (some 89) (some (88, true)) (.mv (.t 16)), .op (some 90) (some (88, true)) (.mv (.t 16)), .op (some 91) (some (88, true)) (.len (.t 90) true), .op (some 92) (some (88, true)) (.bin .sub (.t 91) (.k (AV.int .i64 1))), .op (some 93) (some (88, true)) (.index (.t 89) (.t 92)), .op (some 94) (some (88, true)) (.bin .eql (.t 93) (.k (AV.int .u8 32))), .op (some 95) none (.pick (.t 88) (.t 94) (.k (AV.bool false)))]) (.cond (.t 95) (.skip) (.exit 6 [0, 1, 9, 10, 11, 13, 14, 15, 16] [13]))) (.block 7 (.region [.op (some 96) none (.mv (.t 16)), .op (some 97) none (.mv (.t 16)), .op (some 98) none (.len (.t 97) true), .op (some 99) none (.bin .sub (.t 98) (.k (AV.int .i64 1))), .op (some 100) none (.sliceS (.t 96) none (some (.t 99))), .op (some 16) none (.mv (.t 100))]))
theorem law07FoldBlocks_L4s_eq (R : Nat → List AV → Option Res) (N : Nat) (K : Ex → St → Option Res) (W : St → Option Res) (l16 : List AV) (i31 : Int) (i32 : Int) (s31 : List UInt8) (s32 : List UInt8) (s33 : List UInt8) (i33 : Int) (s34 : List UInt8) (l17 : List AV) :
    evC gl R N law07FoldBlocks_c2 (Kseq (fun st' => W (prune [0, 1, 9, 10, 11, 13, 14, 15, 16] [13] st')) K) ⟨[(0, .imm (AV.row 1 l16)), (1, .imm (AV.int .i64 i31)), (9, .imm (AV.int .i64 i32)), (10, .imm (AV.str s31)), (11, .imm (AV.str s32)), (13, .own 13 0 l17.length none), (14, .imm (AV.str s33)), (15, .imm (AV.int .i64 i33)), (16, .imm (AV.str s34))], [(13, .row 1 l17 false)]⟩ =
    law07FoldBlocks_L4s R N (fun (l16 : List AV) (i31 : Int) (i32 : Int) (s31 : List UInt8) (s32 : List UInt8) (s33 : List UInt8) (i33 : Int) (s34 : List UInt8) (l17 : List AV) => W ⟨[(0, .imm (AV.row 1 l16)), (1, .imm (AV.int .i64 i31)), (9, .imm (AV.int .i64 i32)), (10, .imm (AV.str s31)), (11, .imm (AV.str s32)), (13, .own 13 0 l17.length none), (14, .imm (AV.str s33)), (15, .imm (AV.int .i64 i33)), (16, .imm (AV.str s34))], [(13, .row 1 l17 false)]⟩) (fun (l18 : List AV) (i34 : Int) (i35 : Int) (s35 : List UInt8) (s36 : List UInt8) (s37 : List UInt8) (i36 : Int) (s38 : List UInt8) (l19 : List AV) => K (.exit 6) ⟨[(0, .imm (AV.row 1 l18)), (1, .imm (AV.int .i64 i34)), (9, .imm (AV.int .i64 i35)), (10, .imm (AV.str s35)), (11, .imm (AV.str s36)), (13, .own 13 0 l19.length none), (14, .imm (AV.str s37)), (15, .imm (AV.int .i64 i36)), (16, .imm (AV.str s38))], [(13, .row 1 l19 false)]⟩) l16 i31 i32 s31 s32 s33 i33 s34 l17 := by
  kernel_rfl
theorem law07FoldBlocks_L4_eq (R : Nat → List AV → Option Res) (N : Nat) (K : Ex → St → Option Res) : ∀ (n : Nat) (l16 : List AV) (i31 : Int) (i32 : Int) (s31 : List UInt8) (s32 : List UInt8) (s33 : List UInt8) (i33 : Int) (s34 : List UInt8) (l17 : List AV),
    rounds [0, 1, 9, 10, 11, 13, 14, 15, 16] [13] (evC gl R N law07FoldBlocks_c2) K n ⟨[(0, .imm (AV.row 1 l16)), (1, .imm (AV.int .i64 i31)), (9, .imm (AV.int .i64 i32)), (10, .imm (AV.str s31)), (11, .imm (AV.str s32)), (13, .own 13 0 l17.length none), (14, .imm (AV.str s33)), (15, .imm (AV.int .i64 i33)), (16, .imm (AV.str s34))], [(13, .row 1 l17 false)]⟩ = law07FoldBlocks_L4 R N (fun (l18 : List AV) (i34 : Int) (i35 : Int) (s35 : List UInt8) (s36 : List UInt8) (s37 : List UInt8) (i36 : Int) (s38 : List UInt8) (l19 : List AV) => K (.exit 6) ⟨[(0, .imm (AV.row 1 l18)), (1, .imm (AV.int .i64 i34)), (9, .imm (AV.int .i64 i35)), (10, .imm (AV.str s35)), (11, .imm (AV.str s36)), (13, .own 13 0 l19.length none), (14, .imm (AV.str s37)), (15, .imm (AV.int .i64 i36)), (16, .imm (AV.str s38))], [(13, .row 1 l19 false)]⟩) n l16 i31 i32 s31 s32 s33 i33 s34 l17
  | 0, _, _, _, _, _, _, _, _, _ => rfl
  | n + 1, l16, i31, i32, s31, s32, s33, i33, s34, l17 => (law07FoldBlocks_L4s_eq R N K (rounds [0, 1, 9, 10, 11, 13, 14, 15, 16] [13] (evC gl R N law07FoldBlocks_c2) K n) l16 i31 i32 s31 s32 s33 i33 s34 l17).trans
      (congrArg (fun go => law07FoldBlocks_L4s R N go (fun (l18 : List AV) (i34 : Int) (i35 : Int) (s35 : List UInt8) (s36 : List UInt8) (s37 : List UInt8) (i36 : Int) (s38 : List UInt8) (l19 : List AV) => K (.exit 6) ⟨[(0, .imm (AV.row 1 l18)), (1, .imm (AV.int .i64 i34)), (9, .imm (AV.int .i64 i35)), (10, .imm (AV.str s35)), (11, .imm (AV.str s36)), (13, .own 13 0 l19.length none), (14, .imm (AV.str s37)), (15, .imm (AV.int .i64 i36)), (16, .imm (AV.str s38))], [(13, .row 1 l19 false)]⟩) l16 i31 i32 s31 s32 s33 i33 s34 l17) (funext fun l16 => funext fun i31 => funext fun i32 => funext fun s31 => funext fun s32 => funext fun s33 => funext fun i33 => funext fun s34 => funext fun l17 => law07FoldBlocks_L4_eq R N K n l16 i31 i32 s31 s32 s33 i33 s34 l17))
def law07FoldBlocks_L2s (R : Nat → List AV → Option Res) (N : Nat) (go : List AV → Int → Int → List UInt8 → List UInt8 → List UInt8 → Int → List AV → Option Res) (k0 : Int → Int → List UInt8 → List UInt8 → List AV → Option Res) (l6 : List AV) (i14 : Int) (i15 : Int) (s9 : List UInt8) (s10 : List UInt8) (s11 : List UInt8) (i16 : Int) (l7 : List AV) : Option Res :=
  bif decide ((i16 : Int) < ((l6.length : Nat) : Int)) then
    (bif decide ((i16 : Int) < 6) then
      (need (decide (0 ≤ (i16 : Int))) <|
      (l6[Int.toNat i16]?).bind fun e1 =>
      asS e1 fun s12 =>
      (R id_keepText [AV.str s12, AV.int .i64 12]).bind fun r3 =>
      asS r3.v fun s13 =>
      law07FoldBlocks_L3 R N
        (fun l14 i28 i29 s27 s28 s29 i30 s30 l15 =>
          law07FoldBlocks_L4 R N
            (fun l22 i40 i41 s43 s44 s45 i42 s46 l23 =>
              bif (i42 : Int) == 0 then
                (need (decide ((([120] : List UInt8) : List UInt8).length + s46.length ≤ 9223372036854775807)) <|
                need (decide (((l23.drop 0).take l23.length).length + [AV.str (([120] : List UInt8) ++ s46)].length ≤ 1099511627776)) <|
                bif !((([120] : List UInt8) ++ s46) == ([] : List UInt8)) then
                  (need (decide (s44.length + (([120] : List UInt8) ++ s46 : List UInt8).length ≤ 9223372036854775807)) <|
                  need (decide (s45.length + (s44 ++ (([120] : List UInt8) ++ s46)).length ≤ 9223372036854775807)) <|
                  need (decide ((s45 ++ (s44 ++ (([120] : List UInt8) ++ s46))).length + s43.length ≤ 9223372036854775807)) <|
                  go l22 i40 i41 s43 s44 ((s45 ++ (s44 ++ (([120] : List UInt8) ++ s46))) ++ s43) (IntKind.i64.wrap (i42 + 1)) (((l23.drop 0).take l23.length) ++ [AV.str (([120] : List UInt8) ++ s46)]))
                else
                  need (decide (s45.length + s43.length ≤ 9223372036854775807)) <|
                  go l22 i40 i41 s43 s44 (s45 ++ s43) (IntKind.i64.wrap (i42 + 1)) (((l23.drop 0).take l23.length) ++ [AV.str (([120] : List UInt8) ++ s46)]))
              else
                need (decide (((l23.drop 0).take l23.length).length + [AV.str s46].length ≤ 1099511627776)) <|
                bif !(s46 == ([] : List UInt8)) then
                  (need (decide (s44.length + s46.length ≤ 9223372036854775807)) <|
                  need (decide (s45.length + (s44 ++ s46).length ≤ 9223372036854775807)) <|
                  need (decide ((s45 ++ (s44 ++ s46)).length + s43.length ≤ 9223372036854775807)) <|
                  go l22 i40 i41 s43 s44 ((s45 ++ (s44 ++ s46)) ++ s43) (IntKind.i64.wrap (i42 + 1)) (((l23.drop 0).take l23.length) ++ [AV.str s46]))
                else
                  need (decide (s45.length + s43.length ≤ 9223372036854775807)) <|
                  go l22 i40 i41 s43 s44 (s45 ++ s43) (IntKind.i64.wrap (i42 + 1)) (((l23.drop 0).take l23.length) ++ [AV.str s46]))
            N l14 i28 i29 s27 s28 s29 i30 s30 l15)
        N l6 i14 i15 s9 s10 s11 i16 ([] : List UInt8) s13 ((s13.length : Nat) : Int) 0 l7)
    else
      k0 i14 i15 s9 s11 l7)
  else
    k0 i14 i15 s9 s11 l7
def law07FoldBlocks_L2 (R : Nat → List AV → Option Res) (N : Nat) (k0 : Int → Int → List UInt8 → List UInt8 → List AV → Option Res) : Nat → List AV → Int → Int → List UInt8 → List UInt8 → List UInt8 → Int → List AV → Option Res
  | 0, _, _, _, _, _, _, _, _ => none
  | n + 1, l6, i14, i15, s9, s10, s11, i16, l7 => law07FoldBlocks_L2s R N (law07FoldBlocks_L2 R N k0 n) k0 l6 i14 i15 s9 s10 s11 i16 l7
def law07FoldBlocks_c3 : AC := .seq (.seq (.region [.op (some 101) none (.mv (.t 15)), .op (some 102) none (.bin .eql (.t 101) (.k (AV.int .i64 0)))]) (.cond (.t 102) (.region [.op (some 103) none (.mv (.t 16)), .op (some 104) none (.bin .add (.k (AV.str ([120] : List UInt8))) (.t 103)), .op (some 16) none (.mv (.t 104))]) (.skip))) (.seq (.region [.op (some 105) none (.mv (.t 13)), .op (some 106) none (.mv (.t 16)), .op (some 107) none (.bslice [.t 106] 1 false), .op (some 108) none (.app 13 (.t 105) (.t 107) 1 .any false), .op (some 13) none (.mv (.t 108))]) (.seq (.seq (.region [.op (some 109) none (.mv (.t 16)), .op (some 110) none (.bin .neq (.t 109) (.k (AV.str ([] : List UInt8))))]) (.cond (.t 110) (.region [.op (some 111) none (.mv (.t 14)), .op (some 112) none (.mv (.t 11)), .op (some 113) none (.mv (.t 16)), .op (some 114) none (.bin .add (.t 112) (.t 113)), .op (some 115) none (.bin .add (.t 111) (.t 114)), .op (some 14) none (.mv (.t 115))]) (.skip))) (.region [.op (some 116) none (.mv (.t 14)), .op (some 117) none (.mv (.t 10)), .op (some 118) none (.bin .add (.t 116) (.t 117)), .op (some 14) none (.mv (.t 118))])))
def law07FoldBlocks_c4 : AC := .region [.op (some 52) none (.mv (.t 15)), .op (some 53) none (.bin .add (.t 52) (.k (AV.int .i64 1))), .op (some 15) none (.mv (.t 53))]
def law07FoldBlocks_c5 : AC := .seq (.block 6 (.loop [0, 1, 9, 10, 11, 13, 14, 15, 16] [13] (law07FoldBlocks_c2))) (law07FoldBlocks_c3)
def law07FoldBlocks_c6 : AC := .seq (.seq (.region [.op (some 44) none (.mv (.t 15)), .op (some 45) none (.mv (.t 0)), .op (some 46) none (.len (.t 45) false), .op (some 47) none (.bin .lss (.t 44) (.t 46)), .op (some 48) none (.mv (.t 47)), .split 48, .op (some 49) (some (48, true)) (.mv (.t 15)), .op (some 50) (some (48, true)) (.bin .lss (.t 49) (.k (AV.int .i64 6))), .op (some 51) none (.pick (.t 48) (.t 50) (.k (AV.bool false)))]) (.cond (.t 51) (.skip) (.exit 2 [1, 9, 10, 13, 14] [13]))) (.seq (.block 3 (.seq (.region [.op (some 16) none (.mv (.k (AV.str ([] : List UInt8))))]) (.seq (.seq (.region [.op (some 54) none (.mv (.t 0)), .op (some 55) none (.mv (.t 15)), .op (some 56) none (.iaddr (.t 54) (.t 55) 1 (.str)), .op (some 57) none (.load (.t 56) none (.str)), .op (some 58) none (.call id_keepText [.t 57, .k (AV.int .i64 12)] (.str)), .op (some 59) none (.cvBytes (.t 58)), .op (some 60) none (.len (.t 59) false), .op (some 61) none (.mv (.k (AV.int .i64 0)))]) (.block 4 (.loop [0, 1, 9, 10, 11, 13, 14, 15, 16, 59, 60, 61] [13] (law07FoldBlocks_c1)))) (law07FoldBlocks_c5)))) (law07FoldBlocks_c4))
theorem law07FoldBlocks_L2s_eq (R : Nat → List AV → Option Res) (N : Nat) (K : Ex → St → Option Res) (W : St → Option Res) (l6 : List AV) (i14 : Int) (i15 : Int) (s9 : List UInt8) (s10 : List UInt8) (s11 : List UInt8) (i16 : Int) (l7 : List AV) :
    evC gl R N law07FoldBlocks_c6 (Kseq (fun st' => W (prune [0, 1, 9, 10, 11, 13, 14, 15] [13] st')) K) ⟨[(0, .imm (AV.row 1 l6)), (1, .imm (AV.int .i64 i14)), (9, .imm (AV.int .i64 i15)), (10, .imm (AV.str s9)), (11, .imm (AV.str s10)), (13, .own 13 0 l7.length none), (14, .imm (AV.str s11)), (15, .imm (AV.int .i64 i16))], [(13, .row 1 l7 false)]⟩ =
    law07FoldBlocks_L2s R N (fun (l6 : List AV) (i14 : Int) (i15 : Int) (s9 : List UInt8) (s10 : List UInt8) (s11 : List UInt8) (i16 : Int) (l7 : List AV) => W ⟨[(0, .imm (AV.row 1 l6)), (1, .imm (AV.int .i64 i14)), (9, .imm (AV.int .i64 i15)), (10, .imm (AV.str s9)), (11, .imm (AV.str s10)), (13, .own 13 0 l7.length none), (14, .imm (AV.str s11)), (15, .imm (AV.int .i64 i16))], [(13, .row 1 l7 false)]⟩) (fun (i43 : Int) (i44 : Int) (s47 : List UInt8) (s48 : List UInt8) (l24 : List AV) => K (.exit 2) ⟨[(1, .imm (AV.int .i64 i43)), (9, .imm (AV.int .i64 i44)), (10, .imm (AV.str s47)), (13, .own 13 0 l24.length none), (14, .imm (AV.str s48))], [(13, .row 1 l24 false)]⟩) l6 i14 i15 s9 s10 s11 i16 l7 := by
  refine Eq.trans (b :=
      bif decide ((i16 : Int) < ((l6.length : Nat) : Int)) then
        (bif decide ((i16 : Int) < 6) then
          (need (decide (0 ≤ (i16 : Int))) <|
          (l6[Int.toNat i16]?).bind fun e1 =>
          asS e1 fun s12 =>
          (R id_keepText [AV.str s12, AV.int .i64 12]).bind fun r3 =>
          asS r3.v fun s13 =>
          rounds [0, 1, 9, 10, 11, 13, 14, 15, 16, 59, 60, 61] [13] (evC gl R N law07FoldBlocks_c1) (Kblock 4 (Kthen gl R N law07FoldBlocks_c5 (Kblock 3 (Kthen gl R N law07FoldBlocks_c4 (Kseq (fun st' => W (prune [0, 1, 9, 10, 11, 13, 14, 15] [13] st')) K))))) N ⟨[(0, .imm (AV.row 1 l6)), (1, .imm (AV.int .i64 i14)), (9, .imm (AV.int .i64 i15)), (10, .imm (AV.str s9)), (11, .imm (AV.str s10)), (13, .own 13 0 l7.length none), (14, .imm (AV.str s11)), (15, .imm (AV.int .i64 i16)), (16, .imm (AV.str ([] : List UInt8))), (59, .imm (AV.bytes s13)), (60, .imm (AV.int .i64 ((s13.length : Nat) : Int))), (61, .imm (AV.int .i64 0))], [(13, .row 1 l7 false)]⟩)
        else
          (fun (i45 : Int) (i46 : Int) (s49 : List UInt8) (s50 : List UInt8) (l25 : List AV) => K (.exit 2) ⟨[(1, .imm (AV.int .i64 i45)), (9, .imm (AV.int .i64 i46)), (10, .imm (AV.str s49)), (13, .own 13 0 l25.length none), (14, .imm (AV.str s50))], [(13, .row 1 l25 false)]⟩) i14 i15 s9 s11 l7)
      else
        (fun (i45 : Int) (i46 : Int) (s49 : List UInt8) (s50 : List UInt8) (l25 : List AV) => K (.exit 2) ⟨[(1, .imm (AV.int .i64 i45)), (9, .imm (AV.int .i64 i46)), (10, .imm (AV.str s49)), (13, .own 13 0 l25.length none), (14, .imm (AV.str s50))], [(13, .row 1 l25 false)]⟩) i14 i15 s9 s11 l7) (by kernel_rfl) ?_
  simp (config := { maxSteps := 100000000 }) only [law07FoldBlocks_L3_eq, law07FoldBlocks_L4_eq]
  refine Eq.trans (b :=
      bif decide ((i16 : Int) < ((l6.length : Nat) : Int)) then
        (bif decide ((i16 : Int) < 6) then
          (need (decide (0 ≤ (i16 : Int))) <|
          (l6[Int.toNat i16]?).bind fun e1 =>
          asS e1 fun s12 =>
          (R id_keepText [AV.str s12, AV.int .i64 12]).bind fun r3 =>
          asS r3.v fun s13 =>
          law07FoldBlocks_L3 R N
            (fun l14 i28 i29 s27 s28 s29 i30 s30 l15 =>
              rounds [0, 1, 9, 10, 11, 13, 14, 15, 16] [13] (evC gl R N law07FoldBlocks_c2) (Kblock 6 (Kthen gl R N law07FoldBlocks_c3 (Kblock 3 (Kthen gl R N law07FoldBlocks_c4 (Kseq (fun st' => W (prune [0, 1, 9, 10, 11, 13, 14, 15] [13] st')) K))))) N ⟨[(0, .imm (AV.row 1 l14)), (1, .imm (AV.int .i64 i28)), (9, .imm (AV.int .i64 i29)), (10, .imm (AV.str s27)), (11, .imm (AV.str s28)), (13, .own 13 0 l15.length none), (14, .imm (AV.str s29)), (15, .imm (AV.int .i64 i30)), (16, .imm (AV.str s30))], [(13, .row 1 l15 false)]⟩)
            N l6 i14 i15 s9 s10 s11 i16 ([] : List UInt8) s13 ((s13.length : Nat) : Int) 0 l7)
        else
          (fun (i45 : Int) (i46 : Int) (s49 : List UInt8) (s50 : List UInt8) (l25 : List AV) => K (.exit 2) ⟨[(1, .imm (AV.int .i64 i45)), (9, .imm (AV.int .i64 i46)), (10, .imm (AV.str s49)), (13, .own 13 0 l25.length none), (14, .imm (AV.str s50))], [(13, .row 1 l25 false)]⟩) i14 i15 s9 s11 l7)
      else
        (fun (i45 : Int) (i46 : Int) (s49 : List UInt8) (s50 : List UInt8) (l25 : List AV) => K (.exit 2) ⟨[(1, .imm (AV.int .i64 i45)), (9, .imm (AV.int .i64 i46)), (10, .imm (AV.str s49)), (13, .own 13 0 l25.length none), (14, .imm (AV.str s50))], [(13, .row 1 l25 false)]⟩) i14 i15 s9 s11 l7) (by kernel_rfl) ?_
  simp (config := { maxSteps := 100000000 }) only [law07FoldBlocks_L3_eq, law07FoldBlocks_L4_eq]
  kernel_rfl
theorem law07FoldBlocks_L2_eq (R : Nat → List AV → Option Res) (N : Nat) (K : Ex → St → Option Res) : ∀ (n : Nat) (l6 : List AV) (i14 : Int) (i15 : Int) (s9 : List UInt8) (s10 : List UInt8) (s11 : List UInt8) (i16 : Int) (l7 : List AV),
    rounds [0, 1, 9, 10, 11, 13, 14, 15] [13] (evC gl R N law07FoldBlocks_c6) K n ⟨[(0, .imm (AV.row 1 l6)), (1, .imm (AV.int .i64 i14)), (9, .imm (AV.int .i64 i15)), (10, .imm (AV.str s9)), (11, .imm (AV.str s10)), (13, .own 13 0 l7.length none), (14, .imm (AV.str s11)), (15, .imm (AV.int .i64 i16))], [(13, .row 1 l7 false)]⟩ = law07FoldBlocks_L2 R N (fun (i43 : Int) (i44 : Int) (s47 : List UInt8) (s48 : List UInt8) (l24 : List AV) => K (.exit 2) ⟨[(1, .imm (AV.int .i64 i43)), (9, .imm (AV.int .i64 i44)), (10, .imm (AV.str s47)), (13, .own 13 0 l24.length none), (14, .imm (AV.str s48))], [(13, .row 1 l24 false)]⟩) n l6 i14 i15 s9 s10 s11 i16 l7
  | 0, _, _, _, _, _, _, _, _ => rfl
  | n + 1, l6, i14, i15, s9, s10, s11, i16, l7 => (law07FoldBlocks_L2s_eq R N K (rounds [0, 1, 9, 10, 11, 13, 14, 15] [13] (evC gl R N law07FoldBlocks_c6) K n) l6 i14 i15 s9 s10 s11 i16 l7).trans
      (congrArg (fun go => law07FoldBlocks_L2s R N go (fun (i43 : Int) (i44 : Int) (s47 : List UInt8) (s48 : List UInt8) (l24 : List AV) => K (.exit 2) ⟨[(1, .imm (AV.int .i64 i43)), (9, .imm (AV.int .i64 i44)), (10, .imm (AV.str s47)), (13, .own 13 0 l24.length none), (14, .imm (AV.str s48))], [(13, .row 1 l24 false)]⟩) l6 i14 i15 s9 s10 s11 i16 l7) (funext fun l6 => funext fun i14 => funext fun i15 => funext fun s9 => funext fun s10 => funext fun s11 => funext fun i16 => funext fun l7 => law07FoldBlocks_L2_eq R N K n l6 i14 i15 s9 s10 s11 i16 l7))
def law07FoldBlocks_c7 : AC := .seq (.region [.op (some 119) none (.mv (.t 14)), .op (some 120) none (.bin .add (.t 119) (.k (AV.str ([101, 110, 100] : List UInt8)))), .op (some 121) none (.mv (.t 10)), .op (some 122) none (.bin .add (.t 120) (.t 121)), .op (some 123) none (.cvBytes (.t 122)), .op (some 19) none (.mv (.t 123))]) (.seq (.region [.op (some 124) none (.mv (.t 19)), .op (some 125) none (.call id_linesSplit [.t 124] (.row 3)), .op (some 20) none (.mv (.t 125))]) (.seq (.seq (.region [.op (some 126) none (.mv (.t 13)), .op (some 127) none (.len (.t 126) false), .op (some 128) none (.bin .eql (.t 127) (.k (AV.int .i64 0)))]) (.cond (.t 128) (.seq (.region [.op (some 129) none (.call id_law07Wakes [] (.bool)), .op (some 8) none (.mv (.t 129))]) (.ret [8] [])) (.skip))) (.seq (.region [.op (some 131) none (.mv (.t 19)), .op (some 132) none (.mv (.t 20)), .op (some 133) none (.mv (.t 1)), .op (some 134) none (.mv (.t 9)), .op (some 135) none (.mv (.t 1)), .op (some 136) none (.mx [.t 135, .k (AV.int .i64 0)]), .op (some 137) none (.bin .sub (.t 134) (.t 136)), .op (some 138) none (.build [AV.bool false, AV.bool false, AV.bool false, AV.int .i64 0] [(3, 1, .t 137)]), .op (some 139) none (.call id_foldBody [.t 131, .t 132, .k (AV.int .i64 0), .t 133, .t 138] (.tup [.row 1, .int .i64, .bool])), .op (some 130) none (.mv (.t 139)), .op (some 140) none (.extract (.t 130) 0), .op (some 141) none (.extract (.t 130) 1), .op (some 142) none (.extract (.t 130) 2), .op (some 21) none (.mv (.t 140)), .op (some 22) none (.mv (.t 141)), .op (some 23) none (.mv (.t 142))]) (.seq (.region [.op (some 144) none (.mv (.t 19)), .op (some 145) none (.mv (.t 20)), .op (some 146) none (.mv (.t 1)), .op (some 147) none (.build [AV.bool false, AV.bool false, AV.bool false, AV.int .i64 0] []), .op (some 148) none (.call id_foldBody [.t 144, .t 145, .k (AV.int .i64 0), .t 146, .t 147] (.tup [.row 1, .int .i64, .bool])), .op (some 143) none (.mv (.t 148)), .op (some 149) none (.extract (.t 143) 0), .op (some 150) none (.extract (.t 143) 1), .op (some 151) none (.extract (.t 143) 2), .op (some 24) none (.mv (.t 149)), .op (some 25) none (.mv (.t 150)), .op (some 26) none (.mv (.t 151))]) (.seq (.region [.op (some 152) none (.mv (.t 23)), .op (some 153) none (.mv (.t 152)), .split 153, .op (some 154) (some (153, true)) (.mv (.t 26)), .op (some 155) none (.pick (.t 153) (.t 154) (.k (AV.bool false))), .op (some 156) none (.mv (.t 155)), .split 156, .op (some 157) (some (156, true)) (.mv (.t 22)), .op (some 158) (some (156, true)) (.mv (.t 13)), .op (some 159) (some (156, true)) (.len (.t 158) false), .op (some 160) (some (156, true)) (.bin .eql (.t 157) (.t 159)), .op (some 161) none (.pick (.t 156) (.t 160) (.k (AV.bool false))), .op (some 162) none (.mv (.t 161)), .split 162, .op (some 163) (some (162, true)) (.mv (.t 25)), .op (some 164) (some (162, true)) (.mv (.t 13)), .op (some 165) (some (162, true)) (.len (.t 164) false), .op (some 166) (some (162, true)) (.bin .eql (.t 163) (.t 165)), .op (some 167) none (.pick (.t 162) (.t 166) (.k (AV.bool false))), .op (some 168) none (.mv (.t 167)), .split 168, .op (some 169) (some (168, true)) (.mv (.t 21)), .op (some 170) (some (168, true)) (.mv (.t 13)), .op (some 171) (some (168, true)) (.call id_keepSameString [.t 169, .t 170] (.bool)), .op (some 172) none (.pick (.t 168) (.t 171) (.k (AV.bool false))), .op (some 173) none (.mv (.t 172)), .split 173, .op (some 174) (some (173, true)) (.mv (.t 24)), .op (some 175) (some (173, true)) (.mv (.t 13)), .op (some 176) (some (173, true)) (.call id_keepSameString [.t 174, .t 175] (.bool)), .op (some 177) none (.pick (.t 173) (.t 176) (.k (AV.bool false))), .op (some 178) none (.mv (.t 177)), .split 178, .op (some 179) (some (178, true)) (.call id_law07Wakes [] (.bool)), .op (some 180) none (.pick (.t 178) (.t 179) (.k (AV.bool false))), .op (some 8) none (.mv (.t 180))]) (.ret [8] []))))))
def law07FoldBlocks_c8 : AC := .seq (.region [.op (some 13) none (.nilOwn 13 (some (1, .any)))]) (.seq (.region [.op (some 14) none (.mv (.k (AV.str ([] : List UInt8))))]) (.seq (.seq (.region [.op (some 15) none (.mv (.k (AV.int .i64 0)))]) (.block 2 (.loop [0, 1, 9, 10, 11, 13, 14, 15] [13] (law07FoldBlocks_c6)))) (law07FoldBlocks_c7)))
def law07FoldBlocks_c9 : AC := .seq (.region [.op (some 8) none (.mv (.k (AV.bool false)))]) (.seq (.region [.op (some 27) none (.mv (.t 1)), .op (some 28) none (.call id_keepWithin [.t 27, .k (AV.int .i64 5)] (.int .i64)), .op (some 29) none (.bin .sub (.t 28) (.k (AV.int .i64 1))), .op (some 1) none (.mv (.t 29))]) (.seq (.region [.op (some 30) none (.mv (.t 1)), .op (some 31) none (.mx [.t 30, .k (AV.int .i64 0)]), .op (some 32) none (.bin .add (.t 31) (.k (AV.int .i64 1))), .op (some 33) none (.mv (.t 2)), .op (some 34) none (.call id_keepWithin [.t 33, .k (AV.int .i64 3)] (.int .i64)), .op (some 35) none (.bin .add (.t 32) (.t 34)), .op (some 9) none (.mv (.t 35))]) (.seq (.region [.op (some 10) none (.mv (.k (AV.str ([10] : List UInt8))))]) (.seq (.seq (.region [.op (some 36) none (.mv (.t 3))]) (.cond (.t 36) (.region [.op (some 10) none (.mv (.k (AV.str ([13, 10] : List UInt8))))]) (.skip))) (.seq (.region [.op (some 11) none (.mv (.k (AV.str ([] : List UInt8))))]) (.seq (.seq (.region [.op (some 12) none (.mv (.k (AV.int .i64 0)))]) (.block 0 (.loop [0, 1, 9, 10, 11, 12] [] (law07FoldBlocks_c0)))) (law07FoldBlocks_c8)))))))
def law07FoldBlocks : AFunc := ⟨4, 181, [.tmp 8], law07FoldBlocks_c9⟩
def law07FoldBlocksr (R : Nat → List AV → Option Res) (N : Nat) (l1 : List AV) (i1 : Int) (i2 : Int) (b1 : Bool) : Option Res :=
  (R id_keepWithin [AV.int .i64 i1, AV.int .i64 5]).bind fun r1 =>
  asI .i64 r1.v fun i3 =>
  (R id_keepWithin [AV.int .i64 i2, AV.int .i64 3]).bind fun r2 =>
  asI .i64 r2.v fun i4 =>
  bif b1 then
    (law07FoldBlocks_L1 R N
      (fun l5 i12 i13 s7 s8 =>
        law07FoldBlocks_L2 R N
          (fun i47 i48 s51 s52 l26 =>
            need (decide (s52.length + (([101, 110, 100] : List UInt8) : List UInt8).length ≤ 9223372036854775807)) <|
            need (decide ((s52 ++ ([101, 110, 100] : List UInt8)).length + s51.length ≤ 9223372036854775807)) <|
            (R id_linesSplit [AV.bytes ((s52 ++ ([101, 110, 100] : List UInt8)) ++ s51)]).bind fun r4 =>
            asR 3 r4.v fun l27 =>
            bif (((l26.length : Nat) : Int) : Int) == 0 then
              ((R id_law07Wakes []).bind fun r5 =>
              asB r5.v fun b2 =>
              some ⟨AV.bool b2, false, []⟩)
            else
              (R id_foldBody [AV.bytes ((s52 ++ ([101, 110, 100] : List UInt8)) ++ s51), AV.row 3 l27, AV.int .i64 0, AV.int .i64 i47, AV.agg [AV.bool false, AV.bool false, AV.bool false, AV.int .i64 (IntKind.i64.wrap (i48 - (if 0 > i47 then 0 else i47)))]]).bind fun r6 =>
              asRIBT r6.v fun l28 i49 b3 =>
              (R id_foldBody [AV.bytes ((s52 ++ ([101, 110, 100] : List UInt8)) ++ s51), AV.row 3 l27, AV.int .i64 0, AV.int .i64 i47, AV.agg [AV.bool false, AV.bool false, AV.bool false, AV.int .i64 0]]).bind fun r7 =>
              asRIBT r7.v fun l29 i50 b4 =>
              bif b3 then
                (bif b4 then
                  (bif (i49 : Int) == ((l26.length : Nat) : Int) then
                    (bif (i50 : Int) == ((l26.length : Nat) : Int) then
                      ((R id_keepSameString [AV.row 1 l28, AV.row 1 ((l26.drop 0).take l26.length)]).bind fun r8 =>
                      asB r8.v fun b5 =>
                      bif b5 then
                        ((R id_keepSameString [AV.row 1 l29, AV.row 1 ((l26.drop 0).take l26.length)]).bind fun r9 =>
                        asB r9.v fun b6 =>
                        bif b6 then
                          ((R id_law07Wakes []).bind fun r10 =>
                          asB r10.v fun b7 =>
                          some ⟨AV.bool b7, false, []⟩)
                        else
                          some ⟨AV.bool false, false, []⟩)
                      else
                        some ⟨AV.bool false, false, []⟩)
                    else
                      some ⟨AV.bool false, false, []⟩)
                  else
                    some ⟨AV.bool false, false, []⟩)
                else
                  some ⟨AV.bool false, false, []⟩)
              else
                some ⟨AV.bool false, false, []⟩)
          N l5 i12 i13 s7 s8 ([] : List UInt8) 0 [])
      N l1 (IntKind.i64.wrap (i3 - 1)) (IntKind.i64.wrap ((IntKind.i64.wrap ((if 0 > (IntKind.i64.wrap (i3 - 1)) then 0 else (IntKind.i64.wrap (i3 - 1))) + 1)) + i4)) ([13, 10] : List UInt8) ([] : List UInt8) 0)
  else
    law07FoldBlocks_L1 R N
      (fun l30 i51 i52 s53 s54 =>
        law07FoldBlocks_L2 R N
          (fun i53 i54 s55 s56 l31 =>
            need (decide (s56.length + (([101, 110, 100] : List UInt8) : List UInt8).length ≤ 9223372036854775807)) <|
            need (decide ((s56 ++ ([101, 110, 100] : List UInt8)).length + s55.length ≤ 9223372036854775807)) <|
            (R id_linesSplit [AV.bytes ((s56 ++ ([101, 110, 100] : List UInt8)) ++ s55)]).bind fun r11 =>
            asR 3 r11.v fun l32 =>
            bif (((l31.length : Nat) : Int) : Int) == 0 then
              ((R id_law07Wakes []).bind fun r12 =>
              asB r12.v fun b8 =>
              some ⟨AV.bool b8, false, []⟩)
            else
              (R id_foldBody [AV.bytes ((s56 ++ ([101, 110, 100] : List UInt8)) ++ s55), AV.row 3 l32, AV.int .i64 0, AV.int .i64 i53, AV.agg [AV.bool false, AV.bool false, AV.bool false, AV.int .i64 (IntKind.i64.wrap (i54 - (if 0 > i53 then 0 else i53)))]]).bind fun r13 =>
              asRIBT r13.v fun l33 i55 b9 =>
              (R id_foldBody [AV.bytes ((s56 ++ ([101, 110, 100] : List UInt8)) ++ s55), AV.row 3 l32, AV.int .i64 0, AV.int .i64 i53, AV.agg [AV.bool false, AV.bool false, AV.bool false, AV.int .i64 0]]).bind fun r14 =>
              asRIBT r14.v fun l34 i56 b10 =>
              bif b9 then
                (bif b10 then
                  (bif (i55 : Int) == ((l31.length : Nat) : Int) then
                    (bif (i56 : Int) == ((l31.length : Nat) : Int) then
                      ((R id_keepSameString [AV.row 1 l33, AV.row 1 ((l31.drop 0).take l31.length)]).bind fun r15 =>
                      asB r15.v fun b11 =>
                      bif b11 then
                        ((R id_keepSameString [AV.row 1 l34, AV.row 1 ((l31.drop 0).take l31.length)]).bind fun r16 =>
                        asB r16.v fun b12 =>
                        bif b12 then
                          ((R id_law07Wakes []).bind fun r17 =>
                          asB r17.v fun b13 =>
                          some ⟨AV.bool b13, false, []⟩)
                        else
                          some ⟨AV.bool false, false, []⟩)
                      else
                        some ⟨AV.bool false, false, []⟩)
                    else
                      some ⟨AV.bool false, false, []⟩)
                  else
                    some ⟨AV.bool false, false, []⟩)
                else
                  some ⟨AV.bool false, false, []⟩)
              else
                some ⟨AV.bool false, false, []⟩)
          N l30 i51 i52 s53 s54 ([] : List UInt8) 0 [])
      N l1 (IntKind.i64.wrap (i3 - 1)) (IntKind.i64.wrap ((IntKind.i64.wrap ((if 0 > (IntKind.i64.wrap (i3 - 1)) then 0 else (IntKind.i64.wrap (i3 - 1))) + 1)) + i4)) ([10] : List UInt8) ([] : List UInt8) 0
theorem law07FoldBlocks_eq (R : Nat → List AV → Option Res) (N : Nat) (l1 : List AV) (i1 : Int) (i2 : Int) (b1 : Bool) : runF gl R N law07FoldBlocks [AV.row 1 l1, AV.int .i64 i1, AV.int .i64 i2, AV.bool b1] = law07FoldBlocksr R N l1 i1 i2 b1 := by
  refine Eq.trans (b :=
      (R id_keepWithin [AV.int .i64 i1, AV.int .i64 5]).bind fun r1 =>
      asI .i64 r1.v fun i3 =>
      (R id_keepWithin [AV.int .i64 i2, AV.int .i64 3]).bind fun r2 =>
      asI .i64 r2.v fun i4 =>
      bif b1 then
        (rounds [0, 1, 9, 10, 11, 12] [] (evC gl R N law07FoldBlocks_c0) (Kblock 0 (Kthen gl R N law07FoldBlocks_c8 (Kret law07FoldBlocks.rets))) N ⟨[(0, .imm (AV.row 1 l1)), (1, .imm (AV.int .i64 (IntKind.i64.wrap (i3 - 1)))), (9, .imm (AV.int .i64 (IntKind.i64.wrap ((IntKind.i64.wrap ((if 0 > (IntKind.i64.wrap (i3 - 1)) then 0 else (IntKind.i64.wrap (i3 - 1))) + 1)) + i4)))), (10, .imm (AV.str ([13, 10] : List UInt8))), (11, .imm (AV.str ([] : List UInt8))), (12, .imm (AV.int .i64 0))], []⟩)
      else
        rounds [0, 1, 9, 10, 11, 12] [] (evC gl R N law07FoldBlocks_c0) (Kblock 0 (Kthen gl R N law07FoldBlocks_c8 (Kret law07FoldBlocks.rets))) N ⟨[(0, .imm (AV.row 1 l1)), (1, .imm (AV.int .i64 (IntKind.i64.wrap (i3 - 1)))), (9, .imm (AV.int .i64 (IntKind.i64.wrap ((IntKind.i64.wrap ((if 0 > (IntKind.i64.wrap (i3 - 1)) then 0 else (IntKind.i64.wrap (i3 - 1))) + 1)) + i4)))), (10, .imm (AV.str ([10] : List UInt8))), (11, .imm (AV.str ([] : List UInt8))), (12, .imm (AV.int .i64 0))], []⟩) (by kernel_rfl) ?_
  simp (config := { maxSteps := 100000000 }) only [law07FoldBlocks_L1_eq, law07FoldBlocks_L2_eq]
  refine Eq.trans (b :=
      (R id_keepWithin [AV.int .i64 i1, AV.int .i64 5]).bind fun r1 =>
      asI .i64 r1.v fun i3 =>
      (R id_keepWithin [AV.int .i64 i2, AV.int .i64 3]).bind fun r2 =>
      asI .i64 r2.v fun i4 =>
      bif b1 then
        (law07FoldBlocks_L1 R N
          (fun l5 i12 i13 s7 s8 =>
            rounds [0, 1, 9, 10, 11, 13, 14, 15] [13] (evC gl R N law07FoldBlocks_c6) (Kblock 2 (Kthen gl R N law07FoldBlocks_c7 (Kret law07FoldBlocks.rets))) N ⟨[(0, .imm (AV.row 1 l5)), (1, .imm (AV.int .i64 i12)), (9, .imm (AV.int .i64 i13)), (10, .imm (AV.str s7)), (11, .imm (AV.str s8)), (13, .own 13 0 (([] : List AV).length) none), (14, .imm (AV.str ([] : List UInt8))), (15, .imm (AV.int .i64 0))], [(13, .row 1 [] false)]⟩)
          N l1 (IntKind.i64.wrap (i3 - 1)) (IntKind.i64.wrap ((IntKind.i64.wrap ((if 0 > (IntKind.i64.wrap (i3 - 1)) then 0 else (IntKind.i64.wrap (i3 - 1))) + 1)) + i4)) ([13, 10] : List UInt8) ([] : List UInt8) 0)
      else
        law07FoldBlocks_L1 R N
          (fun l30 i51 i52 s53 s54 =>
            rounds [0, 1, 9, 10, 11, 13, 14, 15] [13] (evC gl R N law07FoldBlocks_c6) (Kblock 2 (Kthen gl R N law07FoldBlocks_c7 (Kret law07FoldBlocks.rets))) N ⟨[(0, .imm (AV.row 1 l30)), (1, .imm (AV.int .i64 i51)), (9, .imm (AV.int .i64 i52)), (10, .imm (AV.str s53)), (11, .imm (AV.str s54)), (13, .own 13 0 (([] : List AV).length) none), (14, .imm (AV.str ([] : List UInt8))), (15, .imm (AV.int .i64 0))], [(13, .row 1 [] false)]⟩)
          N l1 (IntKind.i64.wrap (i3 - 1)) (IntKind.i64.wrap ((IntKind.i64.wrap ((if 0 > (IntKind.i64.wrap (i3 - 1)) then 0 else (IntKind.i64.wrap (i3 - 1))) + 1)) + i4)) ([10] : List UInt8) ([] : List UInt8) 0) (by kernel_rfl) ?_
  simp (config := { maxSteps := 100000000 }) only [law07FoldBlocks_L1_eq, law07FoldBlocks_L2_eq]
  kernel_rfl
theorem law07FoldBlocks_fit : fitF Tryd.prog law07FoldBlocks Tryd.f3 = true := by
  kernel_rfl

def ref01Marked_c0 : AC := .seq (.region [.op (some 2) none (.mv (.k (AV.bool false)))]) (.seq (.region [.op (some 3) none (.mv (.t 0)), .op (some 4) none (.len (.t 3) false), .op (some 5) none (.bin .geq (.t 4) (.k (AV.int .i64 3))), .op (some 6) none (.mv (.t 5)), .split 6, .op (some 7) (some (6, true)) (.mv (.t 0)), .op (some 8) (some (6, true)) (.iaddr (.t 7) (.k (AV.int .i64 0)) 1 (.int .u8)), .op (some 9) (some (6, true)) (.load (.t 8) none (.int .u8)), .op (some 10) (some (6, true)) (.bin .eql (.t 9) (.k (AV.int .u8 239))), .op (some 11) none (.pick (.t 6) (.t 10) (.k (AV.bool false))), .op (some 12) none (.mv (.t 11)), .split 12, .op (some 13) (some (12, true)) (.mv (.t 0)), .op (some 14) (some (12, true)) (.iaddr (.t 13) (.k (AV.int .i64 1)) 1 (.int .u8)), .op (some 15) (some (12, true)) (.load (.t 14) none (.int .u8)), .op (some 16) (some (12, true)) (.bin .eql (.t 15) (.k (AV.int .u8 187))), .op (some 17) none (.pick (.t 12) (.t 16) (.k (AV.bool false))), .op (some 18) none (.mv (.t 17)), .split 18, .op (some 19) (some (18, true)) (.mv (.t 0)), .op (some 20) (some (18, true)) (.iaddr (.t 19) (.k (AV.int .i64 2)) 1 (.int .u8)), .op (some 21) (some (18, true)) (.load (.t 20) none (.int .u8)), .op (some 22) (some (18, true)) (.bin .eql (.t 21) (.k (AV.int .u8 191))), .op (some 23) none (.pick (.t 18) (.t 22) (.k (AV.bool false))), .op (some 2) none (.mv (.t 23))]) (.ret [2] []))
def ref01Marked : AFunc := ⟨1, 24, [.tmp 2], ref01Marked_c0⟩
def ref01Markedr (R : Nat → List AV → Option Res) (N : Nat) (s1 : List UInt8) : Option Res :=
  bif decide ((((s1.length : Nat) : Int) : Int) ≥ 3) then
    (need (decide (0 ≤ (0 : Int))) <|
    (s1[Int.toNat 0]?).bind fun c1 =>
    bif ((c1.toNat : Int) : Int) == 239 then
      (need (decide (0 ≤ (1 : Int))) <|
      (s1[Int.toNat 1]?).bind fun c2 =>
      bif ((c2.toNat : Int) : Int) == 187 then
        (need (decide (0 ≤ (2 : Int))) <|
        (s1[Int.toNat 2]?).bind fun c3 =>
        some ⟨AV.bool (((c3.toNat : Int) : Int) == 191), false, []⟩)
      else
        some ⟨AV.bool false, false, []⟩)
    else
      some ⟨AV.bool false, false, []⟩)
  else
    some ⟨AV.bool false, false, []⟩
theorem ref01Marked_eq (R : Nat → List AV → Option Res) (N : Nat) (s1 : List UInt8) : runF gl R N ref01Marked [AV.bytes s1] = ref01Markedr R N s1 := by
  kernel_rfl
theorem ref01Marked_fit : fitF Tryd.prog ref01Marked Tryd.f21 = true := by
  kernel_rfl

def ref01Split_L2s (R : Nat → List AV → Option Res) (N : Nat) (go : List UInt8 → Int → Int → List AV → Option Res) (k0 : List UInt8 → Int → Int → List AV → Option Res) (s3 : List UInt8) (i2 : Int) (i3 : Int) (l2 : List AV) : Option Res :=
  bif decide ((i3 : Int) < ((s3.length : Nat) : Int)) then
    (need (decide (0 ≤ (i3 : Int))) <|
    (s3[Int.toNat i3]?).bind fun c1 =>
    bif ((c1.toNat : Int) : Int) != 10 then
      (go s3 i2 (IntKind.i64.wrap (i3 + 1)) l2)
    else
      k0 s3 i2 i3 l2)
  else
    k0 s3 i2 i3 l2
def ref01Split_L2 (R : Nat → List AV → Option Res) (N : Nat) (k0 : List UInt8 → Int → Int → List AV → Option Res) : Nat → List UInt8 → Int → Int → List AV → Option Res
  | 0, _, _, _, _ => none
  | n + 1, s3, i2, i3, l2 => ref01Split_L2s R N (ref01Split_L2 R N k0 n) k0 s3 i2 i3 l2
def ref01Split_c0 : AC := .seq (.seq (.region [.op (some 14) none (.mv (.t 5)), .op (some 15) none (.mv (.t 0)), .op (some 16) none (.len (.t 15) false), .op (some 17) none (.bin .lss (.t 14) (.t 16)), .op (some 18) none (.mv (.t 17)), .split 18, .op (some 19) (some (18, true)) (.mv (.t 0)), .op (some 20) (some (18, true)) (.mv (.t 5)), .op (some 21) (some (18, true)) (.iaddr (.t 19) (.t 20) 1 (.int .u8)), .op (some 22) (some (18, true)) (.load (.t 21) none (.int .u8)), .op (some 23) (some (18, true)) (.bin .neq (.t 22) (.k (AV.int .u8 10))), .op (some 24) none (.pick (.t 18) (.t 23) (.k (AV.bool false)))]) (.cond (.t 24) (.skip) (.exit 2 [0, 3, 4, 5] [3]))) (.block 3 (.region [.op (some 25) none (.mv (.t 5)), .op (some 26) none (.bin .add (.t 25) (.k (AV.int .i64 1))), .op (some 5) none (.mv (.t 26))]))
theorem ref01Split_L2s_eq (R : Nat → List AV → Option Res) (N : Nat) (K : Ex → St → Option Res) (W : St → Option Res) (s3 : List UInt8) (i2 : Int) (i3 : Int) (l2 : List AV) :
    evC gl R N ref01Split_c0 (Kseq (fun st' => W (prune [0, 3, 4, 5] [3] st')) K) ⟨[(0, .imm (AV.bytes s3)), (3, .own 3 0 l2.length none), (4, .imm (AV.int .i64 i2)), (5, .imm (AV.int .i64 i3))], [(3, .row 3 l2 false)]⟩ =
    ref01Split_L2s R N (fun (s3 : List UInt8) (i2 : Int) (i3 : Int) (l2 : List AV) => W ⟨[(0, .imm (AV.bytes s3)), (3, .own 3 0 l2.length none), (4, .imm (AV.int .i64 i2)), (5, .imm (AV.int .i64 i3))], [(3, .row 3 l2 false)]⟩) (fun (s4 : List UInt8) (i4 : Int) (i5 : Int) (l3 : List AV) => K (.exit 2) ⟨[(0, .imm (AV.bytes s4)), (3, .own 3 0 l3.length none), (4, .imm (AV.int .i64 i4)), (5, .imm (AV.int .i64 i5))], [(3, .row 3 l3 false)]⟩) s3 i2 i3 l2 := by
  kernel_rfl
theorem ref01Split_L2_eq (R : Nat → List AV → Option Res) (N : Nat) (K : Ex → St → Option Res) : ∀ (n : Nat) (s3 : List UInt8) (i2 : Int) (i3 : Int) (l2 : List AV),
    rounds [0, 3, 4, 5] [3] (evC gl R N ref01Split_c0) K n ⟨[(0, .imm (AV.bytes s3)), (3, .own 3 0 l2.length none), (4, .imm (AV.int .i64 i2)), (5, .imm (AV.int .i64 i3))], [(3, .row 3 l2 false)]⟩ = ref01Split_L2 R N (fun (s4 : List UInt8) (i4 : Int) (i5 : Int) (l3 : List AV) => K (.exit 2) ⟨[(0, .imm (AV.bytes s4)), (3, .own 3 0 l3.length none), (4, .imm (AV.int .i64 i4)), (5, .imm (AV.int .i64 i5))], [(3, .row 3 l3 false)]⟩) n s3 i2 i3 l2
  | 0, _, _, _, _ => rfl
  | n + 1, s3, i2, i3, l2 => (ref01Split_L2s_eq R N K (rounds [0, 3, 4, 5] [3] (evC gl R N ref01Split_c0) K n) s3 i2 i3 l2).trans
      (congrArg (fun go => ref01Split_L2s R N go (fun (s4 : List UInt8) (i4 : Int) (i5 : Int) (l3 : List AV) => K (.exit 2) ⟨[(0, .imm (AV.bytes s4)), (3, .own 3 0 l3.length none), (4, .imm (AV.int .i64 i4)), (5, .imm (AV.int .i64 i5))], [(3, .row 3 l3 false)]⟩) s3 i2 i3 l2) (funext fun s3 => funext fun i2 => funext fun i3 => funext fun l2 => ref01Split_L2_eq R N K n s3 i2 i3 l2))
def ref01Split_L1s (R : Nat → List AV → Option Res) (N : Nat) (go : List UInt8 → Int → List AV → Option Res) (k0 : List AV → Option Res) (s2 : List UInt8) (i1 : Int) (l1 : List AV) : Option Res :=
  bif decide ((i1 : Int) < ((s2.length : Nat) : Int)) then
    (ref01Split_L2 R N
      (fun s6 i8 i9 l5 =>
        bif decide ((i9 : Int) < ((s6.length : Nat) : Int)) then
          (bif decide ((i9 : Int) > i8) then
            (need (decide (0 ≤ (IntKind.i64.wrap (i9 - 1) : Int))) <|
            (s6[Int.toNat (IntKind.i64.wrap (i9 - 1))]?).bind fun c2 =>
            bif ((c2.toNat : Int) : Int) == 13 then
              (need (decide (((l5.drop 0).take l5.length).length + [AV.agg [AV.int .i64 i8, AV.int .i64 (IntKind.i64.wrap (i9 - 1)), AV.int .i64 (IntKind.i64.wrap (i9 + 1))]].length ≤ 1099511627776)) <|
              go s6 (IntKind.i64.wrap (i9 + 1)) (((l5.drop 0).take l5.length) ++ [AV.agg [AV.int .i64 i8, AV.int .i64 (IntKind.i64.wrap (i9 - 1)), AV.int .i64 (IntKind.i64.wrap (i9 + 1))]]))
            else
              need (decide (((l5.drop 0).take l5.length).length + [AV.agg [AV.int .i64 i8, AV.int .i64 i9, AV.int .i64 (IntKind.i64.wrap (i9 + 1))]].length ≤ 1099511627776)) <|
              go s6 (IntKind.i64.wrap (i9 + 1)) (((l5.drop 0).take l5.length) ++ [AV.agg [AV.int .i64 i8, AV.int .i64 i9, AV.int .i64 (IntKind.i64.wrap (i9 + 1))]]))
          else
            need (decide (((l5.drop 0).take l5.length).length + [AV.agg [AV.int .i64 i8, AV.int .i64 i9, AV.int .i64 (IntKind.i64.wrap (i9 + 1))]].length ≤ 1099511627776)) <|
            go s6 (IntKind.i64.wrap (i9 + 1)) (((l5.drop 0).take l5.length) ++ [AV.agg [AV.int .i64 i8, AV.int .i64 i9, AV.int .i64 (IntKind.i64.wrap (i9 + 1))]]))
        else
          need (decide (((l5.drop 0).take l5.length).length + [AV.agg [AV.int .i64 i8, AV.int .i64 i9, AV.int .i64 i9]].length ≤ 1099511627776)) <|
          go s6 i9 (((l5.drop 0).take l5.length) ++ [AV.agg [AV.int .i64 i8, AV.int .i64 i9, AV.int .i64 i9]]))
      N s2 i1 i1 l1)
  else
    k0 l1
def ref01Split_L1 (R : Nat → List AV → Option Res) (N : Nat) (k0 : List AV → Option Res) : Nat → List UInt8 → Int → List AV → Option Res
  | 0, _, _, _ => none
  | n + 1, s2, i1, l1 => ref01Split_L1s R N (ref01Split_L1 R N k0 n) k0 s2 i1 l1
def ref01Split_c1 : AC := .seq (.region [.op (some 27) none (.mv (.t 4)), .op (some 28) none (.mv (.t 5)), .op (some 29) none (.mv (.t 5)), .op (some 30) none (.build [AV.int .i64 0, AV.int .i64 0, AV.int .i64 0] [(0, 1, .t 27), (1, 1, .t 28), (2, 1, .t 29)]), .op (some 6) none (.alloc 1006 [AV.int .i64 0, AV.int .i64 0, AV.int .i64 0]), .op none none (.store (.t 6) (.t 30) 3)]) (.seq (.seq (.region [.op (some 31) none (.mv (.t 5)), .op (some 32) none (.mv (.t 0)), .op (some 33) none (.len (.t 32) false), .op (some 34) none (.bin .lss (.t 31) (.t 33))]) (.cond (.t 34) (.seq (.region [.op (some 35) none (.mv (.t 5)), .op (some 36) none (.bin .add (.t 35) (.k (AV.int .i64 1))), .op (some 37) none (.faddr (.t 6) 2), .op none none (.store (.t 37) (.t 36) 1)]) (.seq (.region [.op (some 38) none (.mv (.t 5)), .op (some 39) none (.mv (.t 4)), .op (some 40) none (.bin .gtr (.t 38) (.t 39)), .op (some 41) none (.mv (.t 40)), .split 41, .op (some 42) (some (41, true)) (.mv (.t 0)), .op (some 43) (some (41, true)) (.mv (.t 5)), .op (some 44) (some (41, true)) (.bin .sub (.t 43) (.k (AV.int .i64 1))), .op (some 45) (some (41, true)) (.iaddr (.t 42) (.t 44) 1 (.int .u8)), .op (some 46) (some (41, true)) (.load (.t 45) none (.int .u8)), .op (some 47) (some (41, true)) (.bin .eql (.t 46) (.k (AV.int .u8 13))), .op (some 48) none (.pick (.t 41) (.t 47) (.k (AV.bool false)))]) (.cond (.t 48) (.region [.op (some 49) none (.mv (.t 5)), .op (some 50) none (.bin .sub (.t 49) (.k (AV.int .i64 1))), .op (some 51) none (.faddr (.t 6) 1), .op none none (.store (.t 51) (.t 50) 1)]) (.skip)))) (.skip))) (.seq (.region [.op (some 52) none (.mv (.t 3)), .op (some 53) none (.load (.t 6) (some 3) (.agg [.int .i64, .int .i64, .int .i64])), .op (some 54) none (.bslice [.t 53] 3 false), .op (some 55) none (.app 3 (.t 52) (.t 54) 3 .any false), .op (some 3) none (.mv (.t 55))]) (.region [.op (some 56) none (.faddr (.t 6) 2), .op (some 57) none (.load (.t 56) none (.int .i64)), .op (some 4) none (.mv (.t 57))])))
def ref01Split_c2 : AC := .seq (.seq (.region [.op (some 9) none (.mv (.t 4)), .op (some 10) none (.mv (.t 0)), .op (some 11) none (.len (.t 10) false), .op (some 12) none (.bin .lss (.t 9) (.t 11))]) (.cond (.t 12) (.skip) (.exit 0 [3] [3]))) (.block 1 (.seq (.region [.op (some 13) none (.mv (.t 4)), .op (some 5) none (.mv (.t 13))]) (.seq (.block 2 (.loop [0, 3, 4, 5] [3] (ref01Split_c0))) (ref01Split_c1))))
theorem ref01Split_L1s_eq (R : Nat → List AV → Option Res) (N : Nat) (K : Ex → St → Option Res) (W : St → Option Res) (s2 : List UInt8) (i1 : Int) (l1 : List AV) :
    evC gl R N ref01Split_c2 (Kseq (fun st' => W (prune [0, 3, 4] [3] st')) K) ⟨[(0, .imm (AV.bytes s2)), (3, .own 3 0 l1.length none), (4, .imm (AV.int .i64 i1))], [(3, .row 3 l1 false)]⟩ =
    ref01Split_L1s R N (fun (s2 : List UInt8) (i1 : Int) (l1 : List AV) => W ⟨[(0, .imm (AV.bytes s2)), (3, .own 3 0 l1.length none), (4, .imm (AV.int .i64 i1))], [(3, .row 3 l1 false)]⟩) (fun (l6 : List AV) => K (.exit 0) ⟨[(3, .own 3 0 l6.length none)], [(3, .row 3 l6 false)]⟩) s2 i1 l1 := by
  refine Eq.trans (b :=
      bif decide ((i1 : Int) < ((s2.length : Nat) : Int)) then
        (rounds [0, 3, 4, 5] [3] (evC gl R N ref01Split_c0) (Kblock 2 (Kthen gl R N ref01Split_c1 (Kblock 1 (Kseq (fun st' => W (prune [0, 3, 4] [3] st')) K)))) N ⟨[(0, .imm (AV.bytes s2)), (3, .own 3 0 l1.length none), (4, .imm (AV.int .i64 i1)), (5, .imm (AV.int .i64 i1))], [(3, .row 3 l1 false)]⟩)
      else
        (fun (l7 : List AV) => K (.exit 0) ⟨[(3, .own 3 0 l7.length none)], [(3, .row 3 l7 false)]⟩) l1) (by kernel_rfl) ?_
  simp (config := { maxSteps := 100000000 }) only [ref01Split_L2_eq]
  kernel_rfl
theorem ref01Split_L1_eq (R : Nat → List AV → Option Res) (N : Nat) (K : Ex → St → Option Res) : ∀ (n : Nat) (s2 : List UInt8) (i1 : Int) (l1 : List AV),
    rounds [0, 3, 4] [3] (evC gl R N ref01Split_c2) K n ⟨[(0, .imm (AV.bytes s2)), (3, .own 3 0 l1.length none), (4, .imm (AV.int .i64 i1))], [(3, .row 3 l1 false)]⟩ = ref01Split_L1 R N (fun (l6 : List AV) => K (.exit 0) ⟨[(3, .own 3 0 l6.length none)], [(3, .row 3 l6 false)]⟩) n s2 i1 l1
  | 0, _, _, _ => rfl
  | n + 1, s2, i1, l1 => (ref01Split_L1s_eq R N K (rounds [0, 3, 4] [3] (evC gl R N ref01Split_c2) K n) s2 i1 l1).trans
      (congrArg (fun go => ref01Split_L1s R N go (fun (l6 : List AV) => K (.exit 0) ⟨[(3, .own 3 0 l6.length none)], [(3, .row 3 l6 false)]⟩) s2 i1 l1) (funext fun s2 => funext fun i1 => funext fun l1 => ref01Split_L1_eq R N K n s2 i1 l1))
def ref01Split_c3 : AC := .seq (.region [.op (some 58) none (.mv (.t 3)), .op (some 2) none (.mv (.t 58))]) (.ret [2] [3])
def ref01Split_c4 : AC := .seq (.region [.op (some 2) none (.nilOwn 3 (some (3, .any)))]) (.seq (.region [.op (some 3) none (.nilOwn 3 (some (3, .any)))]) (.seq (.region [.op (some 4) none (.mv (.k (AV.int .i64 0)))]) (.seq (.seq (.region [.op (some 7) none (.mv (.t 0)), .op (some 8) none (.call id_ref01Marked [.t 7] (.bool))]) (.cond (.t 8) (.region [.op (some 4) none (.mv (.k (AV.int .i64 3)))]) (.skip))) (.seq (.block 0 (.loop [0, 3, 4] [3] (ref01Split_c2))) (ref01Split_c3)))))
def ref01Split : AFunc := ⟨1, 59, [.tmp 2], ref01Split_c4⟩
def ref01Splitr (R : Nat → List AV → Option Res) (N : Nat) (s1 : List UInt8) : Option Res :=
  (R id_ref01Marked [AV.bytes s1]).bind fun r1 =>
  asB r1.v fun b1 =>
  bif b1 then
    (ref01Split_L1 R N
      (fun l8 =>
        some ⟨AV.row 3 ((l8.drop 0).take l8.length), true, []⟩)
      N s1 3 [])
  else
    ref01Split_L1 R N
      (fun l9 =>
        some ⟨AV.row 3 ((l9.drop 0).take l9.length), true, []⟩)
      N s1 0 []
theorem ref01Split_eq (R : Nat → List AV → Option Res) (N : Nat) (s1 : List UInt8) : runF gl R N ref01Split [AV.bytes s1] = ref01Splitr R N s1 := by
  refine Eq.trans (b :=
      (R id_ref01Marked [AV.bytes s1]).bind fun r1 =>
      asB r1.v fun b1 =>
      bif b1 then
        (rounds [0, 3, 4] [3] (evC gl R N ref01Split_c2) (Kblock 0 (Kthen gl R N ref01Split_c3 (Kret ref01Split.rets))) N ⟨[(0, .imm (AV.bytes s1)), (3, .own 3 0 (([] : List AV).length) none), (4, .imm (AV.int .i64 3))], [(3, .row 3 [] false)]⟩)
      else
        rounds [0, 3, 4] [3] (evC gl R N ref01Split_c2) (Kblock 0 (Kthen gl R N ref01Split_c3 (Kret ref01Split.rets))) N ⟨[(0, .imm (AV.bytes s1)), (3, .own 3 0 (([] : List AV).length) none), (4, .imm (AV.int .i64 0))], [(3, .row 3 [] false)]⟩) (by kernel_rfl) ?_
  simp (config := { maxSteps := 100000000 }) only [ref01Split_L1_eq]
  kernel_rfl
theorem ref01Split_fit : fitF Tryd.prog ref01Split Tryd.f11 = true := by
  kernel_rfl

def ref01Indent_L1s (R : Nat → List AV → Option Res) (N : Nat) (go : List UInt8 → Int → Int → Int → Int → Option Res) (k0 : Int → Option Res) (s2 : List UInt8) (i4 : Int) (i5 : Int) (i6 : Int) (i7 : Int) : Option Res :=
  bif decide (((IntKind.i64.wrap (i5 + i4)) : Int) < i6) then
    (need (decide (0 ≤ (IntKind.i64.wrap (i5 + i4) : Int))) <|
    (s2[Int.toNat (IntKind.i64.wrap (i5 + i4))]?).bind fun c1 =>
    bif ((c1.toNat : Int) : Int) == 32 then
      (go s2 (IntKind.i64.wrap (i4 + 1)) i5 i6 i7)
    else
      k0 i4)
  else
    k0 i4
def ref01Indent_L1 (R : Nat → List AV → Option Res) (N : Nat) (k0 : Int → Option Res) : Nat → List UInt8 → Int → Int → Int → Int → Option Res
  | 0, _, _, _, _, _ => none
  | n + 1, s2, i4, i5, i6, i7 => ref01Indent_L1s R N (ref01Indent_L1 R N k0 n) k0 s2 i4 i5 i6 i7
def ref01Indent_c0 : AC := .seq (.seq (.region [.op (some 6) none (.faddr (.t 3) 0), .op (some 7) none (.load (.t 6) none (.int .i64)), .op (some 8) none (.mv (.t 5)), .op (some 9) none (.bin .add (.t 7) (.t 8)), .op (some 10) none (.faddr (.t 3) 1), .op (some 11) none (.load (.t 10) none (.int .i64)), .op (some 12) none (.bin .lss (.t 9) (.t 11)), .op (some 13) none (.mv (.t 12)), .split 13, .op (some 14) (some (13, true)) (.mv (.t 0)), .op (some 15) (some (13, true)) (.faddr (.t 3) 0), .op (some 16) (some (13, true)) (.load (.t 15) none (.int .i64)), .op (some 17) (some (13, true)) (.mv (.t 5)), .op (some 18) (some (13, true)) (.bin .add (.t 16) (.t 17)), .op (some 19) (some (13, true)) (.iaddr (.t 14) (.t 18) 1 (.int .u8)), .op (some 20) (some (13, true)) (.load (.t 19) none (.int .u8)), .op (some 21) (some (13, true)) (.bin .eql (.t 20) (.k (AV.int .u8 32))), .op (some 22) none (.pick (.t 13) (.t 21) (.k (AV.bool false)))]) (.cond (.t 22) (.skip) (.exit 0 [5] []))) (.block 1 (.region [.op (some 23) none (.mv (.t 5)), .op (some 24) none (.bin .add (.t 23) (.k (AV.int .i64 1))), .op (some 5) none (.mv (.t 24))]))
theorem ref01Indent_L1s_eq (R : Nat → List AV → Option Res) (N : Nat) (K : Ex → St → Option Res) (W : St → Option Res) (s2 : List UInt8) (i4 : Int) (i5 : Int) (i6 : Int) (i7 : Int) :
    evC gl R N ref01Indent_c0 (Kseq (fun st' => W (prune [0, 3, 5] [1003] st')) K) ⟨[(0, .imm (AV.bytes s2)), (3, .ptr 1003 0 0), (5, .imm (AV.int .i64 i4))], [(1003, .box [.imm (AV.int .i64 i5), .imm (AV.int .i64 i6), .imm (AV.int .i64 i7)])]⟩ =
    ref01Indent_L1s R N (fun (s2 : List UInt8) (i4 : Int) (i5 : Int) (i6 : Int) (i7 : Int) => W ⟨[(0, .imm (AV.bytes s2)), (3, .ptr 1003 0 0), (5, .imm (AV.int .i64 i4))], [(1003, .box [.imm (AV.int .i64 i5), .imm (AV.int .i64 i6), .imm (AV.int .i64 i7)])]⟩) (fun (i8 : Int) => K (.exit 0) ⟨[(5, .imm (AV.int .i64 i8))], []⟩) s2 i4 i5 i6 i7 := by
  kernel_rfl
theorem ref01Indent_L1_eq (R : Nat → List AV → Option Res) (N : Nat) (K : Ex → St → Option Res) : ∀ (n : Nat) (s2 : List UInt8) (i4 : Int) (i5 : Int) (i6 : Int) (i7 : Int),
    rounds [0, 3, 5] [1003] (evC gl R N ref01Indent_c0) K n ⟨[(0, .imm (AV.bytes s2)), (3, .ptr 1003 0 0), (5, .imm (AV.int .i64 i4))], [(1003, .box [.imm (AV.int .i64 i5), .imm (AV.int .i64 i6), .imm (AV.int .i64 i7)])]⟩ = ref01Indent_L1 R N (fun (i8 : Int) => K (.exit 0) ⟨[(5, .imm (AV.int .i64 i8))], []⟩) n s2 i4 i5 i6 i7
  | 0, _, _, _, _, _ => rfl
  | n + 1, s2, i4, i5, i6, i7 => (ref01Indent_L1s_eq R N K (rounds [0, 3, 5] [1003] (evC gl R N ref01Indent_c0) K n) s2 i4 i5 i6 i7).trans
      (congrArg (fun go => ref01Indent_L1s R N go (fun (i8 : Int) => K (.exit 0) ⟨[(5, .imm (AV.int .i64 i8))], []⟩) s2 i4 i5 i6 i7) (funext fun s2 => funext fun i4 => funext fun i5 => funext fun i6 => funext fun i7 => ref01Indent_L1_eq R N K n s2 i4 i5 i6 i7))
def ref01Indent_c1 : AC := .seq (.region [.op (some 25) none (.mv (.t 5)), .op (some 4) none (.mv (.t 25))]) (.ret [4] [])
def ref01Indent_c2 : AC := .seq (.region [.op (some 3) none (.box 1003 (.t 1) 3), .op (some 4) none (.mv (.k (AV.int .i64 0)))]) (.seq (.region [.op (some 5) none (.mv (.k (AV.int .i64 0)))]) (.seq (.block 0 (.loop [0, 3, 5] [1003] (ref01Indent_c0))) (ref01Indent_c1)))
def ref01Indent : AFunc := ⟨2, 26, [.tmp 4], ref01Indent_c2⟩
def ref01Indentr (R : Nat → List AV → Option Res) (N : Nat) (s1 : List UInt8) (i1 : Int) (i2 : Int) (i3 : Int) : Option Res :=
  ref01Indent_L1 R N
    (fun i10 =>
      some ⟨AV.int .i64 i10, false, []⟩)
    N s1 0 i1 i2 i3
theorem ref01Indent_eq (R : Nat → List AV → Option Res) (N : Nat) (s1 : List UInt8) (i1 : Int) (i2 : Int) (i3 : Int) : runF gl R N ref01Indent [AV.bytes s1, AV.agg [AV.int .i64 i1, AV.int .i64 i2, AV.int .i64 i3]] = ref01Indentr R N s1 i1 i2 i3 := by
  refine Eq.trans (b :=
      rounds [0, 3, 5] [1003] (evC gl R N ref01Indent_c0) (Kblock 0 (Kthen gl R N ref01Indent_c1 (Kret ref01Indent.rets))) N ⟨[(0, .imm (AV.bytes s1)), (3, .ptr 1003 0 0), (5, .imm (AV.int .i64 0))], [(1003, .box [.imm (AV.int .i64 i1), .imm (AV.int .i64 i2), .imm (AV.int .i64 i3)])]⟩) (by kernel_rfl) ?_
  simp (config := { maxSteps := 100000000 }) only [ref01Indent_L1_eq]
  kernel_rfl
theorem ref01Indent_fit : fitF Tryd.prog ref01Indent Tryd.f23 = true := by
  kernel_rfl

def ref01Blank_c0 : AC := .seq (.region [.op (some 3) none (.box 1003 (.t 1) 3), .op (some 4) none (.mv (.k (AV.bool false)))]) (.seq (.regionD [4] [] [.op (some 5) none (.mv (.t 0)), .op (some 6) none (.load (.t 3) (some 3) (.agg [.int .i64, .int .i64, .int .i64])), .op (some 7) none (.call id_ref01Indent [.t 5, .t 6] (.int .i64)), .op (some 8) none (.faddr (.t 3) 1), .op (some 9) none (.load (.t 8) none (.int .i64)), .op (some 10) none (.faddr (.t 3) 0), .op (some 11) none (.load (.t 10) none (.int .i64)), .op (some 12) none (.bin .sub (.t 9) (.t 11)), .op (some 13) none (.bin .eql (.t 7) (.t 12)), .op (some 4) none (.mv (.t 13))] []) (.ret [4] []))
def ref01Blank : AFunc := ⟨2, 14, [.tmp 4], ref01Blank_c0⟩
def ref01Blankr (R : Nat → List AV → Option Res) (N : Nat) (s1 : List UInt8) (i1 : Int) (i2 : Int) (i3 : Int) : Option Res :=
  (R id_ref01Indent [AV.bytes s1, AV.agg [AV.int .i64 i1, AV.int .i64 i2, AV.int .i64 i3]]).bind fun r1 =>
  asI .i64 r1.v fun i4 =>
  some ⟨AV.bool ((i4 : Int) == (IntKind.i64.wrap (i2 - i1))), false, []⟩
theorem ref01Blank_eq (R : Nat → List AV → Option Res) (N : Nat) (s1 : List UInt8) (i1 : Int) (i2 : Int) (i3 : Int) : runF gl R N ref01Blank [AV.bytes s1, AV.agg [AV.int .i64 i1, AV.int .i64 i2, AV.int .i64 i3]] = ref01Blankr R N s1 i1 i2 i3 := by
  kernel_rfl
theorem ref01Blank_fit : fitF Tryd.prog ref01Blank Tryd.f22 = true := by
  kernel_rfl

def ref01Stop_c0 : AC := .seq (.region [.op (some 3) none (.box 1003 (.t 1) 3), .op (some 4) none (.mv (.k (AV.bool false)))]) (.seq (.region [.op (some 6) none (.mv (.t 0)), .op (some 7) none (.faddr (.t 3) 0), .op (some 8) none (.load (.t 7) none (.int .i64)), .op (some 9) none (.faddr (.t 3) 1), .op (some 10) none (.load (.t 9) none (.int .i64)), .op (some 11) none (.slice (.t 6) (some (.t 8)) (some (.t 10)) 1), .op (some 5) none (.mv (.t 11))]) (.seq (.region [.op (some 12) none (.mv (.t 5)), .op (some 13) none (.len (.t 12) false), .op (some 14) none (.bin .geq (.t 13) (.k (AV.int .i64 3))), .op (some 15) none (.mv (.t 14)), .split 15, .op (some 16) (some (15, true)) (.mv (.t 5)), .op (some 17) (some (15, true)) (.slice (.t 16) none (some (.k (AV.int .i64 3))) 1), .op (some 18) (some (15, true)) (.cvStr (.t 17)), .op (some 19) (some (15, true)) (.bin .eql (.t 18) (.k (AV.str ([45, 45, 45] : List UInt8)))), .op (some 20) (some (15, true)) (.mv (.t 19)), .split 20, .op (some 21) (some (20, false)) (.mv (.t 5)), .op (some 22) (some (20, false)) (.slice (.t 21) none (some (.k (AV.int .i64 3))) 1), .op (some 23) (some (20, false)) (.cvStr (.t 22)), .op (some 24) (some (20, false)) (.bin .eql (.t 23) (.k (AV.str ([46, 46, 46] : List UInt8)))), .op (some 25) (some (15, true)) (.pick (.t 20) (.k (AV.bool true)) (.t 24)), .op (some 26) none (.pick (.t 15) (.t 25) (.k (AV.bool false))), .op (some 27) none (.mv (.t 26)), .split 27, .op (some 28) (some (27, true)) (.mv (.t 5)), .op (some 29) (some (27, true)) (.len (.t 28) false), .op (some 30) (some (27, true)) (.bin .eql (.t 29) (.k (AV.int .i64 3))), .op (some 31) (some (27, true)) (.mv (.t 30)), .split 31, .op (some 32) (some (31, false)) (.mv (.t 5)), .op (some 33) (some (31, false)) (.iaddr (.t 32) (.k (AV.int .i64 3)) 1 (.int .u8)), .op (some 34) (some (31, false)) (.load (.t 33) none (.int .u8)), .op (some 35) (some (31, false)) (.bin .eql (.t 34) (.k (AV.int .u8 32))), .op (some 36) (some (27, true)) (.pick (.t 31) (.k (AV.bool true)) (.t 35)), .op (some 37) none (.pick (.t 27) (.t 36) (.k (AV.bool false))), .op (some 4) none (.mv (.t 37))]) (.ret [4] [])))
def ref01Stop : AFunc := ⟨2, 38, [.tmp 4], ref01Stop_c0⟩
def ref01Stopr (R : Nat → List AV → Option Res) (N : Nat) (s1 : List UInt8) (i1 : Int) (i2 : Int) (i3 : Int) : Option Res :=
  need (decide (0 ≤ (i2 : Int)) && decide ((i2 : Int) ≤ ((s1.length : Nat) : Int))) <|
  need (decide (0 ≤ (i1 : Int)) && decide ((i1 : Int) ≤ ((Int.toNat i2 : Nat) : Int))) <|
  bif decide ((((((s1.take (Int.toNat i2)).drop (Int.toNat i1)).length : Nat) : Int) : Int) ≥ 3) then
    (need (decide (0 ≤ (3 : Int)) && decide ((3 : Int) ≤ ((((s1.take (Int.toNat i2)).drop (Int.toNat i1)).length : Nat) : Int))) <|
    bif ((((s1.take (Int.toNat i2)).drop (Int.toNat i1)).take (Int.toNat 3)).drop 0) == ([45, 45, 45] : List UInt8) then
      (bif (((((s1.take (Int.toNat i2)).drop (Int.toNat i1)).length : Nat) : Int) : Int) == 3 then
        (some ⟨AV.bool true, false, []⟩)
      else
        need (decide (0 ≤ (3 : Int))) <|
        (((s1.take (Int.toNat i2)).drop (Int.toNat i1))[Int.toNat 3]?).bind fun c1 =>
        some ⟨AV.bool (((c1.toNat : Int) : Int) == 32), false, []⟩)
    else
      need (decide (0 ≤ (3 : Int)) && decide ((3 : Int) ≤ ((((s1.take (Int.toNat i2)).drop (Int.toNat i1)).length : Nat) : Int))) <|
      bif ((((s1.take (Int.toNat i2)).drop (Int.toNat i1)).take (Int.toNat 3)).drop 0) == ([46, 46, 46] : List UInt8) then
        (bif (((((s1.take (Int.toNat i2)).drop (Int.toNat i1)).length : Nat) : Int) : Int) == 3 then
          (some ⟨AV.bool true, false, []⟩)
        else
          need (decide (0 ≤ (3 : Int))) <|
          (((s1.take (Int.toNat i2)).drop (Int.toNat i1))[Int.toNat 3]?).bind fun c2 =>
          some ⟨AV.bool (((c2.toNat : Int) : Int) == 32), false, []⟩)
      else
        some ⟨AV.bool false, false, []⟩)
  else
    some ⟨AV.bool false, false, []⟩
theorem ref01Stop_eq (R : Nat → List AV → Option Res) (N : Nat) (s1 : List UInt8) (i1 : Int) (i2 : Int) (i3 : Int) : runF gl R N ref01Stop [AV.bytes s1, AV.agg [AV.int .i64 i1, AV.int .i64 i2, AV.int .i64 i3]] = ref01Stopr R N s1 i1 i2 i3 := by
  kernel_rfl
theorem ref01Stop_fit : fitF Tryd.prog ref01Stop Tryd.f24 = true := by
  kernel_rfl
end Go.Proofs.YtpjpmfchcijikaaDoor.Vf
