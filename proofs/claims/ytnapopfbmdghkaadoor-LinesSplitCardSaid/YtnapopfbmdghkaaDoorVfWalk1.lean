/- The code of the functions that the statements reach, as our evaluator takes it, and what each of them comes to, readably: printed by a program of ours. No condition. -/
import Derived.Test.YtnapopfbmdghkaaDoorVf2
import Derived.Test.YtnapopfbmdghkaaDoorChecked
import Derived.Lib.DecodeN
namespace Go.Proofs.YtnapopfbmdghkaaDoor.Vf
set_option linter.unusedVariables false
set_option linter.unusedSimpArgs false
set_option maxRecDepth 100000

def g_first : Nat := 0
def g_accept : Nat := 1
def gl : List (Nat × List AV) := [(g_first, (List.range 256).map fun c => AV.int .u8 (Lib.firstT c)), (g_accept, (List.range 32).map fun i => AV.int .u8 (bif Nat.beq (i % 2) 0 then Lib.accLo (i / 2) else Lib.accHi (i / 2)))]
def id_bytesAsciiSetContains : Nat := 56
def id_bytesContainsRune : Nat := 57
def id_bytesEqual : Nat := 50
def id_bytesHasPrefix : Nat := 45
def id_bytesIndexByte : Nat := 46
def id_bytesMakeASCIISet : Nat := 53
def id_bytesTrimLeft : Nat := 48
def id_bytesTrimLeftASCII : Nat := 54
def id_bytesTrimLeftByte : Nat := 52
def id_bytesTrimLeftUnicode : Nat := 55
def id_charsCheck : Nat := 18
def id_charsDigit : Nat := 24
def id_charsLetter : Nat := 41
def id_charsName : Nat := 19
def id_charsPrintable : Nat := 14
def id_charsRune : Nat := 16
def id_charsSpace : Nat := 23
def id_internalBytealgIndexByte : Nat := 51
def id_keepCopyByte : Nat := 42
def id_keepCutByte : Nat := 20
def id_keepIntact : Nat := 27
def id_keepLend : Nat := 25
def id_keepText : Nat := 17
def id_keepWithin : Nat := 13
def id_law01CharsBack : Nat := 3
def id_law01CharsChecks : Nat := 10
def id_law01CharsKinds : Nat := 9
def id_law01CharsLong : Nat := 8
def id_law01CharsNames : Nat := 5
def id_law01CharsReturns : Nat := 4
def id_law01CharsRunes : Nat := 6
def id_law01CharsWhole : Nat := 7
def id_law01Wakes : Nat := 15
def id_law02LinesBlanks : Nat := 11
def id_law02LinesSplit : Nat := 12
def id_law02Wakes : Nat := 33
def id_linesAt : Nat := 36
def id_linesBlank : Nat := 31
def id_linesBreak : Nat := 32
def id_linesIndent : Nat := 30
def id_linesSplit : Nat := 29
def id_linesText : Nat := 47
def id_ref01At : Nat := 37
def id_ref01Blank : Nat := 39
def id_ref01Break : Nat := 35
def id_ref01Check : Nat := 26
def id_ref01Indent : Nat := 38
def id_ref01Letter : Nat := 44
def id_ref01Marked : Nat := 43
def id_ref01Name : Nat := 28
def id_ref01Printable : Nat := 22
def id_ref01Rune : Nat := 21
def id_ref01Split : Nat := 34
def id_unicodeUtf8DecodeRune : Nat := 40
def id_unicodeUtf8DecodeRuneSlow : Nat := 49
def asJIT {α : Type} (v : AV) (K : Int → Int → Option α) : Option α :=
  asT v fun l1 => asC l1 fun x2 r2 => asI .i32 x2 fun a0 => asC r2 fun x3 r3 => asI .i64 x3 fun a1 => asN r3 <| K a0 a1
def asJIBT {α : Type} (v : AV) (K : Int → Int → Bool → Option α) : Option α :=
  asT v fun l1 => asC l1 fun x2 r2 => asI .i32 x2 fun a0 => asC r2 fun x3 r3 => asI .i64 x3 fun a1 => asC r3 fun x4 r4 => asB x4 fun a2 => asN r4 <| K a0 a1 a2
def asIIT {α : Type} (v : AV) (K : Int → Int → Option α) : Option α :=
  asT v fun l1 => asC l1 fun x2 r2 => asI .i64 x2 fun a0 => asC r2 fun x3 r3 => asI .i64 x3 fun a1 => asN r3 <| K a0 a1
def asIIIA {α : Type} (v : AV) (K : Int → Int → Int → Option α) : Option α :=
  asA v fun l1 => asC l1 fun x2 r2 => asI .i64 x2 fun a0 => asC r2 fun x3 r3 => asI .i64 x3 fun a1 => asC r3 fun x4 r4 => asI .i64 x4 fun a2 => asN r4 <| K a0 a1 a2

def keepWithin_c0 : AC := .seq (.region [.op (some 4) none (.mv (.k (AV.int .i64 0)))]) (.seq (.seq (.region [.op (some 6) none (.mv (.t 1)), .op (some 7) none (.bin .lss (.t 6) (.k (AV.int .i64 1)))]) (.cond (.t 7) (.seq (.region [.op (some 4) none (.mv (.k (AV.int .i64 0)))]) (.ret [4] [])) (.skip))) (.seq (.region [.op (some 8) none (.mv (.t 0)), .op (some 9) none (.mv (.t 1)), .op (some 10) none (.bin .rem (.t 8) (.t 9)), .op (some 5) none (.mv (.t 10))]) (.seq (.seq (.region [.op (some 11) none (.mv (.t 5)), .op (some 12) none (.bin .lss (.t 11) (.k (AV.int .i64 0)))]) (.cond (.t 12) (.region [.op (some 13) none (.mv (.t 5)), .op (some 14) none (.mv (.t 1)), .op (some 15) none (.bin .add (.t 13) (.t 14)), .op (some 5) none (.mv (.t 15))]) (.skip))) (.seq (.region [.op (some 16) none (.mv (.t 5)), .op (some 4) none (.mv (.t 16))]) (.ret [4] [])))))
def keepWithin : AFunc := ⟨2, 17, [.tmp 4], keepWithin_c0⟩
def keepWithinr (R : Nat → List AV → Option Res) (N : Nat) (i1 : Int) (i2 : Int) : Option Res :=
  bif decide ((i2 : Int) < 1) then
    (some ⟨AV.int .i64 0, false, []⟩)
  else
    need (!decide (i2 = 0)) <|
    bif decide (((Int.tmod i1 i2) : Int) < 0) then
      (some ⟨AV.int .i64 (IntKind.i64.wrap ((Int.tmod i1 i2) + i2)), false, []⟩)
    else
      some ⟨AV.int .i64 (Int.tmod i1 i2), false, []⟩
theorem keepWithin_eq (R : Nat → List AV → Option Res) (N : Nat) (i1 : Int) (i2 : Int) : runF gl R N keepWithin [AV.int .i64 i1, AV.int .i64 i2] = keepWithinr R N i1 i2 := by
  kernel_rfl
theorem keepWithin_fit : fitF Tryd.prog keepWithin Tryd.f13 = true := by
  kernel_rfl

def charsPrintable_c0 : AC := .seq (.region [.op (some 2) none (.mv (.k (AV.bool false)))]) (.seq (.block 0 (.seq (.region [.op (some 4) none (.mv (.t 0)), .op (some 5) none (.bin .lss (.t 4) (.k (AV.int .i32 32))), .op (some 3) none (.mv (.t 5))]) (.cond (.t 3) (.seq (.region [.op (some 6) none (.mv (.t 0)), .op (some 7) none (.bin .eql (.t 6) (.k (AV.int .i32 9))), .op (some 8) none (.mv (.t 7)), .split 8, .op (some 9) (some (8, false)) (.mv (.t 0)), .op (some 10) (some (8, false)) (.bin .eql (.t 9) (.k (AV.int .i32 10))), .op (some 11) none (.pick (.t 8) (.k (AV.bool true)) (.t 10)), .op (some 12) none (.mv (.t 11)), .split 12, .op (some 13) (some (12, false)) (.mv (.t 0)), .op (some 14) (some (12, false)) (.bin .eql (.t 13) (.k (AV.int .i32 13))), .op (some 15) none (.pick (.t 12) (.k (AV.bool true)) (.t 14)), .op (some 2) none (.mv (.t 15))]) (.ret [2] [])) (.seq (.region [.op (some 17) none (.mv (.t 0)), .op (some 18) none (.bin .gtr (.t 17) (.k (AV.int .i32 126))), .op (some 19) none (.mv (.t 18)), .split 19, .op (some 20) (some (19, true)) (.mv (.t 0)), .op (some 21) (some (19, true)) (.bin .lss (.t 20) (.k (AV.int .i32 160))), .op (some 22) none (.pick (.t 19) (.t 21) (.k (AV.bool false))), .op (some 16) none (.mv (.t 22))]) (.cond (.t 16) (.seq (.region [.op (some 23) none (.mv (.t 0)), .op (some 24) none (.bin .eql (.t 23) (.k (AV.int .i32 133))), .op (some 2) none (.mv (.t 24))]) (.ret [2] [])) (.seq (.region [.op (some 26) none (.mv (.t 0)), .op (some 27) none (.bin .geq (.t 26) (.k (AV.int .i32 55296))), .op (some 28) none (.mv (.t 27)), .split 28, .op (some 29) (some (28, true)) (.mv (.t 0)), .op (some 30) (some (28, true)) (.bin .leq (.t 29) (.k (AV.int .i32 57343))), .op (some 31) none (.pick (.t 28) (.t 30) (.k (AV.bool false))), .op (some 32) none (.mv (.t 31)), .split 32, .op (some 33) (some (32, false)) (.mv (.t 0)), .op (some 34) (some (32, false)) (.bin .eql (.t 33) (.k (AV.int .i32 65279))), .op (some 35) none (.pick (.t 32) (.k (AV.bool true)) (.t 34)), .op (some 36) none (.mv (.t 35)), .split 36, .op (some 37) (some (36, false)) (.mv (.t 0)), .op (some 38) (some (36, false)) (.bin .eql (.t 37) (.k (AV.int .i32 65534))), .op (some 39) none (.pick (.t 36) (.k (AV.bool true)) (.t 38)), .op (some 40) none (.mv (.t 39)), .split 40, .op (some 41) (some (40, false)) (.mv (.t 0)), .op (some 42) (some (40, false)) (.bin .eql (.t 41) (.k (AV.int .i32 65535))), .op (some 43) none (.pick (.t 40) (.k (AV.bool true)) (.t 42)), .op (some 25) none (.mv (.t 43))]) (.cond (.t 25) (.seq (.region [.op (some 2) none (.mv (.k (AV.bool false)))]) (.ret [2] [])) (.skip)))))))) (.seq (.region [.op (some 44) none (.mv (.t 0)), .op (some 45) none (.bin .leq (.t 44) (.k (AV.int .i32 1114111))), .op (some 2) none (.mv (.t 45))]) (.ret [2] [])))
def charsPrintable : AFunc := ⟨1, 46, [.tmp 2], charsPrintable_c0⟩
def charsPrintabler (R : Nat → List AV → Option Res) (N : Nat) (i1 : Int) : Option Res :=
  bif decide ((i1 : Int) < 32) then
    (bif (i1 : Int) == 9 then
      (some ⟨AV.bool true, false, []⟩)
    else
      bif (i1 : Int) == 10 then
        (some ⟨AV.bool true, false, []⟩)
      else
        some ⟨AV.bool ((i1 : Int) == 13), false, []⟩)
  else
    bif decide ((i1 : Int) > 126) then
      (bif decide ((i1 : Int) < 160) then
        (some ⟨AV.bool ((i1 : Int) == 133), false, []⟩)
      else
        bif decide ((i1 : Int) ≥ 55296) then
          (bif decide ((i1 : Int) ≤ 57343) then
            (some ⟨AV.bool false, false, []⟩)
          else
            bif (i1 : Int) == 65279 then
              (some ⟨AV.bool false, false, []⟩)
            else
              bif (i1 : Int) == 65534 then
                (some ⟨AV.bool false, false, []⟩)
              else
                bif (i1 : Int) == 65535 then
                  (some ⟨AV.bool false, false, []⟩)
                else
                  some ⟨AV.bool (decide ((i1 : Int) ≤ 1114111)), false, []⟩)
        else
          bif (i1 : Int) == 65279 then
            (some ⟨AV.bool false, false, []⟩)
          else
            bif (i1 : Int) == 65534 then
              (some ⟨AV.bool false, false, []⟩)
            else
              bif (i1 : Int) == 65535 then
                (some ⟨AV.bool false, false, []⟩)
              else
                some ⟨AV.bool (decide ((i1 : Int) ≤ 1114111)), false, []⟩)
    else
      bif decide ((i1 : Int) ≥ 55296) then
        (bif decide ((i1 : Int) ≤ 57343) then
          (some ⟨AV.bool false, false, []⟩)
        else
          bif (i1 : Int) == 65279 then
            (some ⟨AV.bool false, false, []⟩)
          else
            bif (i1 : Int) == 65534 then
              (some ⟨AV.bool false, false, []⟩)
            else
              bif (i1 : Int) == 65535 then
                (some ⟨AV.bool false, false, []⟩)
              else
                some ⟨AV.bool (decide ((i1 : Int) ≤ 1114111)), false, []⟩)
      else
        bif (i1 : Int) == 65279 then
          (some ⟨AV.bool false, false, []⟩)
        else
          bif (i1 : Int) == 65534 then
            (some ⟨AV.bool false, false, []⟩)
          else
            bif (i1 : Int) == 65535 then
              (some ⟨AV.bool false, false, []⟩)
            else
              some ⟨AV.bool (decide ((i1 : Int) ≤ 1114111)), false, []⟩
theorem charsPrintable_eq (R : Nat → List AV → Option Res) (N : Nat) (i1 : Int) : runF gl R N charsPrintable [AV.int .i32 i1] = charsPrintabler R N i1 := by
  kernel_rfl
theorem charsPrintable_fit : fitF Tryd.prog charsPrintable Tryd.f14 = true := by
  kernel_rfl

def unicodeUtf8DecodeRuneSlow_c1 : AC := .seq (.region [.op (some 2) none (.mv (.k (AV.int .i32 0))), .op (some 3) none (.mv (.k (AV.int .i64 0)))]) (.seq (.region [.op (some 13) none (.mv (.t 0)), .op (some 14) none (.len (.t 13) false), .op (some 4) none (.mv (.t 14))]) (.seq (.seq (.region [.op (some 15) none (.mv (.t 4)), .op (some 16) none (.bin .lss (.t 15) (.k (AV.int .i64 1)))]) (.cond (.t 16) (.seq (.region [.op (some 2) none (.mv (.k (AV.int .i32 65533))), .op (some 3) none (.mv (.k (AV.int .i64 0)))]) (.ret [2, 3] [])) (.skip))) (.seq (.region [.op (some 17) none (.mv (.t 0)), .op (some 18) none (.iaddr (.t 17) (.k (AV.int .i64 0)) 1 (.int .u8)), .op (some 19) none (.load (.t 18) none (.int .u8)), .op (some 5) none (.mv (.t 19))]) (.stuck))))
def unicodeUtf8DecodeRuneSlow : AFunc := ⟨1, 122, [.tmp 2, .tmp 3], unicodeUtf8DecodeRuneSlow_c1⟩
def unicodeUtf8DecodeRuneSlowr (R : Nat → List AV → Option Res) (N : Nat) (s1 : List UInt8) : Option Res :=
  bif decide ((((s1.length : Nat) : Int) : Int) < 1) then
    (some ⟨AV.tup [AV.int .i32 65533, AV.int .i64 0], false, []⟩)
  else
    need (decide (0 ≤ (0 : Int))) <|
    (s1[Int.toNat 0]?).bind fun c1 =>
    none
theorem unicodeUtf8DecodeRuneSlow_eq (R : Nat → List AV → Option Res) (N : Nat) (s1 : List UInt8) : runF gl R N unicodeUtf8DecodeRuneSlow [AV.bytes s1] = unicodeUtf8DecodeRuneSlowr R N s1 := by
  kernel_rfl
theorem unicodeUtf8DecodeRuneSlow_fit : fitF Tryd.prog unicodeUtf8DecodeRuneSlow Tryd.f49 = true := by
  kernel_rfl

def unicodeUtf8DecodeRune_L1s (R : Nat → List AV → Option Res) (N : Nat) (go : List UInt8 → List UInt8 → Int → Int → Option Res) (k0 : Int → Int → Option Res) (k1 : List UInt8 → Option Res) (s2 : List UInt8) (s3 : List UInt8) (i1 : Int) (i2 : Int) : Option Res :=
  bif decide ((i2 : Int) < i1) then
    (need (decide (0 ≤ (i2 : Int))) <|
    (s3[Int.toNat i2]?).bind fun c1 =>
    bif decide (((c1.toNat : Int) : Int) < 128) then
      (k0 (IntKind.i32.wrap (c1.toNat : Int)) 1)
    else
      k1 s2)
  else
    k1 s2
def unicodeUtf8DecodeRune_L1 (R : Nat → List AV → Option Res) (N : Nat) (k0 : Int → Int → Option Res) (k1 : List UInt8 → Option Res) : Nat → List UInt8 → List UInt8 → Int → Int → Option Res
  | 0, _, _, _, _ => none
  | n + 1, s2, s3, i1, i2 => unicodeUtf8DecodeRune_L1s R N (unicodeUtf8DecodeRune_L1 R N k0 k1 n) k0 k1 s2 s3 i1 i2
def unicodeUtf8DecodeRune_c0 : AC := .seq (.region [.op (some 9) none (.bin .lss (.t 8) (.t 7))]) (.seq (.cond (.t 9) (.skip) (.exit 0 [0] [])) (.seq (.block 1 (.seq (.region [.op (some 10) none (.iaddr (.t 6) (.t 8) 1 (.int .u8)), .op (some 11) none (.load (.t 10) none (.int .u8)), .op (some 5) none (.mv (.t 11))]) (.seq (.seq (.region [.op (some 12) none (.mv (.t 5)), .op (some 13) none (.bin .lss (.t 12) (.k (AV.int .u8 128)))]) (.cond (.t 13) (.seq (.region [.op (some 14) none (.mv (.t 5)), .op (some 15) none (.cvInt .i32 (.t 14)), .op (some 2) none (.mv (.t 15)), .op (some 3) none (.mv (.k (AV.int .i64 1)))]) (.ret [2, 3] [])) (.skip))) (.exit 0 [0] [])))) (.region [.op (some 16) none (.bin .add (.t 8) (.k (AV.int .i64 1))), .op (some 8) none (.mv (.t 16))])))
theorem unicodeUtf8DecodeRune_L1s_eq (R : Nat → List AV → Option Res) (N : Nat) (K : Ex → St → Option Res) (W : St → Option Res) (s2 : List UInt8) (s3 : List UInt8) (i1 : Int) (i2 : Int) :
    evC gl R N unicodeUtf8DecodeRune_c0 (Kseq (fun st' => W (prune [0, 6, 7, 8] [] st')) K) ⟨[(0, .imm (AV.bytes s2)), (6, .imm (AV.bytes s3)), (7, .imm (AV.int .i64 i1)), (8, .imm (AV.int .i64 i2))], []⟩ =
    unicodeUtf8DecodeRune_L1s R N (fun (s2 : List UInt8) (s3 : List UInt8) (i1 : Int) (i2 : Int) => W ⟨[(0, .imm (AV.bytes s2)), (6, .imm (AV.bytes s3)), (7, .imm (AV.int .i64 i1)), (8, .imm (AV.int .i64 i2))], []⟩) (fun (i3 : Int) (i4 : Int) => K .ret ⟨[(2, .imm (AV.int .i32 i3)), (3, .imm (AV.int .i64 i4))], []⟩) (fun (s4 : List UInt8) => K (.exit 0) ⟨[(0, .imm (AV.bytes s4))], []⟩) s2 s3 i1 i2 := by
  kernel_rfl
theorem unicodeUtf8DecodeRune_L1_eq (R : Nat → List AV → Option Res) (N : Nat) (K : Ex → St → Option Res) : ∀ (n : Nat) (s2 : List UInt8) (s3 : List UInt8) (i1 : Int) (i2 : Int),
    rounds [0, 6, 7, 8] [] (evC gl R N unicodeUtf8DecodeRune_c0) K n ⟨[(0, .imm (AV.bytes s2)), (6, .imm (AV.bytes s3)), (7, .imm (AV.int .i64 i1)), (8, .imm (AV.int .i64 i2))], []⟩ = unicodeUtf8DecodeRune_L1 R N (fun (i3 : Int) (i4 : Int) => K .ret ⟨[(2, .imm (AV.int .i32 i3)), (3, .imm (AV.int .i64 i4))], []⟩) (fun (s4 : List UInt8) => K (.exit 0) ⟨[(0, .imm (AV.bytes s4))], []⟩) n s2 s3 i1 i2
  | 0, _, _, _, _ => rfl
  | n + 1, s2, s3, i1, i2 => (unicodeUtf8DecodeRune_L1s_eq R N K (rounds [0, 6, 7, 8] [] (evC gl R N unicodeUtf8DecodeRune_c0) K n) s2 s3 i1 i2).trans
      (congrArg (fun go => unicodeUtf8DecodeRune_L1s R N go (fun (i3 : Int) (i4 : Int) => K .ret ⟨[(2, .imm (AV.int .i32 i3)), (3, .imm (AV.int .i64 i4))], []⟩) (fun (s4 : List UInt8) => K (.exit 0) ⟨[(0, .imm (AV.bytes s4))], []⟩) s2 s3 i1 i2) (funext fun s2 => funext fun s3 => funext fun i1 => funext fun i2 => unicodeUtf8DecodeRune_L1_eq R N K n s2 s3 i1 i2))
def unicodeUtf8DecodeRune_c1 : AC := .seq (.region [.op (some 18) none (.mv (.t 0)), .op (some 19) none (.call id_unicodeUtf8DecodeRuneSlow [.t 18] (.tup [.int .i32, .int .i64])), .op (some 17) none (.mv (.t 19)), .op (some 20) none (.extract (.t 17) 0), .op (some 21) none (.extract (.t 17) 1), .op (some 2) none (.mv (.t 20)), .op (some 3) none (.mv (.t 21))]) (.ret [2, 3] [])
def unicodeUtf8DecodeRune_c2 : AC := .seq (.region [.op (some 2) none (.mv (.k (AV.int .i32 0))), .op (some 3) none (.mv (.k (AV.int .i64 0)))]) (.seq (.seq (.region [.op (some 6) none (.mv (.t 0)), .op (some 7) none (.len (.t 6) false), .op (some 8) none (.mv (.k (AV.int .i64 0)))]) (.block 0 (.loop [0, 6, 7, 8] [] (unicodeUtf8DecodeRune_c0)))) (unicodeUtf8DecodeRune_c1))
def unicodeUtf8DecodeRune : AFunc := ⟨1, 22, [.tmp 2, .tmp 3], unicodeUtf8DecodeRune_c2⟩
def unicodeUtf8DecodeRuner (R : Nat → List AV → Option Res) (N : Nat) (s1 : List UInt8) : Option Res :=
  unicodeUtf8DecodeRune_L1 R N
    (fun i7 i8 =>
      some ⟨AV.tup [AV.int .i32 i7, AV.int .i64 i8], false, []⟩)
    (fun s6 =>
      (R id_unicodeUtf8DecodeRuneSlow [AV.bytes s6]).bind fun r1 =>
      asJIT r1.v fun i9 i10 =>
      some ⟨AV.tup [AV.int .i32 i9, AV.int .i64 i10], false, []⟩)
    N s1 s1 ((s1.length : Nat) : Int) 0
theorem unicodeUtf8DecodeRune_eq (R : Nat → List AV → Option Res) (N : Nat) (s1 : List UInt8) : runF gl R N unicodeUtf8DecodeRune [AV.bytes s1] = unicodeUtf8DecodeRuner R N s1 := by
  refine Eq.trans (b :=
      rounds [0, 6, 7, 8] [] (evC gl R N unicodeUtf8DecodeRune_c0) (Kblock 0 (Kthen gl R N unicodeUtf8DecodeRune_c1 (Kret unicodeUtf8DecodeRune.rets))) N ⟨[(0, .imm (AV.bytes s1)), (6, .imm (AV.bytes s1)), (7, .imm (AV.int .i64 ((s1.length : Nat) : Int))), (8, .imm (AV.int .i64 0))], []⟩) (by kernel_rfl) ?_
  simp (config := { maxSteps := 100000000 }) only [unicodeUtf8DecodeRune_L1_eq]
  kernel_rfl
theorem unicodeUtf8DecodeRune_fit : fitF Tryd.prog unicodeUtf8DecodeRune Tryd.f40 = true := by
  kernel_rfl

def charsRune_c0 : AC := .seq (.region [.op (some 2) none (.mv (.k (AV.int .i32 0))), .op (some 3) none (.mv (.k (AV.int .i64 0))), .op (some 4) none (.mv (.k (AV.bool false)))]) (.seq (.region [.op (some 6) none (.mv (.t 0)), .op (some 7) none (.call id_unicodeUtf8DecodeRune [.t 6] (.tup [.int .i32, .int .i64])), .op (some 5) none (.mv (.t 7)), .op (some 8) none (.extract (.t 5) 0), .op (some 9) none (.extract (.t 5) 1), .op (some 2) none (.mv (.t 8)), .op (some 3) none (.mv (.t 9))]) (.seq (.seq (.region [.op (some 10) none (.mv (.t 2)), .op (some 11) none (.bin .eql (.t 10) (.k (AV.int .i32 65533))), .op (some 12) none (.mv (.t 11)), .split 12, .op (some 13) (some (12, true)) (.mv (.t 3)), .op (some 14) (some (12, true)) (.bin .lss (.t 13) (.k (AV.int .i64 2))), .op (some 15) none (.pick (.t 12) (.t 14) (.k (AV.bool false)))]) (.cond (.t 15) (.seq (.region [.op (some 16) none (.mv (.t 3)), .op (some 2) none (.mv (.k (AV.int .i32 0))), .op (some 3) none (.mv (.t 16)), .op (some 4) none (.mv (.k (AV.bool false)))]) (.ret [2, 3, 4] [])) (.skip))) (.seq (.region [.op (some 17) none (.mv (.t 2)), .op (some 18) none (.mv (.t 3)), .op (some 2) none (.mv (.t 17)), .op (some 3) none (.mv (.t 18)), .op (some 4) none (.mv (.k (AV.bool true)))]) (.ret [2, 3, 4] []))))
def charsRune : AFunc := ⟨1, 19, [.tmp 2, .tmp 3, .tmp 4], charsRune_c0⟩
def charsRuner (R : Nat → List AV → Option Res) (N : Nat) (s1 : List UInt8) : Option Res :=
  (R id_unicodeUtf8DecodeRune [AV.bytes s1]).bind fun r1 =>
  asJIT r1.v fun i1 i2 =>
  bif (i1 : Int) == 65533 then
    (bif decide ((i2 : Int) < 2) then
      (some ⟨AV.tup [AV.int .i32 0, AV.int .i64 i2, AV.bool false], false, []⟩)
    else
      some ⟨AV.tup [AV.int .i32 i1, AV.int .i64 i2, AV.bool true], false, []⟩)
  else
    some ⟨AV.tup [AV.int .i32 i1, AV.int .i64 i2, AV.bool true], false, []⟩
theorem charsRune_eq (R : Nat → List AV → Option Res) (N : Nat) (s1 : List UInt8) : runF gl R N charsRune [AV.bytes s1] = charsRuner R N s1 := by
  kernel_rfl
theorem charsRune_fit : fitF Tryd.prog charsRune Tryd.f16 = true := by
  kernel_rfl

def charsCheck_L1s (R : Nat → List AV → Option Res) (N : Nat) (go : List UInt8 → Int → Option Res) (k0 : Int → Int → Option Res) (k1 : Option Res) (s2 : List UInt8) (i1 : Int) : Option Res :=
  bif decide ((i1 : Int) < ((s2.length : Nat) : Int)) then
    (need (decide (0 ≤ (i1 : Int)) && decide ((i1 : Int) ≤ ((s2.length : Nat) : Int))) <|
    (R id_charsRune [AV.bytes ((s2.take s2.length).drop (Int.toNat i1))]).bind fun r1 =>
    asJIBT r1.v fun i2 i3 b1 =>
    bif (i2 : Int) == 13 then
      (bif ((IntKind.i64.wrap (i1 + 1)) : Int) == ((s2.length : Nat) : Int) then
        (bif !b1 then
          (k0 i1 1)
        else
          k0 i1 1)
      else
        need (decide (0 ≤ (IntKind.i64.wrap (i1 + 1) : Int))) <|
        (s2[Int.toNat (IntKind.i64.wrap (i1 + 1))]?).bind fun c1 =>
        bif !b1 then
          (k0 i1 1)
        else
          bif ((c1.toNat : Int) : Int) != 10 then
            (k0 i1 1)
          else
            (R id_charsPrintable [AV.int .i32 i2]).bind fun r2 =>
            asB r2.v fun b2 =>
            bif !b2 then
              (k0 i1 1)
            else
              go s2 (IntKind.i64.wrap (i1 + i3)))
    else
      bif !b1 then
        (k0 i1 1)
      else
        (R id_charsPrintable [AV.int .i32 i2]).bind fun r3 =>
        asB r3.v fun b3 =>
        bif !b3 then
          (k0 i1 1)
        else
          go s2 (IntKind.i64.wrap (i1 + i3)))
  else
    k1
def charsCheck_L1 (R : Nat → List AV → Option Res) (N : Nat) (k0 : Int → Int → Option Res) (k1 : Option Res) : Nat → List UInt8 → Int → Option Res
  | 0, _, _ => none
  | n + 1, s2, i1 => charsCheck_L1s R N (charsCheck_L1 R N k0 k1 n) k0 k1 s2 i1
def charsCheck_c0 : AC := .seq (.seq (.region [.op (some 20) none (.mv (.t 2)), .op (some 21) none (.mv (.t 0)), .op (some 22) none (.len (.t 21) false), .op (some 23) none (.bin .lss (.t 20) (.t 22))]) (.cond (.t 23) (.skip) (.exit 0 [] []))) (.block 1 (.seq (.region [.op (some 25) none (.mv (.t 0)), .op (some 26) none (.mv (.t 2)), .op (some 27) none (.slice (.t 25) (some (.t 26)) none 1), .op (some 28) none (.call id_charsRune [.t 27] (.tup [.int .i32, .int .i64, .bool])), .op (some 24) none (.mv (.t 28)), .op (some 29) none (.extract (.t 24) 0), .op (some 30) none (.extract (.t 24) 1), .op (some 31) none (.extract (.t 24) 2), .op (some 4) none (.mv (.t 29)), .op (some 5) none (.mv (.t 30)), .op (some 6) none (.mv (.t 31))]) (.seq (.region [.op (some 32) none (.mv (.t 4)), .op (some 33) none (.bin .eql (.t 32) (.k (AV.int .i32 13))), .op (some 34) none (.mv (.t 33)), .split 34, .op (some 35) (some (34, true)) (.mv (.t 2)), .op (some 36) (some (34, true)) (.bin .add (.t 35) (.k (AV.int .i64 1))), .op (some 37) (some (34, true)) (.mv (.t 0)), .op (some 38) (some (34, true)) (.len (.t 37) false), .op (some 39) (some (34, true)) (.bin .eql (.t 36) (.t 38)), .op (some 40) (some (34, true)) (.mv (.t 39)), .split 40, .op (some 41) (some (40, false)) (.mv (.t 0)), .op (some 42) (some (40, false)) (.mv (.t 2)), .op (some 43) (some (40, false)) (.bin .add (.t 42) (.k (AV.int .i64 1))), .op (some 44) (some (40, false)) (.iaddr (.t 41) (.t 43) 1 (.int .u8)), .op (some 45) (some (40, false)) (.load (.t 44) none (.int .u8)), .op (some 46) (some (40, false)) (.bin .neq (.t 45) (.k (AV.int .u8 10))), .op (some 47) (some (34, true)) (.pick (.t 40) (.k (AV.bool true)) (.t 46)), .op (some 48) none (.pick (.t 34) (.t 47) (.k (AV.bool false))), .op (some 7) none (.mv (.t 48))]) (.seq (.seq (.region [.op (some 49) none (.mv (.t 6)), .op (some 50) none (.un .not (.t 49)), .op (some 51) none (.mv (.t 50)), .split 51, .op (some 52) (some (51, false)) (.mv (.t 7)), .op (some 53) none (.pick (.t 51) (.k (AV.bool true)) (.t 52)), .op (some 54) none (.mv (.t 53)), .split 54, .op (some 55) (some (54, false)) (.mv (.t 4)), .op (some 56) (some (54, false)) (.call id_charsPrintable [.t 55] (.bool)), .op (some 57) (some (54, false)) (.un .not (.t 56)), .op (some 58) none (.pick (.t 54) (.k (AV.bool true)) (.t 57))]) (.cond (.t 58) (.seq (.region [.op (some 59) none (.mv (.t 2)), .op (some 2) none (.mv (.t 59)), .op (some 3) none (.mv (.k (AV.int .i64 1)))]) (.ret [2, 3] [])) (.skip))) (.region [.op (some 60) none (.mv (.t 2)), .op (some 61) none (.mv (.t 5)), .op (some 62) none (.bin .add (.t 60) (.t 61)), .op (some 2) none (.mv (.t 62))])))))
theorem charsCheck_L1s_eq (R : Nat → List AV → Option Res) (N : Nat) (K : Ex → St → Option Res) (W : St → Option Res) (s2 : List UInt8) (i1 : Int) :
    evC gl R N charsCheck_c0 (Kseq (fun st' => W (prune [0, 2] [] st')) K) ⟨[(0, .imm (AV.bytes s2)), (2, .imm (AV.int .i64 i1))], []⟩ =
    charsCheck_L1s R N (fun (s2 : List UInt8) (i1 : Int) => W ⟨[(0, .imm (AV.bytes s2)), (2, .imm (AV.int .i64 i1))], []⟩) (fun (i4 : Int) (i5 : Int) => K .ret ⟨[(2, .imm (AV.int .i64 i4)), (3, .imm (AV.int .i64 i5))], []⟩) (K (.exit 0) ⟨[], []⟩) s2 i1 := by
  kernel_rfl
theorem charsCheck_L1_eq (R : Nat → List AV → Option Res) (N : Nat) (K : Ex → St → Option Res) : ∀ (n : Nat) (s2 : List UInt8) (i1 : Int),
    rounds [0, 2] [] (evC gl R N charsCheck_c0) K n ⟨[(0, .imm (AV.bytes s2)), (2, .imm (AV.int .i64 i1))], []⟩ = charsCheck_L1 R N (fun (i4 : Int) (i5 : Int) => K .ret ⟨[(2, .imm (AV.int .i64 i4)), (3, .imm (AV.int .i64 i5))], []⟩) (K (.exit 0) ⟨[], []⟩) n s2 i1
  | 0, _, _ => rfl
  | n + 1, s2, i1 => (charsCheck_L1s_eq R N K (rounds [0, 2] [] (evC gl R N charsCheck_c0) K n) s2 i1).trans
      (congrArg (fun go => charsCheck_L1s R N go (fun (i4 : Int) (i5 : Int) => K .ret ⟨[(2, .imm (AV.int .i64 i4)), (3, .imm (AV.int .i64 i5))], []⟩) (K (.exit 0) ⟨[], []⟩) s2 i1) (funext fun s2 => funext fun i1 => charsCheck_L1_eq R N K n s2 i1))
def charsCheck_c1 : AC := .seq (.region [.op (some 2) none (.mv (.k (AV.int .i64 0))), .op (some 3) none (.mv (.k (AV.int .i64 0)))]) (.ret [2, 3] [])
def charsCheck_c2 : AC := .seq (.region [.op (some 2) none (.mv (.k (AV.int .i64 0))), .op (some 3) none (.mv (.k (AV.int .i64 0)))]) (.seq (.seq (.region [.op (some 8) none (.mv (.t 0)), .op (some 9) none (.len (.t 8) false), .op (some 10) none (.bin .gtr (.t 9) (.k (AV.int .i64 65536)))]) (.cond (.t 10) (.seq (.region [.op (some 2) none (.mv (.k (AV.int .i64 65536))), .op (some 3) none (.mv (.k (AV.int .i64 10)))]) (.ret [2, 3] [])) (.skip))) (.seq (.seq (.region [.op (some 11) none (.mv (.t 0)), .op (some 12) none (.len (.t 11) false), .op (some 13) none (.bin .geq (.t 12) (.k (AV.int .i64 3))), .op (some 14) none (.mv (.t 13)), .split 14, .op (some 15) (some (14, true)) (.mv (.t 0)), .op (some 16) (some (14, true)) (.slice (.t 15) none (some (.k (AV.int .i64 3))) 1), .op (some 17) (some (14, true)) (.cvStr (.t 16)), .op (some 18) (some (14, true)) (.bin .eql (.t 17) (.k (AV.str [239, 187, 191]))), .op (some 19) none (.pick (.t 14) (.t 18) (.k (AV.bool false)))]) (.cond (.t 19) (.region [.op (some 2) none (.mv (.k (AV.int .i64 3)))]) (.skip))) (.seq (.block 0 (.loop [0, 2] [] (charsCheck_c0))) (charsCheck_c1))))
def charsCheck : AFunc := ⟨1, 63, [.tmp 2, .tmp 3], charsCheck_c2⟩
def charsCheckr (R : Nat → List AV → Option Res) (N : Nat) (s1 : List UInt8) : Option Res :=
  bif decide ((((s1.length : Nat) : Int) : Int) > 65536) then
    (some ⟨AV.tup [AV.int .i64 65536, AV.int .i64 10], false, []⟩)
  else
    bif decide ((((s1.length : Nat) : Int) : Int) ≥ 3) then
      (need (decide (0 ≤ (3 : Int)) && decide ((3 : Int) ≤ ((s1.length : Nat) : Int))) <|
      bif ((s1.take (Int.toNat 3)).drop 0) == [239, 187, 191] then
        (charsCheck_L1 R N
          (fun i8 i9 =>
            some ⟨AV.tup [AV.int .i64 i8, AV.int .i64 i9], false, []⟩)
          (
            some ⟨AV.tup [AV.int .i64 0, AV.int .i64 0], false, []⟩)
          N s1 3)
      else
        charsCheck_L1 R N
          (fun i10 i11 =>
            some ⟨AV.tup [AV.int .i64 i10, AV.int .i64 i11], false, []⟩)
          (
            some ⟨AV.tup [AV.int .i64 0, AV.int .i64 0], false, []⟩)
          N s1 0)
    else
      charsCheck_L1 R N
        (fun i12 i13 =>
          some ⟨AV.tup [AV.int .i64 i12, AV.int .i64 i13], false, []⟩)
        (
          some ⟨AV.tup [AV.int .i64 0, AV.int .i64 0], false, []⟩)
        N s1 0
theorem charsCheck_eq (R : Nat → List AV → Option Res) (N : Nat) (s1 : List UInt8) : runF gl R N charsCheck [AV.bytes s1] = charsCheckr R N s1 := by
  refine Eq.trans (b :=
      bif decide ((((s1.length : Nat) : Int) : Int) > 65536) then
        (some ⟨AV.tup [AV.int .i64 65536, AV.int .i64 10], false, []⟩)
      else
        bif decide ((((s1.length : Nat) : Int) : Int) ≥ 3) then
          (need (decide (0 ≤ (3 : Int)) && decide ((3 : Int) ≤ ((s1.length : Nat) : Int))) <|
          bif ((s1.take (Int.toNat 3)).drop 0) == [239, 187, 191] then
            (rounds [0, 2] [] (evC gl R N charsCheck_c0) (Kblock 0 (Kthen gl R N charsCheck_c1 (Kret charsCheck.rets))) N ⟨[(0, .imm (AV.bytes s1)), (2, .imm (AV.int .i64 3))], []⟩)
          else
            rounds [0, 2] [] (evC gl R N charsCheck_c0) (Kblock 0 (Kthen gl R N charsCheck_c1 (Kret charsCheck.rets))) N ⟨[(0, .imm (AV.bytes s1)), (2, .imm (AV.int .i64 0))], []⟩)
        else
          rounds [0, 2] [] (evC gl R N charsCheck_c0) (Kblock 0 (Kthen gl R N charsCheck_c1 (Kret charsCheck.rets))) N ⟨[(0, .imm (AV.bytes s1)), (2, .imm (AV.int .i64 0))], []⟩) (by kernel_rfl) ?_
  simp (config := { maxSteps := 100000000 }) only [charsCheck_L1_eq]
  kernel_rfl
theorem charsCheck_fit : fitF Tryd.prog charsCheck Tryd.f18 = true := by
  kernel_rfl

def charsDigit_c0 : AC := .seq (.region [.op (some 2) none (.mv (.k (AV.bool false)))]) (.seq (.region [.op (some 3) none (.mv (.t 0)), .op (some 4) none (.bin .geq (.t 3) (.k (AV.int .u8 48))), .op (some 5) none (.mv (.t 4)), .split 5, .op (some 6) (some (5, true)) (.mv (.t 0)), .op (some 7) (some (5, true)) (.bin .leq (.t 6) (.k (AV.int .u8 57))), .op (some 8) none (.pick (.t 5) (.t 7) (.k (AV.bool false))), .op (some 2) none (.mv (.t 8))]) (.ret [2] []))
def charsDigit : AFunc := ⟨1, 9, [.tmp 2], charsDigit_c0⟩
def charsDigitr (R : Nat → List AV → Option Res) (N : Nat) (i1 : Int) : Option Res :=
  bif decide ((i1 : Int) ≥ 48) then
    (some ⟨AV.bool (decide ((i1 : Int) ≤ 57)), false, []⟩)
  else
    some ⟨AV.bool false, false, []⟩
theorem charsDigit_eq (R : Nat → List AV → Option Res) (N : Nat) (i1 : Int) : runF gl R N charsDigit [AV.int .u8 i1] = charsDigitr R N i1 := by
  kernel_rfl
theorem charsDigit_fit : fitF Tryd.prog charsDigit Tryd.f24 = true := by
  kernel_rfl

def charsLetter_c0 : AC := .seq (.region [.op (some 2) none (.mv (.k (AV.bool false)))]) (.seq (.region [.op (some 3) none (.mv (.t 0)), .op (some 4) none (.bin .geq (.t 3) (.k (AV.int .u8 97))), .op (some 5) none (.mv (.t 4)), .split 5, .op (some 6) (some (5, true)) (.mv (.t 0)), .op (some 7) (some (5, true)) (.bin .leq (.t 6) (.k (AV.int .u8 122))), .op (some 8) none (.pick (.t 5) (.t 7) (.k (AV.bool false))), .op (some 9) none (.mv (.t 8)), .split 9, .op (some 10) (some (9, false)) (.mv (.t 0)), .op (some 11) (some (9, false)) (.bin .geq (.t 10) (.k (AV.int .u8 65))), .op (some 12) (some (9, false)) (.mv (.t 11)), .split 12, .op (some 13) (some (12, true)) (.mv (.t 0)), .op (some 14) (some (12, true)) (.bin .leq (.t 13) (.k (AV.int .u8 90))), .op (some 15) (some (9, false)) (.pick (.t 12) (.t 14) (.k (AV.bool false))), .op (some 16) none (.pick (.t 9) (.k (AV.bool true)) (.t 15)), .op (some 17) none (.mv (.t 16)), .split 17, .op (some 18) (some (17, false)) (.mv (.t 0)), .op (some 19) (some (17, false)) (.call id_charsDigit [.t 18] (.bool)), .op (some 20) none (.pick (.t 17) (.k (AV.bool true)) (.t 19)), .op (some 21) none (.mv (.t 20)), .split 21, .op (some 22) (some (21, false)) (.mv (.t 0)), .op (some 23) (some (21, false)) (.bin .eql (.t 22) (.k (AV.int .u8 45))), .op (some 24) none (.pick (.t 21) (.k (AV.bool true)) (.t 23)), .op (some 25) none (.mv (.t 24)), .split 25, .op (some 26) (some (25, false)) (.mv (.t 0)), .op (some 27) (some (25, false)) (.bin .eql (.t 26) (.k (AV.int .u8 95))), .op (some 28) none (.pick (.t 25) (.k (AV.bool true)) (.t 27)), .op (some 2) none (.mv (.t 28))]) (.ret [2] []))
def charsLetter : AFunc := ⟨1, 29, [.tmp 2], charsLetter_c0⟩
def charsLetterr (R : Nat → List AV → Option Res) (N : Nat) (i1 : Int) : Option Res :=
  bif decide ((i1 : Int) ≥ 97) then
    (bif decide ((i1 : Int) ≤ 122) then
      (some ⟨AV.bool true, false, []⟩)
    else
      bif decide ((i1 : Int) ≥ 65) then
        (bif decide ((i1 : Int) ≤ 90) then
          (some ⟨AV.bool true, false, []⟩)
        else
          (R id_charsDigit [AV.int .u8 i1]).bind fun r1 =>
          asB r1.v fun b1 =>
          bif b1 then
            (some ⟨AV.bool true, false, []⟩)
          else
            bif (i1 : Int) == 45 then
              (some ⟨AV.bool true, false, []⟩)
            else
              some ⟨AV.bool ((i1 : Int) == 95), false, []⟩)
      else
        (R id_charsDigit [AV.int .u8 i1]).bind fun r2 =>
        asB r2.v fun b2 =>
        bif b2 then
          (some ⟨AV.bool true, false, []⟩)
        else
          bif (i1 : Int) == 45 then
            (some ⟨AV.bool true, false, []⟩)
          else
            some ⟨AV.bool ((i1 : Int) == 95), false, []⟩)
  else
    bif decide ((i1 : Int) ≥ 65) then
      (bif decide ((i1 : Int) ≤ 90) then
        (some ⟨AV.bool true, false, []⟩)
      else
        (R id_charsDigit [AV.int .u8 i1]).bind fun r3 =>
        asB r3.v fun b3 =>
        bif b3 then
          (some ⟨AV.bool true, false, []⟩)
        else
          bif (i1 : Int) == 45 then
            (some ⟨AV.bool true, false, []⟩)
          else
            some ⟨AV.bool ((i1 : Int) == 95), false, []⟩)
    else
      (R id_charsDigit [AV.int .u8 i1]).bind fun r4 =>
      asB r4.v fun b4 =>
      bif b4 then
        (some ⟨AV.bool true, false, []⟩)
      else
        bif (i1 : Int) == 45 then
          (some ⟨AV.bool true, false, []⟩)
        else
          some ⟨AV.bool ((i1 : Int) == 95), false, []⟩
theorem charsLetter_eq (R : Nat → List AV → Option Res) (N : Nat) (i1 : Int) : runF gl R N charsLetter [AV.int .u8 i1] = charsLetterr R N i1 := by
  kernel_rfl
theorem charsLetter_fit : fitF Tryd.prog charsLetter Tryd.f41 = true := by
  kernel_rfl

def charsName_L1s (R : Nat → List AV → Option Res) (N : Nat) (go : List UInt8 → List UInt8 → Int → Int → Option Res) (k0 : Bool → Option Res) (k1 : List UInt8 → Option Res) (s2 : List UInt8) (s3 : List UInt8) (i1 : Int) (i2 : Int) : Option Res :=
  bif decide ((i2 : Int) < i1) then
    (need (decide (0 ≤ (i2 : Int))) <|
    (s3[Int.toNat i2]?).bind fun c1 =>
    (R id_charsLetter [AV.int .u8 (c1.toNat : Int)]).bind fun r1 =>
    asB r1.v fun b1 =>
    bif !b1 then
      (k0 false)
    else
      go s2 s3 i1 (IntKind.i64.wrap (i2 + 1)))
  else
    k1 s2
def charsName_L1 (R : Nat → List AV → Option Res) (N : Nat) (k0 : Bool → Option Res) (k1 : List UInt8 → Option Res) : Nat → List UInt8 → List UInt8 → Int → Int → Option Res
  | 0, _, _, _, _ => none
  | n + 1, s2, s3, i1, i2 => charsName_L1s R N (charsName_L1 R N k0 k1 n) k0 k1 s2 s3 i1 i2
def charsName_c0 : AC := .seq (.region [.op (some 9) none (.bin .lss (.t 8) (.t 7))]) (.seq (.cond (.t 9) (.skip) (.exit 0 [0] [])) (.seq (.block 1 (.seq (.region [.op (some 10) none (.iaddr (.t 6) (.t 8) 1 (.int .u8)), .op (some 11) none (.load (.t 10) none (.int .u8)), .op (some 4) none (.mv (.t 11))]) (.seq (.region [.op (some 12) none (.mv (.t 4)), .op (some 13) none (.call id_charsLetter [.t 12] (.bool)), .op (some 14) none (.un .not (.t 13))]) (.cond (.t 14) (.seq (.region [.op (some 2) none (.mv (.k (AV.bool false)))]) (.ret [2] [])) (.skip))))) (.region [.op (some 15) none (.bin .add (.t 8) (.k (AV.int .i64 1))), .op (some 8) none (.mv (.t 15))])))
theorem charsName_L1s_eq (R : Nat → List AV → Option Res) (N : Nat) (K : Ex → St → Option Res) (W : St → Option Res) (s2 : List UInt8) (s3 : List UInt8) (i1 : Int) (i2 : Int) :
    evC gl R N charsName_c0 (Kseq (fun st' => W (prune [0, 6, 7, 8] [] st')) K) ⟨[(0, .imm (AV.str s2)), (6, .imm (AV.bytes s3)), (7, .imm (AV.int .i64 i1)), (8, .imm (AV.int .i64 i2))], []⟩ =
    charsName_L1s R N (fun (s2 : List UInt8) (s3 : List UInt8) (i1 : Int) (i2 : Int) => W ⟨[(0, .imm (AV.str s2)), (6, .imm (AV.bytes s3)), (7, .imm (AV.int .i64 i1)), (8, .imm (AV.int .i64 i2))], []⟩) (fun (b2 : Bool) => K .ret ⟨[(2, .imm (AV.bool b2))], []⟩) (fun (s4 : List UInt8) => K (.exit 0) ⟨[(0, .imm (AV.str s4))], []⟩) s2 s3 i1 i2 := by
  kernel_rfl
theorem charsName_L1_eq (R : Nat → List AV → Option Res) (N : Nat) (K : Ex → St → Option Res) : ∀ (n : Nat) (s2 : List UInt8) (s3 : List UInt8) (i1 : Int) (i2 : Int),
    rounds [0, 6, 7, 8] [] (evC gl R N charsName_c0) K n ⟨[(0, .imm (AV.str s2)), (6, .imm (AV.bytes s3)), (7, .imm (AV.int .i64 i1)), (8, .imm (AV.int .i64 i2))], []⟩ = charsName_L1 R N (fun (b2 : Bool) => K .ret ⟨[(2, .imm (AV.bool b2))], []⟩) (fun (s4 : List UInt8) => K (.exit 0) ⟨[(0, .imm (AV.str s4))], []⟩) n s2 s3 i1 i2
  | 0, _, _, _, _ => rfl
  | n + 1, s2, s3, i1, i2 => (charsName_L1s_eq R N K (rounds [0, 6, 7, 8] [] (evC gl R N charsName_c0) K n) s2 s3 i1 i2).trans
      (congrArg (fun go => charsName_L1s R N go (fun (b2 : Bool) => K .ret ⟨[(2, .imm (AV.bool b2))], []⟩) (fun (s4 : List UInt8) => K (.exit 0) ⟨[(0, .imm (AV.str s4))], []⟩) s2 s3 i1 i2) (funext fun s2 => funext fun s3 => funext fun i1 => funext fun i2 => charsName_L1_eq R N K n s2 s3 i1 i2))
def charsName_c1 : AC := .seq (.region [.op (some 16) none (.mv (.t 0)), .op (some 17) none (.bin .neq (.t 16) (.k (AV.str []))), .op (some 18) none (.mv (.t 17)), .split 18, .op (some 19) (some (18, true)) (.mv (.t 0)), .op (some 20) (some (18, true)) (.len (.t 19) true), .op (some 21) (some (18, true)) (.bin .leq (.t 20) (.k (AV.int .i64 32))), .op (some 22) none (.pick (.t 18) (.t 21) (.k (AV.bool false))), .op (some 2) none (.mv (.t 22))]) (.ret [2] [])
def charsName_c2 : AC := .seq (.region [.op (some 2) none (.mv (.k (AV.bool false)))]) (.seq (.seq (.region [.op (some 5) none (.mv (.t 0)), .op (some 6) none (.cvBytes (.t 5)), .op (some 7) none (.len (.t 6) false), .op (some 8) none (.mv (.k (AV.int .i64 0)))]) (.block 0 (.loop [0, 6, 7, 8] [] (charsName_c0)))) (charsName_c1))
def charsName : AFunc := ⟨1, 23, [.tmp 2], charsName_c2⟩
def charsNamer (R : Nat → List AV → Option Res) (N : Nat) (s1 : List UInt8) : Option Res :=
  charsName_L1 R N
    (fun b4 =>
      some ⟨AV.bool b4, false, []⟩)
    (fun s6 =>
      bif !(s6 == []) then
        (some ⟨AV.bool (decide ((((s6.length : Nat) : Int) : Int) ≤ 32)), false, []⟩)
      else
        some ⟨AV.bool false, false, []⟩)
    N s1 s1 ((s1.length : Nat) : Int) 0
theorem charsName_eq (R : Nat → List AV → Option Res) (N : Nat) (s1 : List UInt8) : runF gl R N charsName [AV.str s1] = charsNamer R N s1 := by
  refine Eq.trans (b :=
      rounds [0, 6, 7, 8] [] (evC gl R N charsName_c0) (Kblock 0 (Kthen gl R N charsName_c1 (Kret charsName.rets))) N ⟨[(0, .imm (AV.str s1)), (6, .imm (AV.bytes s1)), (7, .imm (AV.int .i64 ((s1.length : Nat) : Int))), (8, .imm (AV.int .i64 0))], []⟩) (by kernel_rfl) ?_
  simp (config := { maxSteps := 100000000 }) only [charsName_L1_eq]
  kernel_rfl
theorem charsName_fit : fitF Tryd.prog charsName Tryd.f19 = true := by
  kernel_rfl

def law01Wakes_c0 : AC := .seq (.region [.op (some 0) none (.mv (.k (AV.bool false)))]) (.seq (.region [.op (some 7) none (.bslice [.k (AV.int .u8 97), .k (AV.int .u8 0)] 1 true), .op (some 8) none (.call id_charsCheck [.t 7] (.tup [.int .i64, .int .i64])), .op (some 6) none (.mv (.t 8)), .op (some 9) none (.extract (.t 6) 0), .op (some 10) none (.extract (.t 6) 1), .op (some 1) none (.mv (.t 9)), .op (some 2) none (.mv (.t 10))]) (.seq (.region [.op (some 12) none (.bsliceOwn 12 [.k (AV.int .u8 195), .k (AV.int .u8 169)] 1 .any true), .op (some 13) none (.cvSame (.t 12)), .op (some 14) none (.call id_charsRune [.t 13] (.tup [.int .i32, .int .i64, .bool])), .op (some 11) none (.mv (.t 14)), .op (some 15) none (.extract (.t 11) 0), .op (some 16) none (.extract (.t 11) 1), .op (some 17) none (.extract (.t 11) 2), .op (some 3) none (.mv (.t 15)), .op (some 4) none (.mv (.t 16)), .op (some 5) none (.mv (.t 17))]) (.seq (.region [.op (some 18) none (.mv (.t 1)), .op (some 19) none (.bin .eql (.t 18) (.k (AV.int .i64 1))), .op (some 20) none (.mv (.t 19)), .split 20, .op (some 21) (some (20, true)) (.mv (.t 2)), .op (some 22) (some (20, true)) (.bin .eql (.t 21) (.k (AV.int .i64 1))), .op (some 23) none (.pick (.t 20) (.t 22) (.k (AV.bool false))), .op (some 24) none (.mv (.t 23)), .split 24, .op (some 25) (some (24, true)) (.mv (.t 5)), .op (some 26) none (.pick (.t 24) (.t 25) (.k (AV.bool false))), .op (some 27) none (.mv (.t 26)), .split 27, .op (some 28) (some (27, true)) (.mv (.t 3)), .op (some 29) (some (27, true)) (.bin .eql (.t 28) (.k (AV.int .i32 233))), .op (some 30) none (.pick (.t 27) (.t 29) (.k (AV.bool false))), .op (some 31) none (.mv (.t 30)), .split 31, .op (some 32) (some (31, true)) (.mv (.t 4)), .op (some 33) (some (31, true)) (.bin .eql (.t 32) (.k (AV.int .i64 2))), .op (some 34) none (.pick (.t 31) (.t 33) (.k (AV.bool false))), .op (some 35) none (.mv (.t 34)), .split 35, .op (some 36) (some (35, true)) (.call id_charsName [.k (AV.str [97, 45, 49, 95, 98])] (.bool)), .op (some 37) none (.pick (.t 35) (.t 36) (.k (AV.bool false))), .op (some 0) none (.mv (.t 37))]) (.ret [0] []))))
def law01Wakes : AFunc := ⟨0, 38, [.tmp 0], law01Wakes_c0⟩
def law01Wakesr (R : Nat → List AV → Option Res) (N : Nat) : Option Res :=
  (R id_charsCheck [AV.bytes [97, 0]]).bind fun r1 =>
  asIIT r1.v fun i1 i2 =>
  (R id_charsRune [AV.bytes (([195, 169].drop 0).take 2)]).bind fun r2 =>
  asJIBT r2.v fun i3 i4 b1 =>
  bif (i1 : Int) == 1 then
    (bif (i2 : Int) == 1 then
      (bif b1 then
        (bif (i3 : Int) == 233 then
          (bif (i4 : Int) == 2 then
            ((R id_charsName [AV.str [97, 45, 49, 95, 98]]).bind fun r3 =>
            asB r3.v fun b2 =>
            some ⟨AV.bool b2, false, []⟩)
          else
            some ⟨AV.bool false, false, []⟩)
        else
          some ⟨AV.bool false, false, []⟩)
      else
        some ⟨AV.bool false, false, []⟩)
    else
      some ⟨AV.bool false, false, []⟩)
  else
    some ⟨AV.bool false, false, []⟩
theorem law01Wakes_eq (R : Nat → List AV → Option Res) (N : Nat) : runF gl R N law01Wakes [] = law01Wakesr R N := by
  kernel_rfl
theorem law01Wakes_fit : fitF Tryd.prog law01Wakes Tryd.f15 = true := by
  kernel_rfl

def keepText_c0 : AC := .seq (.region [.op (some 4) none (.mv (.k (AV.str [])))]) (.seq (.region [.op (some 5) none (.mv (.t 0)), .op (some 6) none (.mv (.t 0)), .op (some 7) none (.len (.t 6) true), .op (some 8) none (.mv (.t 1)), .op (some 9) none (.mn [.t 7, .t 8]), .op (some 10) none (.sliceS (.t 5) none (some (.t 9))), .op (some 4) none (.mv (.t 10))]) (.ret [4] []))
def keepText : AFunc := ⟨2, 11, [.tmp 4], keepText_c0⟩
def keepTextr (R : Nat → List AV → Option Res) (N : Nat) (s1 : List UInt8) (i1 : Int) : Option Res :=
  need (decide (0 ≤ (if i1 < ((s1.length : Nat) : Int) then i1 else ((s1.length : Nat) : Int) : Int)) && decide ((if i1 < ((s1.length : Nat) : Int) then i1 else ((s1.length : Nat) : Int) : Int) ≤ ((s1.length : Nat) : Int))) <|
  some ⟨AV.str ((s1.take (Int.toNat (if i1 < ((s1.length : Nat) : Int) then i1 else ((s1.length : Nat) : Int)))).drop 0), false, []⟩
theorem keepText_eq (R : Nat → List AV → Option Res) (N : Nat) (s1 : List UInt8) (i1 : Int) : runF gl R N keepText [AV.str s1, AV.int .i64 i1] = keepTextr R N s1 i1 := by
  kernel_rfl
theorem keepText_fit : fitF Tryd.prog keepText Tryd.f17 = true := by
  kernel_rfl

def law01CharsBack_c0 : AC := .seq (.region [.op (some 6) none (.mv (.k (AV.bool false)))]) (.seq (.region [.op (some 15) none (.mv (.t 0)), .op (some 16) none (.call id_keepWithin [.t 15, .k (AV.int .i64 1114112)] (.int .i64)), .op (some 17) none (.cvInt .i32 (.t 16)), .op (some 7) none (.mv (.t 17))]) (.seq (.seq (.region [.op (some 18) none (.mv (.t 7)), .op (some 19) none (.bin .geq (.t 18) (.k (AV.int .i32 55296))), .op (some 20) none (.mv (.t 19)), .split 20, .op (some 21) (some (20, true)) (.mv (.t 7)), .op (some 22) (some (20, true)) (.bin .leq (.t 21) (.k (AV.int .i32 57343))), .op (some 23) none (.pick (.t 20) (.t 22) (.k (AV.bool false)))]) (.cond (.t 23) (.seq (.region [.op (some 24) none (.mv (.t 7)), .op (some 25) none (.call id_charsPrintable [.t 24] (.bool)), .op (some 26) none (.un .not (.t 25)), .op (some 27) none (.mv (.t 26)), .split 27, .op (some 28) (some (27, true)) (.call id_law01Wakes [] (.bool)), .op (some 29) none (.pick (.t 27) (.t 28) (.k (AV.bool false))), .op (some 6) none (.mv (.t 29))]) (.ret [6] [])) (.skip))) (.seq (.region [.op (some 30) none (.mv (.t 7)), .op (some 31) none (.cvRune (.t 30)), .op (some 8) none (.mv (.t 31))]) (.seq (.region [.op (some 33) none (.mv (.t 8)), .op (some 34) none (.mv (.t 1)), .op (some 35) none (.call id_keepText [.t 34, .k (AV.int .i64 5)] (.str)), .op (some 36) none (.bin .add (.t 33) (.t 35)), .op (some 37) none (.cvBytes (.t 36)), .op (some 38) none (.call id_charsRune [.t 37] (.tup [.int .i32, .int .i64, .bool])), .op (some 32) none (.mv (.t 38)), .op (some 39) none (.extract (.t 32) 0), .op (some 40) none (.extract (.t 32) 1), .op (some 41) none (.extract (.t 32) 2), .op (some 9) none (.mv (.t 39)), .op (some 10) none (.mv (.t 40)), .op (some 11) none (.mv (.t 41))]) (.seq (.seq (.region [.op (some 42) none (.mv (.t 11)), .op (some 43) none (.un .not (.t 42)), .op (some 44) none (.mv (.t 43)), .split 44, .op (some 45) (some (44, false)) (.mv (.t 9)), .op (some 46) (some (44, false)) (.mv (.t 7)), .op (some 47) (some (44, false)) (.bin .neq (.t 45) (.t 46)), .op (some 48) none (.pick (.t 44) (.k (AV.bool true)) (.t 47)), .op (some 49) none (.mv (.t 48)), .split 49, .op (some 50) (some (49, false)) (.mv (.t 10)), .op (some 51) (some (49, false)) (.mv (.t 8)), .op (some 52) (some (49, false)) (.len (.t 51) true), .op (some 53) (some (49, false)) (.bin .neq (.t 50) (.t 52)), .op (some 54) none (.pick (.t 49) (.k (AV.bool true)) (.t 53))]) (.cond (.t 54) (.seq (.region [.op (some 6) none (.mv (.k (AV.bool false)))]) (.ret [6] [])) (.skip))) (.seq (.region [.op (some 55) none (.mv (.t 2)), .op (some 56) none (.mv (.t 8)), .op (some 57) none (.len (.t 56) true), .op (some 58) none (.call id_keepWithin [.t 55, .t 57] (.int .i64)), .op (some 2) none (.mv (.t 58))]) (.seq (.region [.op (some 60) none (.mv (.t 8)), .op (some 61) none (.mv (.t 2)), .op (some 62) none (.sliceS (.t 60) none (some (.t 61))), .op (some 63) none (.cvBytes (.t 62)), .op (some 64) none (.call id_charsRune [.t 63] (.tup [.int .i32, .int .i64, .bool])), .op (some 59) none (.mv (.t 64)), .op (some 65) none (.extract (.t 59) 0), .op (some 66) none (.extract (.t 59) 1), .op (some 67) none (.extract (.t 59) 2), .op (some 12) none (.mv (.t 65)), .op (some 13) none (.mv (.t 66)), .op (some 14) none (.mv (.t 67))]) (.seq (.region [.op (some 68) none (.mv (.t 14)), .op (some 69) none (.un .not (.t 68)), .op (some 70) none (.mv (.t 69)), .split 70, .op (some 71) (some (70, true)) (.mv (.t 13)), .op (some 72) (some (70, true)) (.mv (.t 2)), .op (some 73) (some (70, true)) (.mn [.t 72, .k (AV.int .i64 1)]), .op (some 74) (some (70, true)) (.bin .eql (.t 71) (.t 73)), .op (some 75) none (.pick (.t 70) (.t 74) (.k (AV.bool false))), .op (some 76) none (.mv (.t 75)), .split 76, .op (some 77) (some (76, true)) (.call id_law01Wakes [] (.bool)), .op (some 78) none (.pick (.t 76) (.t 77) (.k (AV.bool false))), .op (some 6) none (.mv (.t 78))]) (.ret [6] [])))))))))
def law01CharsBack : AFunc := ⟨3, 79, [.tmp 6], law01CharsBack_c0⟩
def law01CharsBackr (R : Nat → List AV → Option Res) (N : Nat) (i1 : Int) (s1 : List UInt8) (i2 : Int) : Option Res :=
  (R id_keepWithin [AV.int .i64 i1, AV.int .i64 1114112]).bind fun r1 =>
  asI .i64 r1.v fun i3 =>
  bif decide (((IntKind.i32.wrap i3) : Int) ≥ 55296) then
    (bif decide (((IntKind.i32.wrap i3) : Int) ≤ 57343) then
      ((R id_charsPrintable [AV.int .i32 (IntKind.i32.wrap i3)]).bind fun r2 =>
      asB r2.v fun b1 =>
      bif !b1 then
        ((R id_law01Wakes []).bind fun r3 =>
        asB r3.v fun b2 =>
        some ⟨AV.bool b2, false, []⟩)
      else
        some ⟨AV.bool false, false, []⟩)
    else
      (R id_keepText [AV.str s1, AV.int .i64 5]).bind fun r4 =>
      asS r4.v fun s2 =>
      need (decide (((Utf8.encode (IntKind.i32.wrap i3)).data.toList).length + s2.length ≤ 9223372036854775807)) <|
      (R id_charsRune [AV.bytes (((Utf8.encode (IntKind.i32.wrap i3)).data.toList) ++ s2)]).bind fun r5 =>
      asJIBT r5.v fun i4 i5 b3 =>
      bif !b3 then
        (some ⟨AV.bool false, false, []⟩)
      else
        bif (i4 : Int) != (IntKind.i32.wrap i3) then
          (some ⟨AV.bool false, false, []⟩)
        else
          bif (i5 : Int) != ((((Utf8.encode (IntKind.i32.wrap i3)).data.toList).length : Nat) : Int) then
            (some ⟨AV.bool false, false, []⟩)
          else
            (R id_keepWithin [AV.int .i64 i2, AV.int .i64 ((((Utf8.encode (IntKind.i32.wrap i3)).data.toList).length : Nat) : Int)]).bind fun r6 =>
            asI .i64 r6.v fun i6 =>
            need (decide (0 ≤ (i6 : Int)) && decide ((i6 : Int) ≤ ((((Utf8.encode (IntKind.i32.wrap i3)).data.toList).length : Nat) : Int))) <|
            (R id_charsRune [AV.bytes ((((Utf8.encode (IntKind.i32.wrap i3)).data.toList).take (Int.toNat i6)).drop 0)]).bind fun r7 =>
            asJIBT r7.v fun i7 i8 b4 =>
            bif !b4 then
              (bif (i8 : Int) == (if 1 < i6 then 1 else i6) then
                ((R id_law01Wakes []).bind fun r8 =>
                asB r8.v fun b5 =>
                some ⟨AV.bool b5, false, []⟩)
              else
                some ⟨AV.bool false, false, []⟩)
            else
              some ⟨AV.bool false, false, []⟩)
  else
    (R id_keepText [AV.str s1, AV.int .i64 5]).bind fun r9 =>
    asS r9.v fun s3 =>
    need (decide (((Utf8.encode (IntKind.i32.wrap i3)).data.toList).length + s3.length ≤ 9223372036854775807)) <|
    (R id_charsRune [AV.bytes (((Utf8.encode (IntKind.i32.wrap i3)).data.toList) ++ s3)]).bind fun r10 =>
    asJIBT r10.v fun i9 i10 b6 =>
    bif !b6 then
      (some ⟨AV.bool false, false, []⟩)
    else
      bif (i9 : Int) != (IntKind.i32.wrap i3) then
        (some ⟨AV.bool false, false, []⟩)
      else
        bif (i10 : Int) != ((((Utf8.encode (IntKind.i32.wrap i3)).data.toList).length : Nat) : Int) then
          (some ⟨AV.bool false, false, []⟩)
        else
          (R id_keepWithin [AV.int .i64 i2, AV.int .i64 ((((Utf8.encode (IntKind.i32.wrap i3)).data.toList).length : Nat) : Int)]).bind fun r11 =>
          asI .i64 r11.v fun i11 =>
          need (decide (0 ≤ (i11 : Int)) && decide ((i11 : Int) ≤ ((((Utf8.encode (IntKind.i32.wrap i3)).data.toList).length : Nat) : Int))) <|
          (R id_charsRune [AV.bytes ((((Utf8.encode (IntKind.i32.wrap i3)).data.toList).take (Int.toNat i11)).drop 0)]).bind fun r12 =>
          asJIBT r12.v fun i12 i13 b7 =>
          bif !b7 then
            (bif (i13 : Int) == (if 1 < i11 then 1 else i11) then
              ((R id_law01Wakes []).bind fun r13 =>
              asB r13.v fun b8 =>
              some ⟨AV.bool b8, false, []⟩)
            else
              some ⟨AV.bool false, false, []⟩)
          else
            some ⟨AV.bool false, false, []⟩
theorem law01CharsBack_eq (R : Nat → List AV → Option Res) (N : Nat) (i1 : Int) (s1 : List UInt8) (i2 : Int) : runF gl R N law01CharsBack [AV.int .i64 i1, AV.str s1, AV.int .i64 i2] = law01CharsBackr R N i1 s1 i2 := by
  kernel_rfl
theorem law01CharsBack_fit : fitF Tryd.prog law01CharsBack Tryd.f3 = true := by
  kernel_rfl

def law01CharsReturns_c0 : AC := .seq (.region [.op (some 4) none (.mv (.k (AV.bool false)))]) (.seq (.region [.op (some 16) none (.mv (.t 0)), .op (some 17) none (.call id_keepText [.t 16, .k (AV.int .i64 60)] (.str)), .op (some 18) none (.mv (.t 1)), .op (some 19) none (.call id_keepText [.t 18, .k (AV.int .i64 60)] (.str)), .op (some 0) none (.mv (.t 17)), .op (some 1) none (.mv (.t 19))]) (.seq (.region [.op (some 21) none (.mv (.t 0)), .op (some 22) none (.cvBytes (.t 21)), .op (some 23) none (.call id_charsCheck [.t 22] (.tup [.int .i64, .int .i64])), .op (some 20) none (.mv (.t 23)), .op (some 24) none (.extract (.t 20) 0), .op (some 25) none (.extract (.t 20) 1), .op (some 5) none (.mv (.t 24)), .op (some 6) none (.mv (.t 25))]) (.seq (.region [.op (some 27) none (.mv (.t 1)), .op (some 28) none (.cvBytes (.t 27)), .op (some 29) none (.call id_charsCheck [.t 28] (.tup [.int .i64, .int .i64])), .op (some 26) none (.mv (.t 29)), .op (some 30) none (.extract (.t 26) 0), .op (some 31) none (.extract (.t 26) 1), .op (some 7) none (.mv (.t 30)), .op (some 8) none (.mv (.t 31))]) (.seq (.seq (.region [.op (some 32) none (.mv (.t 6)), .op (some 33) none (.bin .neq (.t 32) (.k (AV.int .i64 0))), .op (some 34) none (.mv (.t 33)), .split 34, .op (some 35) (some (34, false)) (.mv (.t 8)), .op (some 36) (some (34, false)) (.bin .neq (.t 35) (.k (AV.int .i64 0))), .op (some 37) none (.pick (.t 34) (.k (AV.bool true)) (.t 36)), .op (some 38) none (.mv (.t 37)), .split 38, .op (some 39) (some (38, false)) (.mv (.t 1)), .op (some 40) (some (38, false)) (.len (.t 39) true), .op (some 41) (some (38, false)) (.bin .gtr (.t 40) (.k (AV.int .i64 0))), .op (some 42) (some (38, false)) (.mv (.t 41)), .split 42, .op (some 43) (some (42, true)) (.mv (.t 1)), .op (some 44) (some (42, true)) (.index (.t 43) (.k (AV.int .i64 0))), .op (some 45) (some (42, true)) (.bin .eql (.t 44) (.k (AV.int .u8 10))), .op (some 46) (some (38, false)) (.pick (.t 42) (.t 45) (.k (AV.bool false))), .op (some 47) none (.pick (.t 38) (.k (AV.bool true)) (.t 46)), .op (some 48) none (.mv (.t 47)), .split 48, .op (some 49) (some (48, false)) (.mv (.t 1)), .op (some 50) (some (48, false)) (.len (.t 49) true), .op (some 51) (some (48, false)) (.bin .geq (.t 50) (.k (AV.int .i64 3))), .op (some 52) (some (48, false)) (.mv (.t 51)), .split 52, .op (some 53) (some (52, true)) (.mv (.t 1)), .op (some 54) (some (52, true)) (.sliceS (.t 53) none (some (.k (AV.int .i64 3)))), .op (some 55) (some (52, true)) (.bin .eql (.t 54) (.k (AV.str [239, 187, 191]))), .op (some 56) (some (48, false)) (.pick (.t 52) (.t 55) (.k (AV.bool false))), .op (some 57) none (.pick (.t 48) (.k (AV.bool true)) (.t 56))]) (.cond (.t 57) (.seq (.region [.op (some 58) none (.call id_law01Wakes [] (.bool)), .op (some 4) none (.mv (.t 58))]) (.ret [4] [])) (.skip))) (.seq (.region [.op (some 60) none (.mv (.t 0)), .op (some 61) none (.bin .add (.t 60) (.k (AV.str [13]))), .op (some 62) none (.mv (.t 1)), .op (some 63) none (.bin .add (.t 61) (.t 62)), .op (some 64) none (.cvBytes (.t 63)), .op (some 65) none (.call id_charsCheck [.t 64] (.tup [.int .i64, .int .i64])), .op (some 59) none (.mv (.t 65)), .op (some 66) none (.extract (.t 59) 0), .op (some 67) none (.extract (.t 59) 1), .op (some 9) none (.mv (.t 66)), .op (some 10) none (.mv (.t 67))]) (.seq (.region [.op (some 69) none (.mv (.t 0)), .op (some 70) none (.bin .add (.t 69) (.k (AV.str [13, 10]))), .op (some 71) none (.mv (.t 1)), .op (some 72) none (.bin .add (.t 70) (.t 71)), .op (some 73) none (.cvBytes (.t 72)), .op (some 74) none (.call id_charsCheck [.t 73] (.tup [.int .i64, .int .i64])), .op (some 68) none (.mv (.t 74)), .op (some 75) none (.extract (.t 68) 0), .op (some 76) none (.extract (.t 68) 1), .op (some 11) none (.mv (.t 75)), .op (some 12) none (.mv (.t 76))]) (.seq (.region [.op (some 78) none (.mv (.t 0)), .op (some 79) none (.bin .add (.t 78) (.k (AV.str [239, 187, 191]))), .op (some 80) none (.mv (.t 1)), .op (some 81) none (.bin .add (.t 79) (.t 80)), .op (some 82) none (.cvBytes (.t 81)), .op (some 83) none (.call id_charsCheck [.t 82] (.tup [.int .i64, .int .i64])), .op (some 77) none (.mv (.t 83)), .op (some 84) none (.extract (.t 77) 0), .op (some 85) none (.extract (.t 77) 1), .op (some 13) none (.mv (.t 84)), .op (some 14) none (.mv (.t 85))]) (.seq (.region [.op (some 86) none (.mv (.t 0)), .op (some 87) none (.bin .eql (.t 86) (.k (AV.str []))), .op (some 15) none (.mv (.t 87))]) (.seq (.region [.op (some 88) none (.mv (.t 10)), .op (some 89) none (.bin .eql (.t 88) (.k (AV.int .i64 1))), .op (some 90) none (.mv (.t 89)), .split 90, .op (some 91) (some (90, true)) (.mv (.t 9)), .op (some 92) (some (90, true)) (.mv (.t 0)), .op (some 93) (some (90, true)) (.len (.t 92) true), .op (some 94) (some (90, true)) (.bin .eql (.t 91) (.t 93)), .op (some 95) none (.pick (.t 90) (.t 94) (.k (AV.bool false))), .op (some 96) none (.mv (.t 95)), .split 96, .op (some 97) (some (96, true)) (.mv (.t 12)), .op (some 98) (some (96, true)) (.bin .eql (.t 97) (.k (AV.int .i64 0))), .op (some 99) none (.pick (.t 96) (.t 98) (.k (AV.bool false))), .op (some 100) none (.mv (.t 99)), .split 100, .op (some 101) (some (100, true)) (.mv (.t 14)), .op (some 102) (some (100, true)) (.bin .eql (.t 101) (.k (AV.int .i64 0))), .op (some 103) (some (100, true)) (.mv (.t 15)), .op (some 104) (some (100, true)) (.binB .eql (.t 102) (.t 103)), .op (some 105) none (.pick (.t 100) (.t 104) (.k (AV.bool false))), .op (some 106) none (.mv (.t 105)), .split 106, .op (some 107) (some (106, true)) (.mv (.t 15)), .op (some 108) (some (106, true)) (.mv (.t 107)), .split 108, .op (some 109) (some (108, false)) (.mv (.t 13)), .op (some 110) (some (108, false)) (.mv (.t 0)), .op (some 111) (some (108, false)) (.len (.t 110) true), .op (some 112) (some (108, false)) (.bin .eql (.t 109) (.t 111)), .op (some 113) (some (106, true)) (.pick (.t 108) (.k (AV.bool true)) (.t 112)), .op (some 114) none (.pick (.t 106) (.t 113) (.k (AV.bool false))), .op (some 115) none (.mv (.t 114)), .split 115, .op (some 116) (some (115, true)) (.call id_law01Wakes [] (.bool)), .op (some 117) none (.pick (.t 115) (.t 116) (.k (AV.bool false))), .op (some 4) none (.mv (.t 117))]) (.ret [4] []))))))))))
def law01CharsReturns : AFunc := ⟨2, 118, [.tmp 4], law01CharsReturns_c0⟩
def law01CharsReturnsr (R : Nat → List AV → Option Res) (N : Nat) (s1 : List UInt8) (s2 : List UInt8) : Option Res :=
  (R id_keepText [AV.str s1, AV.int .i64 60]).bind fun r1 =>
  asS r1.v fun s3 =>
  (R id_keepText [AV.str s2, AV.int .i64 60]).bind fun r2 =>
  asS r2.v fun s4 =>
  (R id_charsCheck [AV.bytes s3]).bind fun r3 =>
  asIIT r3.v fun i1 i2 =>
  (R id_charsCheck [AV.bytes s4]).bind fun r4 =>
  asIIT r4.v fun i3 i4 =>
  bif (i2 : Int) != 0 then
    ((R id_law01Wakes []).bind fun r5 =>
    asB r5.v fun b1 =>
    some ⟨AV.bool b1, false, []⟩)
  else
    bif (i4 : Int) != 0 then
      ((R id_law01Wakes []).bind fun r6 =>
      asB r6.v fun b2 =>
      some ⟨AV.bool b2, false, []⟩)
    else
      bif decide ((((s4.length : Nat) : Int) : Int) > 0) then
        (need (decide (0 ≤ (0 : Int))) <|
        (s4[Int.toNat 0]?).bind fun c1 =>
        bif ((c1.toNat : Int) : Int) == 10 then
          ((R id_law01Wakes []).bind fun r7 =>
          asB r7.v fun b3 =>
          some ⟨AV.bool b3, false, []⟩)
        else
          bif decide ((((s4.length : Nat) : Int) : Int) ≥ 3) then
            (need (decide (0 ≤ (3 : Int)) && decide ((3 : Int) ≤ ((s4.length : Nat) : Int))) <|
            bif ((s4.take (Int.toNat 3)).drop 0) == [239, 187, 191] then
              ((R id_law01Wakes []).bind fun r8 =>
              asB r8.v fun b4 =>
              some ⟨AV.bool b4, false, []⟩)
            else
              need (decide (s3.length + [13].length ≤ 9223372036854775807)) <|
              need (decide ((s3 ++ [13]).length + s4.length ≤ 9223372036854775807)) <|
              (R id_charsCheck [AV.bytes ((s3 ++ [13]) ++ s4)]).bind fun r9 =>
              asIIT r9.v fun i5 i6 =>
              need (decide (s3.length + [13, 10].length ≤ 9223372036854775807)) <|
              need (decide ((s3 ++ [13, 10]).length + s4.length ≤ 9223372036854775807)) <|
              (R id_charsCheck [AV.bytes ((s3 ++ [13, 10]) ++ s4)]).bind fun r10 =>
              asIIT r10.v fun i7 i8 =>
              need (decide (s3.length + [239, 187, 191].length ≤ 9223372036854775807)) <|
              need (decide ((s3 ++ [239, 187, 191]).length + s4.length ≤ 9223372036854775807)) <|
              (R id_charsCheck [AV.bytes ((s3 ++ [239, 187, 191]) ++ s4)]).bind fun r11 =>
              asIIT r11.v fun i9 i10 =>
              bif (i6 : Int) == 1 then
                (bif (i5 : Int) == ((s3.length : Nat) : Int) then
                  (bif (i8 : Int) == 0 then
                    (bif ((i10 : Int) == 0) == (s3 == []) then
                      (bif s3 == [] then
                        ((R id_law01Wakes []).bind fun r12 =>
                        asB r12.v fun b5 =>
                        some ⟨AV.bool b5, false, []⟩)
                      else
                        bif (i9 : Int) == ((s3.length : Nat) : Int) then
                          ((R id_law01Wakes []).bind fun r13 =>
                          asB r13.v fun b6 =>
                          some ⟨AV.bool b6, false, []⟩)
                        else
                          some ⟨AV.bool false, false, []⟩)
                    else
                      some ⟨AV.bool false, false, []⟩)
                  else
                    some ⟨AV.bool false, false, []⟩)
                else
                  some ⟨AV.bool false, false, []⟩)
              else
                some ⟨AV.bool false, false, []⟩)
          else
            need (decide (s3.length + [13].length ≤ 9223372036854775807)) <|
            need (decide ((s3 ++ [13]).length + s4.length ≤ 9223372036854775807)) <|
            (R id_charsCheck [AV.bytes ((s3 ++ [13]) ++ s4)]).bind fun r14 =>
            asIIT r14.v fun i11 i12 =>
            need (decide (s3.length + [13, 10].length ≤ 9223372036854775807)) <|
            need (decide ((s3 ++ [13, 10]).length + s4.length ≤ 9223372036854775807)) <|
            (R id_charsCheck [AV.bytes ((s3 ++ [13, 10]) ++ s4)]).bind fun r15 =>
            asIIT r15.v fun i13 i14 =>
            need (decide (s3.length + [239, 187, 191].length ≤ 9223372036854775807)) <|
            need (decide ((s3 ++ [239, 187, 191]).length + s4.length ≤ 9223372036854775807)) <|
            (R id_charsCheck [AV.bytes ((s3 ++ [239, 187, 191]) ++ s4)]).bind fun r16 =>
            asIIT r16.v fun i15 i16 =>
            bif (i12 : Int) == 1 then
              (bif (i11 : Int) == ((s3.length : Nat) : Int) then
                (bif (i14 : Int) == 0 then
                  (bif ((i16 : Int) == 0) == (s3 == []) then
                    (bif s3 == [] then
                      ((R id_law01Wakes []).bind fun r17 =>
                      asB r17.v fun b7 =>
                      some ⟨AV.bool b7, false, []⟩)
                    else
                      bif (i15 : Int) == ((s3.length : Nat) : Int) then
                        ((R id_law01Wakes []).bind fun r18 =>
                        asB r18.v fun b8 =>
                        some ⟨AV.bool b8, false, []⟩)
                      else
                        some ⟨AV.bool false, false, []⟩)
                  else
                    some ⟨AV.bool false, false, []⟩)
                else
                  some ⟨AV.bool false, false, []⟩)
              else
                some ⟨AV.bool false, false, []⟩)
            else
              some ⟨AV.bool false, false, []⟩)
      else
        bif decide ((((s4.length : Nat) : Int) : Int) ≥ 3) then
          (need (decide (0 ≤ (3 : Int)) && decide ((3 : Int) ≤ ((s4.length : Nat) : Int))) <|
          bif ((s4.take (Int.toNat 3)).drop 0) == [239, 187, 191] then
            ((R id_law01Wakes []).bind fun r19 =>
            asB r19.v fun b9 =>
            some ⟨AV.bool b9, false, []⟩)
          else
            need (decide (s3.length + [13].length ≤ 9223372036854775807)) <|
            need (decide ((s3 ++ [13]).length + s4.length ≤ 9223372036854775807)) <|
            (R id_charsCheck [AV.bytes ((s3 ++ [13]) ++ s4)]).bind fun r20 =>
            asIIT r20.v fun i17 i18 =>
            need (decide (s3.length + [13, 10].length ≤ 9223372036854775807)) <|
            need (decide ((s3 ++ [13, 10]).length + s4.length ≤ 9223372036854775807)) <|
            (R id_charsCheck [AV.bytes ((s3 ++ [13, 10]) ++ s4)]).bind fun r21 =>
            asIIT r21.v fun i19 i20 =>
            need (decide (s3.length + [239, 187, 191].length ≤ 9223372036854775807)) <|
            need (decide ((s3 ++ [239, 187, 191]).length + s4.length ≤ 9223372036854775807)) <|
            (R id_charsCheck [AV.bytes ((s3 ++ [239, 187, 191]) ++ s4)]).bind fun r22 =>
            asIIT r22.v fun i21 i22 =>
            bif (i18 : Int) == 1 then
              (bif (i17 : Int) == ((s3.length : Nat) : Int) then
                (bif (i20 : Int) == 0 then
                  (bif ((i22 : Int) == 0) == (s3 == []) then
                    (bif s3 == [] then
                      ((R id_law01Wakes []).bind fun r23 =>
                      asB r23.v fun b10 =>
                      some ⟨AV.bool b10, false, []⟩)
                    else
                      bif (i21 : Int) == ((s3.length : Nat) : Int) then
                        ((R id_law01Wakes []).bind fun r24 =>
                        asB r24.v fun b11 =>
                        some ⟨AV.bool b11, false, []⟩)
                      else
                        some ⟨AV.bool false, false, []⟩)
                  else
                    some ⟨AV.bool false, false, []⟩)
                else
                  some ⟨AV.bool false, false, []⟩)
              else
                some ⟨AV.bool false, false, []⟩)
            else
              some ⟨AV.bool false, false, []⟩)
        else
          need (decide (s3.length + [13].length ≤ 9223372036854775807)) <|
          need (decide ((s3 ++ [13]).length + s4.length ≤ 9223372036854775807)) <|
          (R id_charsCheck [AV.bytes ((s3 ++ [13]) ++ s4)]).bind fun r25 =>
          asIIT r25.v fun i23 i24 =>
          need (decide (s3.length + [13, 10].length ≤ 9223372036854775807)) <|
          need (decide ((s3 ++ [13, 10]).length + s4.length ≤ 9223372036854775807)) <|
          (R id_charsCheck [AV.bytes ((s3 ++ [13, 10]) ++ s4)]).bind fun r26 =>
          asIIT r26.v fun i25 i26 =>
          need (decide (s3.length + [239, 187, 191].length ≤ 9223372036854775807)) <|
          need (decide ((s3 ++ [239, 187, 191]).length + s4.length ≤ 9223372036854775807)) <|
          (R id_charsCheck [AV.bytes ((s3 ++ [239, 187, 191]) ++ s4)]).bind fun r27 =>
          asIIT r27.v fun i27 i28 =>
          bif (i24 : Int) == 1 then
            (bif (i23 : Int) == ((s3.length : Nat) : Int) then
              (bif (i26 : Int) == 0 then
                (bif ((i28 : Int) == 0) == (s3 == []) then
                  (bif s3 == [] then
                    ((R id_law01Wakes []).bind fun r28 =>
                    asB r28.v fun b12 =>
                    some ⟨AV.bool b12, false, []⟩)
                  else
                    bif (i27 : Int) == ((s3.length : Nat) : Int) then
                      ((R id_law01Wakes []).bind fun r29 =>
                      asB r29.v fun b13 =>
                      some ⟨AV.bool b13, false, []⟩)
                    else
                      some ⟨AV.bool false, false, []⟩)
                else
                  some ⟨AV.bool false, false, []⟩)
              else
                some ⟨AV.bool false, false, []⟩)
            else
              some ⟨AV.bool false, false, []⟩)
          else
            some ⟨AV.bool false, false, []⟩
theorem law01CharsReturns_eq (R : Nat → List AV → Option Res) (N : Nat) (s1 : List UInt8) (s2 : List UInt8) : runF gl R N law01CharsReturns [AV.str s1, AV.str s2] = law01CharsReturnsr R N s1 s2 := by
  kernel_rfl
theorem law01CharsReturns_fit : fitF Tryd.prog law01CharsReturns Tryd.f4 = true := by
  kernel_rfl

def law01CharsNames_L1s (R : Nat → List AV → Option Res) (N : Nat) (go : Int → Int → Int → Nat → Int → Int → List UInt8 → Option Res) (k0 : Int → Int → Int → Nat → List UInt8 → Option Res) (i5 : Int) (i6 : Int) (i7 : Int) (n1 : Nat) (i8 : Int) (i9 : Int) (s1 : List UInt8) : Option Res :=
  bif decide ((i9 : Int) < i8) then
    (need (!decide (5 = 0)) <|
    need (decide (0 ≤ (Int.tmod i9 5 : Int))) <|
    (([97, 90, 48, 45, 95] : List UInt8)[Int.toNat (Int.tmod i9 5)]?).bind fun c1 =>
    need (decide (0 ≤ (i9 : Int)) && decide ((i9 : Int) < ((n1 : Nat) : Int))) <|
    need (decide (0 ≤ ((c1.toNat : Int) : Int)) && decide (((c1.toNat : Int) : Int) < 256)) <|
    need (Nat.beq 0 0 && decide (0 + Int.toNat i9 < s1.length) && Nat.beq 1 1) <|
    go i5 i6 i7 n1 i8 (IntKind.i64.wrap (i9 + 1)) (s1.set (0 + Int.toNat i9) (UInt8.ofNat (Int.toNat (c1.toNat : Int)))))
  else
    k0 i5 i6 i7 n1 s1
def law01CharsNames_L1 (R : Nat → List AV → Option Res) (N : Nat) (k0 : Int → Int → Int → Nat → List UInt8 → Option Res) : Nat → Int → Int → Int → Nat → Int → Int → List UInt8 → Option Res
  | 0, _, _, _, _, _, _, _ => none
  | n + 1, i5, i6, i7, n1, i8, i9, s1 => law01CharsNames_L1s R N (law01CharsNames_L1 R N k0 n) k0 i5 i6 i7 n1 i8 i9 s1
def law01CharsNames_c0 : AC := .seq (.region [.op (some 17) none (.bin .lss (.t 16) (.t 15))]) (.seq (.cond (.t 17) (.skip) (.exit 0 [0, 1, 2, 7] [13])) (.seq (.block 1 (.seq (.region [.op (some 18) none (.mv (.t 16)), .op (some 8) none (.mv (.t 18))]) (.region [.op (some 19) none (.mv (.t 7)), .op (some 20) none (.mv (.t 8)), .op (some 21) none (.mv (.t 8)), .op (some 22) none (.bin .rem (.t 21) (.k (AV.int .i64 5))), .op (some 23) none (.index (.k (AV.str [97, 90, 48, 45, 95])) (.t 22)), .op (some 24) none (.iaddr (.t 19) (.t 20) 1 (.int .u8)), .op none none (.store (.t 24) (.t 23) 1)]))) (.region [.op (some 25) none (.bin .add (.t 16) (.k (AV.int .i64 1))), .op (some 16) none (.mv (.t 25))])))
theorem law01CharsNames_L1s_eq (R : Nat → List AV → Option Res) (N : Nat) (K : Ex → St → Option Res) (W : St → Option Res) (i5 : Int) (i6 : Int) (i7 : Int) (n1 : Nat) (i8 : Int) (i9 : Int) (s1 : List UInt8) :
    evC gl R N law01CharsNames_c0 (Kseq (fun st' => W (prune [0, 1, 2, 7, 15, 16] [13] st')) K) ⟨[(0, .imm (AV.int .i64 i5)), (1, .imm (AV.int .i64 i6)), (2, .imm (AV.int .u8 i7)), (7, .own 13 0 n1 none), (15, .imm (AV.int .i64 i8)), (16, .imm (AV.int .i64 i9))], [(13, .bytes s1 false)]⟩ =
    law01CharsNames_L1s R N (fun (i5 : Int) (i6 : Int) (i7 : Int) (n1 : Nat) (i8 : Int) (i9 : Int) (s1 : List UInt8) => W ⟨[(0, .imm (AV.int .i64 i5)), (1, .imm (AV.int .i64 i6)), (2, .imm (AV.int .u8 i7)), (7, .own 13 0 n1 none), (15, .imm (AV.int .i64 i8)), (16, .imm (AV.int .i64 i9))], [(13, .bytes s1 false)]⟩) (fun (i10 : Int) (i11 : Int) (i12 : Int) (n2 : Nat) (s2 : List UInt8) => K (.exit 0) ⟨[(0, .imm (AV.int .i64 i10)), (1, .imm (AV.int .i64 i11)), (2, .imm (AV.int .u8 i12)), (7, .own 13 0 n2 none)], [(13, .bytes s2 false)]⟩) i5 i6 i7 n1 i8 i9 s1 := by
  kernel_rfl
theorem law01CharsNames_L1_eq (R : Nat → List AV → Option Res) (N : Nat) (K : Ex → St → Option Res) : ∀ (n : Nat) (i5 : Int) (i6 : Int) (i7 : Int) (n1 : Nat) (i8 : Int) (i9 : Int) (s1 : List UInt8),
    rounds [0, 1, 2, 7, 15, 16] [13] (evC gl R N law01CharsNames_c0) K n ⟨[(0, .imm (AV.int .i64 i5)), (1, .imm (AV.int .i64 i6)), (2, .imm (AV.int .u8 i7)), (7, .own 13 0 n1 none), (15, .imm (AV.int .i64 i8)), (16, .imm (AV.int .i64 i9))], [(13, .bytes s1 false)]⟩ = law01CharsNames_L1 R N (fun (i10 : Int) (i11 : Int) (i12 : Int) (n2 : Nat) (s2 : List UInt8) => K (.exit 0) ⟨[(0, .imm (AV.int .i64 i10)), (1, .imm (AV.int .i64 i11)), (2, .imm (AV.int .u8 i12)), (7, .own 13 0 n2 none)], [(13, .bytes s2 false)]⟩) n i5 i6 i7 n1 i8 i9 s1
  | 0, _, _, _, _, _, _, _ => rfl
  | n + 1, i5, i6, i7, n1, i8, i9, s1 => (law01CharsNames_L1s_eq R N K (rounds [0, 1, 2, 7, 15, 16] [13] (evC gl R N law01CharsNames_c0) K n) i5 i6 i7 n1 i8 i9 s1).trans
      (congrArg (fun go => law01CharsNames_L1s R N go (fun (i10 : Int) (i11 : Int) (i12 : Int) (n2 : Nat) (s2 : List UInt8) => K (.exit 0) ⟨[(0, .imm (AV.int .i64 i10)), (1, .imm (AV.int .i64 i11)), (2, .imm (AV.int .u8 i12)), (7, .own 13 0 n2 none)], [(13, .bytes s2 false)]⟩) i5 i6 i7 n1 i8 i9 s1) (funext fun i5 => funext fun i6 => funext fun i7 => funext fun n1 => funext fun i8 => funext fun i9 => funext fun s1 => law01CharsNames_L1_eq R N K n i5 i6 i7 n1 i8 i9 s1))
def law01CharsNames_c1 : AC := .seq (.seq (.region [.op (some 26) none (.mv (.t 7)), .op (some 27) none (.cvStr (.t 26)), .op (some 28) none (.call id_charsName [.t 27] (.bool)), .op (some 29) none (.mv (.t 0)), .op (some 30) none (.bin .geq (.t 29) (.k (AV.int .i64 1))), .op (some 31) none (.mv (.t 30)), .split 31, .op (some 32) (some (31, true)) (.mv (.t 0)), .op (some 33) (some (31, true)) (.bin .leq (.t 32) (.k (AV.int .i64 32))), .op (some 34) none (.pick (.t 31) (.t 33) (.k (AV.bool false))), .op (some 35) none (.binB .neq (.t 28) (.t 34))]) (.cond (.t 35) (.seq (.region [.op (some 6) none (.mv (.k (AV.bool false)))]) (.ret [6] [])) (.skip))) (.seq (.seq (.region [.op (some 36) none (.mv (.t 0)), .op (some 37) none (.bin .eql (.t 36) (.k (AV.int .i64 0)))]) (.cond (.t 37) (.seq (.region [.op (some 38) none (.call id_law01Wakes [] (.bool)), .op (some 6) none (.mv (.t 38))]) (.ret [6] [])) (.skip))) (.seq (.region [.op (some 39) none (.mv (.t 7)), .op (some 40) none (.mv (.t 1)), .op (some 41) none (.mv (.t 0)), .op (some 42) none (.call id_keepWithin [.t 40, .t 41] (.int .i64)), .op (some 43) none (.mv (.t 2)), .op (some 44) none (.iaddr (.t 39) (.t 42) 1 (.int .u8)), .op none none (.store (.t 44) (.t 43) 1)]) (.seq (.region [.op (some 45) none (.mv (.t 2)), .op (some 46) none (.bin .geq (.t 45) (.k (AV.int .u8 97))), .op (some 47) none (.mv (.t 46)), .split 47, .op (some 48) (some (47, true)) (.mv (.t 2)), .op (some 49) (some (47, true)) (.bin .leq (.t 48) (.k (AV.int .u8 122))), .op (some 50) none (.pick (.t 47) (.t 49) (.k (AV.bool false))), .op (some 51) none (.mv (.t 50)), .split 51, .op (some 52) (some (51, false)) (.mv (.t 2)), .op (some 53) (some (51, false)) (.bin .geq (.t 52) (.k (AV.int .u8 65))), .op (some 54) (some (51, false)) (.mv (.t 53)), .split 54, .op (some 55) (some (54, true)) (.mv (.t 2)), .op (some 56) (some (54, true)) (.bin .leq (.t 55) (.k (AV.int .u8 90))), .op (some 57) (some (51, false)) (.pick (.t 54) (.t 56) (.k (AV.bool false))), .op (some 58) none (.pick (.t 51) (.k (AV.bool true)) (.t 57)), .op (some 59) none (.mv (.t 58)), .split 59, .op (some 60) (some (59, false)) (.mv (.t 2)), .op (some 61) (some (59, false)) (.bin .geq (.t 60) (.k (AV.int .u8 48))), .op (some 62) (some (59, false)) (.mv (.t 61)), .split 62, .op (some 63) (some (62, true)) (.mv (.t 2)), .op (some 64) (some (62, true)) (.bin .leq (.t 63) (.k (AV.int .u8 57))), .op (some 65) (some (59, false)) (.pick (.t 62) (.t 64) (.k (AV.bool false))), .op (some 66) none (.pick (.t 59) (.k (AV.bool true)) (.t 65)), .op (some 67) none (.mv (.t 66)), .split 67, .op (some 68) (some (67, false)) (.mv (.t 2)), .op (some 69) (some (67, false)) (.bin .eql (.t 68) (.k (AV.int .u8 45))), .op (some 70) none (.pick (.t 67) (.k (AV.bool true)) (.t 69)), .op (some 71) none (.mv (.t 70)), .split 71, .op (some 72) (some (71, false)) (.mv (.t 2)), .op (some 73) (some (71, false)) (.bin .eql (.t 72) (.k (AV.int .u8 95))), .op (some 74) none (.pick (.t 71) (.k (AV.bool true)) (.t 73)), .op (some 9) none (.mv (.t 74))]) (.seq (.region [.op (some 75) none (.mv (.t 7)), .op (some 76) none (.cvStr (.t 75)), .op (some 77) none (.call id_charsName [.t 76] (.bool)), .op (some 78) none (.mv (.t 9)), .op (some 79) none (.mv (.t 78)), .split 79, .op (some 80) (some (79, true)) (.mv (.t 0)), .op (some 81) (some (79, true)) (.bin .leq (.t 80) (.k (AV.int .i64 32))), .op (some 82) none (.pick (.t 79) (.t 81) (.k (AV.bool false))), .op (some 83) none (.binB .eql (.t 77) (.t 82)), .op (some 84) none (.mv (.t 83)), .split 84, .op (some 85) (some (84, true)) (.call id_law01Wakes [] (.bool)), .op (some 86) none (.pick (.t 84) (.t 85) (.k (AV.bool false))), .op (some 6) none (.mv (.t 86))]) (.ret [6] [])))))
def law01CharsNames_c2 : AC := .seq (.region [.op (some 6) none (.mv (.k (AV.bool false)))]) (.seq (.region [.op (some 10) none (.mv (.t 0)), .op (some 11) none (.call id_keepWithin [.t 10, .k (AV.int .i64 36)] (.int .i64)), .op (some 0) none (.mv (.t 11))]) (.seq (.region [.op (some 12) none (.mv (.t 0)), .op (some 13) none (.mkOwn 13 (.t 12) 1 (AV.int .u8 0) true), .op (some 7) none (.mv (.t 13))]) (.seq (.seq (.region [.op (some 14) none (.mv (.t 7)), .op (some 15) none (.len (.t 14) false), .op (some 16) none (.mv (.k (AV.int .i64 0)))]) (.block 0 (.loop [0, 1, 2, 7, 15, 16] [13] (law01CharsNames_c0)))) (law01CharsNames_c1))))
def law01CharsNames : AFunc := ⟨3, 87, [.tmp 6], law01CharsNames_c2⟩
def law01CharsNamesr (R : Nat → List AV → Option Res) (N : Nat) (i1 : Int) (i2 : Int) (i3 : Int) : Option Res :=
  (R id_keepWithin [AV.int .i64 i1, AV.int .i64 36]).bind fun r1 =>
  asI .i64 r1.v fun i4 =>
  need (decide (0 ≤ (i4 : Int)) && decide ((i4 : Int) ≤ 1099511627776)) <|
  law01CharsNames_L1 R N
    (fun i16 i17 i18 n4 s4 =>
      (R id_charsName [AV.str ((s4.drop 0).take n4)]).bind fun r2 =>
      asB r2.v fun b1 =>
      bif decide ((i16 : Int) ≥ 1) then
        (bif !(b1 == (decide ((i16 : Int) ≤ 32))) then
          (some ⟨AV.bool false, false, []⟩)
        else
          bif (i16 : Int) == 0 then
            ((R id_law01Wakes []).bind fun r3 =>
            asB r3.v fun b2 =>
            some ⟨AV.bool b2, false, []⟩)
          else
            (R id_keepWithin [AV.int .i64 i17, AV.int .i64 i16]).bind fun r4 =>
            asI .i64 r4.v fun i19 =>
            need (decide (0 ≤ (i19 : Int)) && decide ((i19 : Int) < ((n4 : Nat) : Int))) <|
            need (decide (0 ≤ (i18 : Int)) && decide ((i18 : Int) < 256)) <|
            need (Nat.beq 0 0 && decide (0 + Int.toNat i19 < s4.length) && Nat.beq 1 1) <|
            bif decide ((i18 : Int) ≥ 97) then
              (bif decide ((i18 : Int) ≤ 122) then
                ((R id_charsName [AV.str (((s4.set (0 + Int.toNat i19) (UInt8.ofNat (Int.toNat i18))).drop 0).take n4)]).bind fun r5 =>
                asB r5.v fun b3 =>
                bif b3 == (decide ((i16 : Int) ≤ 32)) then
                  ((R id_law01Wakes []).bind fun r6 =>
                  asB r6.v fun b4 =>
                  some ⟨AV.bool b4, false, []⟩)
                else
                  some ⟨AV.bool false, false, []⟩)
              else
                bif decide ((i18 : Int) ≥ 65) then
                  (bif decide ((i18 : Int) ≤ 90) then
                    ((R id_charsName [AV.str (((s4.set (0 + Int.toNat i19) (UInt8.ofNat (Int.toNat i18))).drop 0).take n4)]).bind fun r7 =>
                    asB r7.v fun b5 =>
                    bif b5 == (decide ((i16 : Int) ≤ 32)) then
                      ((R id_law01Wakes []).bind fun r8 =>
                      asB r8.v fun b6 =>
                      some ⟨AV.bool b6, false, []⟩)
                    else
                      some ⟨AV.bool false, false, []⟩)
                  else
                    bif decide ((i18 : Int) ≥ 48) then
                      (bif decide ((i18 : Int) ≤ 57) then
                        ((R id_charsName [AV.str (((s4.set (0 + Int.toNat i19) (UInt8.ofNat (Int.toNat i18))).drop 0).take n4)]).bind fun r9 =>
                        asB r9.v fun b7 =>
                        bif b7 == (decide ((i16 : Int) ≤ 32)) then
                          ((R id_law01Wakes []).bind fun r10 =>
                          asB r10.v fun b8 =>
                          some ⟨AV.bool b8, false, []⟩)
                        else
                          some ⟨AV.bool false, false, []⟩)
                      else
                        bif (i18 : Int) == 45 then
                          ((R id_charsName [AV.str (((s4.set (0 + Int.toNat i19) (UInt8.ofNat (Int.toNat i18))).drop 0).take n4)]).bind fun r11 =>
                          asB r11.v fun b9 =>
                          bif b9 == (decide ((i16 : Int) ≤ 32)) then
                            ((R id_law01Wakes []).bind fun r12 =>
                            asB r12.v fun b10 =>
                            some ⟨AV.bool b10, false, []⟩)
                          else
                            some ⟨AV.bool false, false, []⟩)
                        else
                          (R id_charsName [AV.str (((s4.set (0 + Int.toNat i19) (UInt8.ofNat (Int.toNat i18))).drop 0).take n4)]).bind fun r13 =>
                          asB r13.v fun b11 =>
                          bif (i18 : Int) == 95 then
                            (bif b11 == (decide ((i16 : Int) ≤ 32)) then
                              ((R id_law01Wakes []).bind fun r14 =>
                              asB r14.v fun b12 =>
                              some ⟨AV.bool b12, false, []⟩)
                            else
                              some ⟨AV.bool false, false, []⟩)
                          else
                            bif b11 == false then
                              ((R id_law01Wakes []).bind fun r15 =>
                              asB r15.v fun b13 =>
                              some ⟨AV.bool b13, false, []⟩)
                            else
                              some ⟨AV.bool false, false, []⟩)
                    else
                      bif (i18 : Int) == 45 then
                        ((R id_charsName [AV.str (((s4.set (0 + Int.toNat i19) (UInt8.ofNat (Int.toNat i18))).drop 0).take n4)]).bind fun r16 =>
                        asB r16.v fun b14 =>
                        bif b14 == (decide ((i16 : Int) ≤ 32)) then
                          ((R id_law01Wakes []).bind fun r17 =>
                          asB r17.v fun b15 =>
                          some ⟨AV.bool b15, false, []⟩)
                        else
                          some ⟨AV.bool false, false, []⟩)
                      else
                        (R id_charsName [AV.str (((s4.set (0 + Int.toNat i19) (UInt8.ofNat (Int.toNat i18))).drop 0).take n4)]).bind fun r18 =>
                        asB r18.v fun b16 =>
                        bif (i18 : Int) == 95 then
                          (bif b16 == (decide ((i16 : Int) ≤ 32)) then
                            ((R id_law01Wakes []).bind fun r19 =>
                            asB r19.v fun b17 =>
                            some ⟨AV.bool b17, false, []⟩)
                          else
                            some ⟨AV.bool false, false, []⟩)
                        else
                          bif b16 == false then
                            ((R id_law01Wakes []).bind fun r20 =>
                            asB r20.v fun b18 =>
                            some ⟨AV.bool b18, false, []⟩)
                          else
                            some ⟨AV.bool false, false, []⟩)
                else
                  bif decide ((i18 : Int) ≥ 48) then
                    (bif decide ((i18 : Int) ≤ 57) then
                      ((R id_charsName [AV.str (((s4.set (0 + Int.toNat i19) (UInt8.ofNat (Int.toNat i18))).drop 0).take n4)]).bind fun r21 =>
                      asB r21.v fun b19 =>
                      bif b19 == (decide ((i16 : Int) ≤ 32)) then
                        ((R id_law01Wakes []).bind fun r22 =>
                        asB r22.v fun b20 =>
                        some ⟨AV.bool b20, false, []⟩)
                      else
                        some ⟨AV.bool false, false, []⟩)
                    else
                      bif (i18 : Int) == 45 then
                        ((R id_charsName [AV.str (((s4.set (0 + Int.toNat i19) (UInt8.ofNat (Int.toNat i18))).drop 0).take n4)]).bind fun r23 =>
                        asB r23.v fun b21 =>
                        bif b21 == (decide ((i16 : Int) ≤ 32)) then
                          ((R id_law01Wakes []).bind fun r24 =>
                          asB r24.v fun b22 =>
                          some ⟨AV.bool b22, false, []⟩)
                        else
                          some ⟨AV.bool false, false, []⟩)
                      else
                        (R id_charsName [AV.str (((s4.set (0 + Int.toNat i19) (UInt8.ofNat (Int.toNat i18))).drop 0).take n4)]).bind fun r25 =>
                        asB r25.v fun b23 =>
                        bif (i18 : Int) == 95 then
                          (bif b23 == (decide ((i16 : Int) ≤ 32)) then
                            ((R id_law01Wakes []).bind fun r26 =>
                            asB r26.v fun b24 =>
                            some ⟨AV.bool b24, false, []⟩)
                          else
                            some ⟨AV.bool false, false, []⟩)
                        else
                          bif b23 == false then
                            ((R id_law01Wakes []).bind fun r27 =>
                            asB r27.v fun b25 =>
                            some ⟨AV.bool b25, false, []⟩)
                          else
                            some ⟨AV.bool false, false, []⟩)
                  else
                    bif (i18 : Int) == 45 then
                      ((R id_charsName [AV.str (((s4.set (0 + Int.toNat i19) (UInt8.ofNat (Int.toNat i18))).drop 0).take n4)]).bind fun r28 =>
                      asB r28.v fun b26 =>
                      bif b26 == (decide ((i16 : Int) ≤ 32)) then
                        ((R id_law01Wakes []).bind fun r29 =>
                        asB r29.v fun b27 =>
                        some ⟨AV.bool b27, false, []⟩)
                      else
                        some ⟨AV.bool false, false, []⟩)
                    else
                      (R id_charsName [AV.str (((s4.set (0 + Int.toNat i19) (UInt8.ofNat (Int.toNat i18))).drop 0).take n4)]).bind fun r30 =>
                      asB r30.v fun b28 =>
                      bif (i18 : Int) == 95 then
                        (bif b28 == (decide ((i16 : Int) ≤ 32)) then
                          ((R id_law01Wakes []).bind fun r31 =>
                          asB r31.v fun b29 =>
                          some ⟨AV.bool b29, false, []⟩)
                        else
                          some ⟨AV.bool false, false, []⟩)
                      else
                        bif b28 == false then
                          ((R id_law01Wakes []).bind fun r32 =>
                          asB r32.v fun b30 =>
                          some ⟨AV.bool b30, false, []⟩)
                        else
                          some ⟨AV.bool false, false, []⟩)
            else
              bif decide ((i18 : Int) ≥ 65) then
                (bif decide ((i18 : Int) ≤ 90) then
                  ((R id_charsName [AV.str (((s4.set (0 + Int.toNat i19) (UInt8.ofNat (Int.toNat i18))).drop 0).take n4)]).bind fun r33 =>
                  asB r33.v fun b31 =>
                  bif b31 == (decide ((i16 : Int) ≤ 32)) then
                    ((R id_law01Wakes []).bind fun r34 =>
                    asB r34.v fun b32 =>
                    some ⟨AV.bool b32, false, []⟩)
                  else
                    some ⟨AV.bool false, false, []⟩)
                else
                  bif decide ((i18 : Int) ≥ 48) then
                    (bif decide ((i18 : Int) ≤ 57) then
                      ((R id_charsName [AV.str (((s4.set (0 + Int.toNat i19) (UInt8.ofNat (Int.toNat i18))).drop 0).take n4)]).bind fun r35 =>
                      asB r35.v fun b33 =>
                      bif b33 == (decide ((i16 : Int) ≤ 32)) then
                        ((R id_law01Wakes []).bind fun r36 =>
                        asB r36.v fun b34 =>
                        some ⟨AV.bool b34, false, []⟩)
                      else
                        some ⟨AV.bool false, false, []⟩)
                    else
                      bif (i18 : Int) == 45 then
                        ((R id_charsName [AV.str (((s4.set (0 + Int.toNat i19) (UInt8.ofNat (Int.toNat i18))).drop 0).take n4)]).bind fun r37 =>
                        asB r37.v fun b35 =>
                        bif b35 == (decide ((i16 : Int) ≤ 32)) then
                          ((R id_law01Wakes []).bind fun r38 =>
                          asB r38.v fun b36 =>
                          some ⟨AV.bool b36, false, []⟩)
                        else
                          some ⟨AV.bool false, false, []⟩)
                      else
                        (R id_charsName [AV.str (((s4.set (0 + Int.toNat i19) (UInt8.ofNat (Int.toNat i18))).drop 0).take n4)]).bind fun r39 =>
                        asB r39.v fun b37 =>
                        bif (i18 : Int) == 95 then
                          (bif b37 == (decide ((i16 : Int) ≤ 32)) then
                            ((R id_law01Wakes []).bind fun r40 =>
                            asB r40.v fun b38 =>
                            some ⟨AV.bool b38, false, []⟩)
                          else
                            some ⟨AV.bool false, false, []⟩)
                        else
                          bif b37 == false then
                            ((R id_law01Wakes []).bind fun r41 =>
                            asB r41.v fun b39 =>
                            some ⟨AV.bool b39, false, []⟩)
                          else
                            some ⟨AV.bool false, false, []⟩)
                  else
                    bif (i18 : Int) == 45 then
                      ((R id_charsName [AV.str (((s4.set (0 + Int.toNat i19) (UInt8.ofNat (Int.toNat i18))).drop 0).take n4)]).bind fun r42 =>
                      asB r42.v fun b40 =>
                      bif b40 == (decide ((i16 : Int) ≤ 32)) then
                        ((R id_law01Wakes []).bind fun r43 =>
                        asB r43.v fun b41 =>
                        some ⟨AV.bool b41, false, []⟩)
                      else
                        some ⟨AV.bool false, false, []⟩)
                    else
                      (R id_charsName [AV.str (((s4.set (0 + Int.toNat i19) (UInt8.ofNat (Int.toNat i18))).drop 0).take n4)]).bind fun r44 =>
                      asB r44.v fun b42 =>
                      bif (i18 : Int) == 95 then
                        (bif b42 == (decide ((i16 : Int) ≤ 32)) then
                          ((R id_law01Wakes []).bind fun r45 =>
                          asB r45.v fun b43 =>
                          some ⟨AV.bool b43, false, []⟩)
                        else
                          some ⟨AV.bool false, false, []⟩)
                      else
                        bif b42 == false then
                          ((R id_law01Wakes []).bind fun r46 =>
                          asB r46.v fun b44 =>
                          some ⟨AV.bool b44, false, []⟩)
                        else
                          some ⟨AV.bool false, false, []⟩)
              else
                bif decide ((i18 : Int) ≥ 48) then
                  (bif decide ((i18 : Int) ≤ 57) then
                    ((R id_charsName [AV.str (((s4.set (0 + Int.toNat i19) (UInt8.ofNat (Int.toNat i18))).drop 0).take n4)]).bind fun r47 =>
                    asB r47.v fun b45 =>
                    bif b45 == (decide ((i16 : Int) ≤ 32)) then
                      ((R id_law01Wakes []).bind fun r48 =>
                      asB r48.v fun b46 =>
                      some ⟨AV.bool b46, false, []⟩)
                    else
                      some ⟨AV.bool false, false, []⟩)
                  else
                    bif (i18 : Int) == 45 then
                      ((R id_charsName [AV.str (((s4.set (0 + Int.toNat i19) (UInt8.ofNat (Int.toNat i18))).drop 0).take n4)]).bind fun r49 =>
                      asB r49.v fun b47 =>
                      bif b47 == (decide ((i16 : Int) ≤ 32)) then
                        ((R id_law01Wakes []).bind fun r50 =>
                        asB r50.v fun b48 =>
                        some ⟨AV.bool b48, false, []⟩)
                      else
                        some ⟨AV.bool false, false, []⟩)
                    else
                      (R id_charsName [AV.str (((s4.set (0 + Int.toNat i19) (UInt8.ofNat (Int.toNat i18))).drop 0).take n4)]).bind fun r51 =>
                      asB r51.v fun b49 =>
                      bif (i18 : Int) == 95 then
                        (bif b49 == (decide ((i16 : Int) ≤ 32)) then
                          ((R id_law01Wakes []).bind fun r52 =>
                          asB r52.v fun b50 =>
                          some ⟨AV.bool b50, false, []⟩)
                        else
                          some ⟨AV.bool false, false, []⟩)
                      else
                        bif b49 == false then
                          ((R id_law01Wakes []).bind fun r53 =>
                          asB r53.v fun b51 =>
                          some ⟨AV.bool b51, false, []⟩)
                        else
                          some ⟨AV.bool false, false, []⟩)
                else
                  bif (i18 : Int) == 45 then
                    ((R id_charsName [AV.str (((s4.set (0 + Int.toNat i19) (UInt8.ofNat (Int.toNat i18))).drop 0).take n4)]).bind fun r54 =>
                    asB r54.v fun b52 =>
                    bif b52 == (decide ((i16 : Int) ≤ 32)) then
                      ((R id_law01Wakes []).bind fun r55 =>
                      asB r55.v fun b53 =>
                      some ⟨AV.bool b53, false, []⟩)
                    else
                      some ⟨AV.bool false, false, []⟩)
                  else
                    (R id_charsName [AV.str (((s4.set (0 + Int.toNat i19) (UInt8.ofNat (Int.toNat i18))).drop 0).take n4)]).bind fun r56 =>
                    asB r56.v fun b54 =>
                    bif (i18 : Int) == 95 then
                      (bif b54 == (decide ((i16 : Int) ≤ 32)) then
                        ((R id_law01Wakes []).bind fun r57 =>
                        asB r57.v fun b55 =>
                        some ⟨AV.bool b55, false, []⟩)
                      else
                        some ⟨AV.bool false, false, []⟩)
                    else
                      bif b54 == false then
                        ((R id_law01Wakes []).bind fun r58 =>
                        asB r58.v fun b56 =>
                        some ⟨AV.bool b56, false, []⟩)
                      else
                        some ⟨AV.bool false, false, []⟩)
      else
        bif !(b1 == false) then
          (some ⟨AV.bool false, false, []⟩)
        else
          bif (i16 : Int) == 0 then
            ((R id_law01Wakes []).bind fun r59 =>
            asB r59.v fun b57 =>
            some ⟨AV.bool b57, false, []⟩)
          else
            (R id_keepWithin [AV.int .i64 i17, AV.int .i64 i16]).bind fun r60 =>
            asI .i64 r60.v fun i20 =>
            need (decide (0 ≤ (i20 : Int)) && decide ((i20 : Int) < ((n4 : Nat) : Int))) <|
            need (decide (0 ≤ (i18 : Int)) && decide ((i18 : Int) < 256)) <|
            need (Nat.beq 0 0 && decide (0 + Int.toNat i20 < s4.length) && Nat.beq 1 1) <|
            bif decide ((i18 : Int) ≥ 97) then
              (bif decide ((i18 : Int) ≤ 122) then
                ((R id_charsName [AV.str (((s4.set (0 + Int.toNat i20) (UInt8.ofNat (Int.toNat i18))).drop 0).take n4)]).bind fun r61 =>
                asB r61.v fun b58 =>
                bif b58 == (decide ((i16 : Int) ≤ 32)) then
                  ((R id_law01Wakes []).bind fun r62 =>
                  asB r62.v fun b59 =>
                  some ⟨AV.bool b59, false, []⟩)
                else
                  some ⟨AV.bool false, false, []⟩)
              else
                bif decide ((i18 : Int) ≥ 65) then
                  (bif decide ((i18 : Int) ≤ 90) then
                    ((R id_charsName [AV.str (((s4.set (0 + Int.toNat i20) (UInt8.ofNat (Int.toNat i18))).drop 0).take n4)]).bind fun r63 =>
                    asB r63.v fun b60 =>
                    bif b60 == (decide ((i16 : Int) ≤ 32)) then
                      ((R id_law01Wakes []).bind fun r64 =>
                      asB r64.v fun b61 =>
                      some ⟨AV.bool b61, false, []⟩)
                    else
                      some ⟨AV.bool false, false, []⟩)
                  else
                    bif decide ((i18 : Int) ≥ 48) then
                      (bif decide ((i18 : Int) ≤ 57) then
                        ((R id_charsName [AV.str (((s4.set (0 + Int.toNat i20) (UInt8.ofNat (Int.toNat i18))).drop 0).take n4)]).bind fun r65 =>
                        asB r65.v fun b62 =>
                        bif b62 == (decide ((i16 : Int) ≤ 32)) then
                          ((R id_law01Wakes []).bind fun r66 =>
                          asB r66.v fun b63 =>
                          some ⟨AV.bool b63, false, []⟩)
                        else
                          some ⟨AV.bool false, false, []⟩)
                      else
                        bif (i18 : Int) == 45 then
                          ((R id_charsName [AV.str (((s4.set (0 + Int.toNat i20) (UInt8.ofNat (Int.toNat i18))).drop 0).take n4)]).bind fun r67 =>
                          asB r67.v fun b64 =>
                          bif b64 == (decide ((i16 : Int) ≤ 32)) then
                            ((R id_law01Wakes []).bind fun r68 =>
                            asB r68.v fun b65 =>
                            some ⟨AV.bool b65, false, []⟩)
                          else
                            some ⟨AV.bool false, false, []⟩)
                        else
                          (R id_charsName [AV.str (((s4.set (0 + Int.toNat i20) (UInt8.ofNat (Int.toNat i18))).drop 0).take n4)]).bind fun r69 =>
                          asB r69.v fun b66 =>
                          bif (i18 : Int) == 95 then
                            (bif b66 == (decide ((i16 : Int) ≤ 32)) then
                              ((R id_law01Wakes []).bind fun r70 =>
                              asB r70.v fun b67 =>
                              some ⟨AV.bool b67, false, []⟩)
                            else
                              some ⟨AV.bool false, false, []⟩)
                          else
                            bif b66 == false then
                              ((R id_law01Wakes []).bind fun r71 =>
                              asB r71.v fun b68 =>
                              some ⟨AV.bool b68, false, []⟩)
                            else
                              some ⟨AV.bool false, false, []⟩)
                    else
                      bif (i18 : Int) == 45 then
                        ((R id_charsName [AV.str (((s4.set (0 + Int.toNat i20) (UInt8.ofNat (Int.toNat i18))).drop 0).take n4)]).bind fun r72 =>
                        asB r72.v fun b69 =>
                        bif b69 == (decide ((i16 : Int) ≤ 32)) then
                          ((R id_law01Wakes []).bind fun r73 =>
                          asB r73.v fun b70 =>
                          some ⟨AV.bool b70, false, []⟩)
                        else
                          some ⟨AV.bool false, false, []⟩)
                      else
                        (R id_charsName [AV.str (((s4.set (0 + Int.toNat i20) (UInt8.ofNat (Int.toNat i18))).drop 0).take n4)]).bind fun r74 =>
                        asB r74.v fun b71 =>
                        bif (i18 : Int) == 95 then
                          (bif b71 == (decide ((i16 : Int) ≤ 32)) then
                            ((R id_law01Wakes []).bind fun r75 =>
                            asB r75.v fun b72 =>
                            some ⟨AV.bool b72, false, []⟩)
                          else
                            some ⟨AV.bool false, false, []⟩)
                        else
                          bif b71 == false then
                            ((R id_law01Wakes []).bind fun r76 =>
                            asB r76.v fun b73 =>
                            some ⟨AV.bool b73, false, []⟩)
                          else
                            some ⟨AV.bool false, false, []⟩)
                else
                  bif decide ((i18 : Int) ≥ 48) then
                    (bif decide ((i18 : Int) ≤ 57) then
                      ((R id_charsName [AV.str (((s4.set (0 + Int.toNat i20) (UInt8.ofNat (Int.toNat i18))).drop 0).take n4)]).bind fun r77 =>
                      asB r77.v fun b74 =>
                      bif b74 == (decide ((i16 : Int) ≤ 32)) then
                        ((R id_law01Wakes []).bind fun r78 =>
                        asB r78.v fun b75 =>
                        some ⟨AV.bool b75, false, []⟩)
                      else
                        some ⟨AV.bool false, false, []⟩)
                    else
                      bif (i18 : Int) == 45 then
                        ((R id_charsName [AV.str (((s4.set (0 + Int.toNat i20) (UInt8.ofNat (Int.toNat i18))).drop 0).take n4)]).bind fun r79 =>
                        asB r79.v fun b76 =>
                        bif b76 == (decide ((i16 : Int) ≤ 32)) then
                          ((R id_law01Wakes []).bind fun r80 =>
                          asB r80.v fun b77 =>
                          some ⟨AV.bool b77, false, []⟩)
                        else
                          some ⟨AV.bool false, false, []⟩)
                      else
                        (R id_charsName [AV.str (((s4.set (0 + Int.toNat i20) (UInt8.ofNat (Int.toNat i18))).drop 0).take n4)]).bind fun r81 =>
                        asB r81.v fun b78 =>
                        bif (i18 : Int) == 95 then
                          (bif b78 == (decide ((i16 : Int) ≤ 32)) then
                            ((R id_law01Wakes []).bind fun r82 =>
                            asB r82.v fun b79 =>
                            some ⟨AV.bool b79, false, []⟩)
                          else
                            some ⟨AV.bool false, false, []⟩)
                        else
                          bif b78 == false then
                            ((R id_law01Wakes []).bind fun r83 =>
                            asB r83.v fun b80 =>
                            some ⟨AV.bool b80, false, []⟩)
                          else
                            some ⟨AV.bool false, false, []⟩)
                  else
                    bif (i18 : Int) == 45 then
                      ((R id_charsName [AV.str (((s4.set (0 + Int.toNat i20) (UInt8.ofNat (Int.toNat i18))).drop 0).take n4)]).bind fun r84 =>
                      asB r84.v fun b81 =>
                      bif b81 == (decide ((i16 : Int) ≤ 32)) then
                        ((R id_law01Wakes []).bind fun r85 =>
                        asB r85.v fun b82 =>
                        some ⟨AV.bool b82, false, []⟩)
                      else
                        some ⟨AV.bool false, false, []⟩)
                    else
                      (R id_charsName [AV.str (((s4.set (0 + Int.toNat i20) (UInt8.ofNat (Int.toNat i18))).drop 0).take n4)]).bind fun r86 =>
                      asB r86.v fun b83 =>
                      bif (i18 : Int) == 95 then
                        (bif b83 == (decide ((i16 : Int) ≤ 32)) then
                          ((R id_law01Wakes []).bind fun r87 =>
                          asB r87.v fun b84 =>
                          some ⟨AV.bool b84, false, []⟩)
                        else
                          some ⟨AV.bool false, false, []⟩)
                      else
                        bif b83 == false then
                          ((R id_law01Wakes []).bind fun r88 =>
                          asB r88.v fun b85 =>
                          some ⟨AV.bool b85, false, []⟩)
                        else
                          some ⟨AV.bool false, false, []⟩)
            else
              bif decide ((i18 : Int) ≥ 65) then
                (bif decide ((i18 : Int) ≤ 90) then
                  ((R id_charsName [AV.str (((s4.set (0 + Int.toNat i20) (UInt8.ofNat (Int.toNat i18))).drop 0).take n4)]).bind fun r89 =>
                  asB r89.v fun b86 =>
                  bif b86 == (decide ((i16 : Int) ≤ 32)) then
                    ((R id_law01Wakes []).bind fun r90 =>
                    asB r90.v fun b87 =>
                    some ⟨AV.bool b87, false, []⟩)
                  else
                    some ⟨AV.bool false, false, []⟩)
                else
                  bif decide ((i18 : Int) ≥ 48) then
                    (bif decide ((i18 : Int) ≤ 57) then
                      ((R id_charsName [AV.str (((s4.set (0 + Int.toNat i20) (UInt8.ofNat (Int.toNat i18))).drop 0).take n4)]).bind fun r91 =>
                      asB r91.v fun b88 =>
                      bif b88 == (decide ((i16 : Int) ≤ 32)) then
                        ((R id_law01Wakes []).bind fun r92 =>
                        asB r92.v fun b89 =>
                        some ⟨AV.bool b89, false, []⟩)
                      else
                        some ⟨AV.bool false, false, []⟩)
                    else
                      bif (i18 : Int) == 45 then
                        ((R id_charsName [AV.str (((s4.set (0 + Int.toNat i20) (UInt8.ofNat (Int.toNat i18))).drop 0).take n4)]).bind fun r93 =>
                        asB r93.v fun b90 =>
                        bif b90 == (decide ((i16 : Int) ≤ 32)) then
                          ((R id_law01Wakes []).bind fun r94 =>
                          asB r94.v fun b91 =>
                          some ⟨AV.bool b91, false, []⟩)
                        else
                          some ⟨AV.bool false, false, []⟩)
                      else
                        (R id_charsName [AV.str (((s4.set (0 + Int.toNat i20) (UInt8.ofNat (Int.toNat i18))).drop 0).take n4)]).bind fun r95 =>
                        asB r95.v fun b92 =>
                        bif (i18 : Int) == 95 then
                          (bif b92 == (decide ((i16 : Int) ≤ 32)) then
                            ((R id_law01Wakes []).bind fun r96 =>
                            asB r96.v fun b93 =>
                            some ⟨AV.bool b93, false, []⟩)
                          else
                            some ⟨AV.bool false, false, []⟩)
                        else
                          bif b92 == false then
                            ((R id_law01Wakes []).bind fun r97 =>
                            asB r97.v fun b94 =>
                            some ⟨AV.bool b94, false, []⟩)
                          else
                            some ⟨AV.bool false, false, []⟩)
                  else
                    bif (i18 : Int) == 45 then
                      ((R id_charsName [AV.str (((s4.set (0 + Int.toNat i20) (UInt8.ofNat (Int.toNat i18))).drop 0).take n4)]).bind fun r98 =>
                      asB r98.v fun b95 =>
                      bif b95 == (decide ((i16 : Int) ≤ 32)) then
                        ((R id_law01Wakes []).bind fun r99 =>
                        asB r99.v fun b96 =>
                        some ⟨AV.bool b96, false, []⟩)
                      else
                        some ⟨AV.bool false, false, []⟩)
                    else
                      (R id_charsName [AV.str (((s4.set (0 + Int.toNat i20) (UInt8.ofNat (Int.toNat i18))).drop 0).take n4)]).bind fun r100 =>
                      asB r100.v fun b97 =>
                      bif (i18 : Int) == 95 then
                        (bif b97 == (decide ((i16 : Int) ≤ 32)) then
                          ((R id_law01Wakes []).bind fun r101 =>
                          asB r101.v fun b98 =>
                          some ⟨AV.bool b98, false, []⟩)
                        else
                          some ⟨AV.bool false, false, []⟩)
                      else
                        bif b97 == false then
                          ((R id_law01Wakes []).bind fun r102 =>
                          asB r102.v fun b99 =>
                          some ⟨AV.bool b99, false, []⟩)
                        else
                          some ⟨AV.bool false, false, []⟩)
              else
                bif decide ((i18 : Int) ≥ 48) then
                  (bif decide ((i18 : Int) ≤ 57) then
                    ((R id_charsName [AV.str (((s4.set (0 + Int.toNat i20) (UInt8.ofNat (Int.toNat i18))).drop 0).take n4)]).bind fun r103 =>
                    asB r103.v fun b100 =>
                    bif b100 == (decide ((i16 : Int) ≤ 32)) then
                      ((R id_law01Wakes []).bind fun r104 =>
                      asB r104.v fun b101 =>
                      some ⟨AV.bool b101, false, []⟩)
                    else
                      some ⟨AV.bool false, false, []⟩)
                  else
                    bif (i18 : Int) == 45 then
                      ((R id_charsName [AV.str (((s4.set (0 + Int.toNat i20) (UInt8.ofNat (Int.toNat i18))).drop 0).take n4)]).bind fun r105 =>
                      asB r105.v fun b102 =>
                      bif b102 == (decide ((i16 : Int) ≤ 32)) then
                        ((R id_law01Wakes []).bind fun r106 =>
                        asB r106.v fun b103 =>
                        some ⟨AV.bool b103, false, []⟩)
                      else
                        some ⟨AV.bool false, false, []⟩)
                    else
                      (R id_charsName [AV.str (((s4.set (0 + Int.toNat i20) (UInt8.ofNat (Int.toNat i18))).drop 0).take n4)]).bind fun r107 =>
                      asB r107.v fun b104 =>
                      bif (i18 : Int) == 95 then
                        (bif b104 == (decide ((i16 : Int) ≤ 32)) then
                          ((R id_law01Wakes []).bind fun r108 =>
                          asB r108.v fun b105 =>
                          some ⟨AV.bool b105, false, []⟩)
                        else
                          some ⟨AV.bool false, false, []⟩)
                      else
                        bif b104 == false then
                          ((R id_law01Wakes []).bind fun r109 =>
                          asB r109.v fun b106 =>
                          some ⟨AV.bool b106, false, []⟩)
                        else
                          some ⟨AV.bool false, false, []⟩)
                else
                  bif (i18 : Int) == 45 then
                    ((R id_charsName [AV.str (((s4.set (0 + Int.toNat i20) (UInt8.ofNat (Int.toNat i18))).drop 0).take n4)]).bind fun r110 =>
                    asB r110.v fun b107 =>
                    bif b107 == (decide ((i16 : Int) ≤ 32)) then
                      ((R id_law01Wakes []).bind fun r111 =>
                      asB r111.v fun b108 =>
                      some ⟨AV.bool b108, false, []⟩)
                    else
                      some ⟨AV.bool false, false, []⟩)
                  else
                    (R id_charsName [AV.str (((s4.set (0 + Int.toNat i20) (UInt8.ofNat (Int.toNat i18))).drop 0).take n4)]).bind fun r112 =>
                    asB r112.v fun b109 =>
                    bif (i18 : Int) == 95 then
                      (bif b109 == (decide ((i16 : Int) ≤ 32)) then
                        ((R id_law01Wakes []).bind fun r113 =>
                        asB r113.v fun b110 =>
                        some ⟨AV.bool b110, false, []⟩)
                      else
                        some ⟨AV.bool false, false, []⟩)
                    else
                      bif b109 == false then
                        ((R id_law01Wakes []).bind fun r114 =>
                        asB r114.v fun b111 =>
                        some ⟨AV.bool b111, false, []⟩)
                      else
                        some ⟨AV.bool false, false, []⟩)
    N i4 i2 i3 (Int.toNat i4) ((Int.toNat i4 : Nat) : Int) 0 (List.replicate (Int.toNat i4) 0)
theorem law01CharsNames_eq (R : Nat → List AV → Option Res) (N : Nat) (i1 : Int) (i2 : Int) (i3 : Int) : runF gl R N law01CharsNames [AV.int .i64 i1, AV.int .i64 i2, AV.int .u8 i3] = law01CharsNamesr R N i1 i2 i3 := by
  refine Eq.trans (b :=
      (R id_keepWithin [AV.int .i64 i1, AV.int .i64 36]).bind fun r1 =>
      asI .i64 r1.v fun i4 =>
      need (decide (0 ≤ (i4 : Int)) && decide ((i4 : Int) ≤ 1099511627776)) <|
      rounds [0, 1, 2, 7, 15, 16] [13] (evC gl R N law01CharsNames_c0) (Kblock 0 (Kthen gl R N law01CharsNames_c1 (Kret law01CharsNames.rets))) N ⟨[(0, .imm (AV.int .i64 i4)), (1, .imm (AV.int .i64 i2)), (2, .imm (AV.int .u8 i3)), (7, .own 13 0 (Int.toNat i4) none), (15, .imm (AV.int .i64 ((Int.toNat i4 : Nat) : Int))), (16, .imm (AV.int .i64 0))], [(13, .bytes (List.replicate (Int.toNat i4) 0) false)]⟩) (by kernel_rfl) ?_
  simp (config := { maxSteps := 100000000 }) only [law01CharsNames_L1_eq]
  kernel_rfl
theorem law01CharsNames_fit : fitF Tryd.prog law01CharsNames Tryd.f5 = true := by
  kernel_rfl

def keepCopyByte_c0 : AC := .seq (.region [.op (some 2) none (.nilOwn 4 none)]) (.seq (.region [.op (some 3) none (.mv (.t 0)), .op (some 4) none (.appNil 4 (.t 3) 1 true), .op (some 2) none (.mv (.t 4))]) (.ret [2] [4]))
def keepCopyByte : AFunc := ⟨1, 5, [.tmp 2], keepCopyByte_c0⟩
def keepCopyByter (R : Nat → List AV → Option Res) (N : Nat) (s1 : List UInt8) : Option Res :=
  need (decide (s1.length ≤ 1099511627776)) <|
  some ⟨AV.bytes ((s1.drop 0).take s1.length), true, []⟩
theorem keepCopyByte_eq (R : Nat → List AV → Option Res) (N : Nat) (s1 : List UInt8) : runF gl R N keepCopyByte [AV.bytes s1] = keepCopyByter R N s1 := by
  kernel_rfl
theorem keepCopyByte_fit : fitF Tryd.prog keepCopyByte Tryd.f42 = true := by
  kernel_rfl

def keepCutByte_c0 : AC := .seq (.region [.op (some 4) none (.mv (.k (AV.bytes [])))]) (.seq (.region [.op (some 5) none (.mv (.t 0)), .op (some 6) none (.mv (.t 0)), .op (some 7) none (.len (.t 6) false), .op (some 8) none (.mv (.t 1)), .op (some 9) none (.mn [.t 7, .t 8]), .op (some 10) none (.slice (.t 5) none (some (.t 9)) 1), .op (some 11) none (.call id_keepCopyByte [.t 10] (.bytes)), .op (some 4) none (.mv (.t 11))]) (.ret [4] []))
def keepCutByte : AFunc := ⟨2, 12, [.tmp 4], keepCutByte_c0⟩
def keepCutByter (R : Nat → List AV → Option Res) (N : Nat) (s1 : List UInt8) (i1 : Int) : Option Res :=
  need (decide (0 ≤ (if i1 < ((s1.length : Nat) : Int) then i1 else ((s1.length : Nat) : Int) : Int)) && decide ((if i1 < ((s1.length : Nat) : Int) then i1 else ((s1.length : Nat) : Int) : Int) ≤ ((s1.length : Nat) : Int))) <|
  (R id_keepCopyByte [AV.bytes ((s1.take (Int.toNat (if i1 < ((s1.length : Nat) : Int) then i1 else ((s1.length : Nat) : Int)))).drop 0)]).bind fun r1 =>
  asY r1.v fun s2 =>
  some ⟨AV.bytes s2, false, []⟩
theorem keepCutByte_eq (R : Nat → List AV → Option Res) (N : Nat) (s1 : List UInt8) (i1 : Int) : runF gl R N keepCutByte [AV.bytes s1, AV.int .i64 i1] = keepCutByter R N s1 i1 := by
  kernel_rfl
theorem keepCutByte_fit : fitF Tryd.prog keepCutByte Tryd.f20 = true := by
  kernel_rfl

def ref01Rune_L1s (R : Nat → List AV → Option Res) (N : Nat) (go : List UInt8 → Int → Int → Int → Int → Option Res) (k0 : Int → Int → Bool → Option Res) (k1 : Int → Int → Int → Option Res) (s2 : List UInt8) (i1 : Int) (i2 : Int) (i3 : Int) (i4 : Int) : Option Res :=
  bif decide ((i4 : Int) < i1) then
    (need (decide (0 ≤ (i4 : Int))) <|
    (s2[Int.toNat i4]?).bind fun c2 =>
    bif ((IntKind.u8.wrap (BitVec.ofInt IntKind.u8.bits (c2.toNat : Int) &&& BitVec.ofInt IntKind.u8.bits 192).toNat) : Int) != 128 then
      (k0 0 1 false)
    else
      need (!decide (6 < 0)) <|
      need (decide (0 ≤ (i4 : Int))) <|
      (s2[Int.toNat i4]?).bind fun c3 =>
      go s2 i1 i2 (IntKind.i32.wrap (BitVec.ofInt IntKind.i32.bits (IntKind.i32.wrap (i3 * 2 ^ (min (Int.toNat 6) IntKind.i32.bits))) ||| BitVec.ofInt IntKind.i32.bits (IntKind.i32.wrap (IntKind.u8.wrap (BitVec.ofInt IntKind.u8.bits (c3.toNat : Int) &&& BitVec.ofInt IntKind.u8.bits 63).toNat))).toNat) (IntKind.i64.wrap (i4 + 1)))
  else
    k1 i1 i2 i3
def ref01Rune_L1 (R : Nat → List AV → Option Res) (N : Nat) (k0 : Int → Int → Bool → Option Res) (k1 : Int → Int → Int → Option Res) : Nat → List UInt8 → Int → Int → Int → Int → Option Res
  | 0, _, _, _, _, _ => none
  | n + 1, s2, i1, i2, i3, i4 => ref01Rune_L1s R N (ref01Rune_L1 R N k0 k1 n) k0 k1 s2 i1 i2 i3 i4
def ref01Rune_c0 : AC := .seq (.seq (.region [.op (some 55) none (.mv (.t 9)), .op (some 56) none (.mv (.t 6)), .op (some 57) none (.bin .lss (.t 55) (.t 56))]) (.cond (.t 57) (.skip) (.exit 1 [6, 7, 8] []))) (.seq (.block 2 (.seq (.seq (.region [.op (some 60) none (.mv (.t 0)), .op (some 61) none (.mv (.t 9)), .op (some 62) none (.iaddr (.t 60) (.t 61) 1 (.int .u8)), .op (some 63) none (.load (.t 62) none (.int .u8)), .op (some 64) none (.bin .and (.t 63) (.k (AV.int .u8 192))), .op (some 65) none (.bin .neq (.t 64) (.k (AV.int .u8 128)))]) (.cond (.t 65) (.seq (.region [.op (some 2) none (.mv (.k (AV.int .i32 0))), .op (some 3) none (.mv (.k (AV.int .i64 1))), .op (some 4) none (.mv (.k (AV.bool false)))]) (.ret [2, 3, 4] [])) (.skip))) (.region [.op (some 66) none (.mv (.t 8)), .op (some 67) none (.bin .shl (.t 66) (.k (AV.int .u64 6))), .op (some 68) none (.mv (.t 0)), .op (some 69) none (.mv (.t 9)), .op (some 70) none (.iaddr (.t 68) (.t 69) 1 (.int .u8)), .op (some 71) none (.load (.t 70) none (.int .u8)), .op (some 72) none (.bin .and (.t 71) (.k (AV.int .u8 63))), .op (some 73) none (.cvInt .i32 (.t 72)), .op (some 74) none (.bin .or (.t 67) (.t 73)), .op (some 8) none (.mv (.t 74))]))) (.region [.op (some 58) none (.mv (.t 9)), .op (some 59) none (.bin .add (.t 58) (.k (AV.int .i64 1))), .op (some 9) none (.mv (.t 59))]))
theorem ref01Rune_L1s_eq (R : Nat → List AV → Option Res) (N : Nat) (K : Ex → St → Option Res) (W : St → Option Res) (s2 : List UInt8) (i1 : Int) (i2 : Int) (i3 : Int) (i4 : Int) :
    evC gl R N ref01Rune_c0 (Kseq (fun st' => W (prune [0, 6, 7, 8, 9] [] st')) K) ⟨[(0, .imm (AV.bytes s2)), (6, .imm (AV.int .i64 i1)), (7, .imm (AV.int .i32 i2)), (8, .imm (AV.int .i32 i3)), (9, .imm (AV.int .i64 i4))], []⟩ =
    ref01Rune_L1s R N (fun (s2 : List UInt8) (i1 : Int) (i2 : Int) (i3 : Int) (i4 : Int) => W ⟨[(0, .imm (AV.bytes s2)), (6, .imm (AV.int .i64 i1)), (7, .imm (AV.int .i32 i2)), (8, .imm (AV.int .i32 i3)), (9, .imm (AV.int .i64 i4))], []⟩) (fun (i5 : Int) (i6 : Int) (b1 : Bool) => K .ret ⟨[(2, .imm (AV.int .i32 i5)), (3, .imm (AV.int .i64 i6)), (4, .imm (AV.bool b1))], []⟩) (fun (i7 : Int) (i8 : Int) (i9 : Int) => K (.exit 1) ⟨[(6, .imm (AV.int .i64 i7)), (7, .imm (AV.int .i32 i8)), (8, .imm (AV.int .i32 i9))], []⟩) s2 i1 i2 i3 i4 := by
  kernel_rfl
theorem ref01Rune_L1_eq (R : Nat → List AV → Option Res) (N : Nat) (K : Ex → St → Option Res) : ∀ (n : Nat) (s2 : List UInt8) (i1 : Int) (i2 : Int) (i3 : Int) (i4 : Int),
    rounds [0, 6, 7, 8, 9] [] (evC gl R N ref01Rune_c0) K n ⟨[(0, .imm (AV.bytes s2)), (6, .imm (AV.int .i64 i1)), (7, .imm (AV.int .i32 i2)), (8, .imm (AV.int .i32 i3)), (9, .imm (AV.int .i64 i4))], []⟩ = ref01Rune_L1 R N (fun (i5 : Int) (i6 : Int) (b1 : Bool) => K .ret ⟨[(2, .imm (AV.int .i32 i5)), (3, .imm (AV.int .i64 i6)), (4, .imm (AV.bool b1))], []⟩) (fun (i7 : Int) (i8 : Int) (i9 : Int) => K (.exit 1) ⟨[(6, .imm (AV.int .i64 i7)), (7, .imm (AV.int .i32 i8)), (8, .imm (AV.int .i32 i9))], []⟩) n s2 i1 i2 i3 i4
  | 0, _, _, _, _, _ => rfl
  | n + 1, s2, i1, i2, i3, i4 => (ref01Rune_L1s_eq R N K (rounds [0, 6, 7, 8, 9] [] (evC gl R N ref01Rune_c0) K n) s2 i1 i2 i3 i4).trans
      (congrArg (fun go => ref01Rune_L1s R N go (fun (i5 : Int) (i6 : Int) (b1 : Bool) => K .ret ⟨[(2, .imm (AV.int .i32 i5)), (3, .imm (AV.int .i64 i6)), (4, .imm (AV.bool b1))], []⟩) (fun (i7 : Int) (i8 : Int) (i9 : Int) => K (.exit 1) ⟨[(6, .imm (AV.int .i64 i7)), (7, .imm (AV.int .i32 i8)), (8, .imm (AV.int .i32 i9))], []⟩) s2 i1 i2 i3 i4) (funext fun s2 => funext fun i1 => funext fun i2 => funext fun i3 => funext fun i4 => ref01Rune_L1_eq R N K n s2 i1 i2 i3 i4))
def ref01Rune_c1 : AC := .seq (.seq (.region [.op (some 75) none (.mv (.t 8)), .op (some 76) none (.mv (.t 7)), .op (some 77) none (.bin .lss (.t 75) (.t 76)), .op (some 78) none (.mv (.t 77)), .split 78, .op (some 79) (some (78, false)) (.mv (.t 8)), .op (some 80) (some (78, false)) (.bin .gtr (.t 79) (.k (AV.int .i32 1114111))), .op (some 81) none (.pick (.t 78) (.k (AV.bool true)) (.t 80)), .op (some 82) none (.mv (.t 81)), .split 82, .op (some 83) (some (82, false)) (.mv (.t 8)), .op (some 84) (some (82, false)) (.bin .geq (.t 83) (.k (AV.int .i32 55296))), .op (some 85) (some (82, false)) (.mv (.t 84)), .split 85, .op (some 86) (some (85, true)) (.mv (.t 8)), .op (some 87) (some (85, true)) (.bin .leq (.t 86) (.k (AV.int .i32 57343))), .op (some 88) (some (82, false)) (.pick (.t 85) (.t 87) (.k (AV.bool false))), .op (some 89) none (.pick (.t 82) (.k (AV.bool true)) (.t 88))]) (.cond (.t 89) (.seq (.region [.op (some 2) none (.mv (.k (AV.int .i32 0))), .op (some 3) none (.mv (.k (AV.int .i64 1))), .op (some 4) none (.mv (.k (AV.bool false)))]) (.ret [2, 3, 4] [])) (.skip))) (.seq (.region [.op (some 90) none (.mv (.t 8)), .op (some 91) none (.mv (.t 6)), .op (some 2) none (.mv (.t 90)), .op (some 3) none (.mv (.t 91)), .op (some 4) none (.mv (.k (AV.bool true)))]) (.ret [2, 3, 4] []))
def ref01Rune_c2 : AC := .seq (.region [.op (some 2) none (.mv (.k (AV.int .i32 0))), .op (some 3) none (.mv (.k (AV.int .i64 0))), .op (some 4) none (.mv (.k (AV.bool false)))]) (.seq (.seq (.region [.op (some 10) none (.mv (.t 0)), .op (some 11) none (.len (.t 10) false), .op (some 12) none (.bin .eql (.t 11) (.k (AV.int .i64 0)))]) (.cond (.t 12) (.seq (.region [.op (some 2) none (.mv (.k (AV.int .i32 0))), .op (some 3) none (.mv (.k (AV.int .i64 0))), .op (some 4) none (.mv (.k (AV.bool false)))]) (.ret [2, 3, 4] [])) (.skip))) (.seq (.region [.op (some 13) none (.mv (.t 0)), .op (some 14) none (.iaddr (.t 13) (.k (AV.int .i64 0)) 1 (.int .u8)), .op (some 15) none (.load (.t 14) none (.int .u8)), .op (some 5) none (.mv (.t 15))]) (.seq (.region [.op (some 6) none (.mv (.k (AV.int .i64 0))), .op (some 7) none (.mv (.k (AV.int .i32 0)))]) (.seq (.region [.op (some 8) none (.mv (.k (AV.int .i32 0)))]) (.seq (.block 0 (.seq (.region [.op (some 17) none (.mv (.t 5)), .op (some 18) none (.bin .lss (.t 17) (.k (AV.int .u8 128))), .op (some 16) none (.mv (.t 18))]) (.cond (.t 16) (.seq (.region [.op (some 19) none (.mv (.t 5)), .op (some 20) none (.cvInt .i32 (.t 19)), .op (some 2) none (.mv (.t 20)), .op (some 3) none (.mv (.k (AV.int .i64 1))), .op (some 4) none (.mv (.k (AV.bool true)))]) (.ret [2, 3, 4] [])) (.seq (.region [.op (some 22) none (.mv (.t 5)), .op (some 23) none (.bin .geq (.t 22) (.k (AV.int .u8 194))), .op (some 24) none (.mv (.t 23)), .split 24, .op (some 25) (some (24, true)) (.mv (.t 5)), .op (some 26) (some (24, true)) (.bin .leq (.t 25) (.k (AV.int .u8 223))), .op (some 27) none (.pick (.t 24) (.t 26) (.k (AV.bool false))), .op (some 21) none (.mv (.t 27))]) (.cond (.t 21) (.region [.op (some 28) none (.mv (.t 5)), .op (some 29) none (.bin .and (.t 28) (.k (AV.int .u8 31))), .op (some 30) none (.cvInt .i32 (.t 29)), .op (some 6) none (.mv (.k (AV.int .i64 2))), .op (some 7) none (.mv (.k (AV.int .i32 128))), .op (some 8) none (.mv (.t 30))]) (.seq (.region [.op (some 32) none (.mv (.t 5)), .op (some 33) none (.bin .geq (.t 32) (.k (AV.int .u8 224))), .op (some 34) none (.mv (.t 33)), .split 34, .op (some 35) (some (34, true)) (.mv (.t 5)), .op (some 36) (some (34, true)) (.bin .leq (.t 35) (.k (AV.int .u8 239))), .op (some 37) none (.pick (.t 34) (.t 36) (.k (AV.bool false))), .op (some 31) none (.mv (.t 37))]) (.cond (.t 31) (.region [.op (some 38) none (.mv (.t 5)), .op (some 39) none (.bin .and (.t 38) (.k (AV.int .u8 15))), .op (some 40) none (.cvInt .i32 (.t 39)), .op (some 6) none (.mv (.k (AV.int .i64 3))), .op (some 7) none (.mv (.k (AV.int .i32 2048))), .op (some 8) none (.mv (.t 40))]) (.seq (.region [.op (some 42) none (.mv (.t 5)), .op (some 43) none (.bin .geq (.t 42) (.k (AV.int .u8 240))), .op (some 44) none (.mv (.t 43)), .split 44, .op (some 45) (some (44, true)) (.mv (.t 5)), .op (some 46) (some (44, true)) (.bin .leq (.t 45) (.k (AV.int .u8 244))), .op (some 47) none (.pick (.t 44) (.t 46) (.k (AV.bool false))), .op (some 41) none (.mv (.t 47))]) (.cond (.t 41) (.region [.op (some 48) none (.mv (.t 5)), .op (some 49) none (.bin .and (.t 48) (.k (AV.int .u8 7))), .op (some 50) none (.cvInt .i32 (.t 49)), .op (some 6) none (.mv (.k (AV.int .i64 4))), .op (some 7) none (.mv (.k (AV.int .i32 65536))), .op (some 8) none (.mv (.t 50))]) (.seq (.region [.op (some 2) none (.mv (.k (AV.int .i32 0))), .op (some 3) none (.mv (.k (AV.int .i64 1))), .op (some 4) none (.mv (.k (AV.bool false)))]) (.ret [2, 3, 4] []))))))))))) (.seq (.seq (.region [.op (some 51) none (.mv (.t 0)), .op (some 52) none (.len (.t 51) false), .op (some 53) none (.mv (.t 6)), .op (some 54) none (.bin .lss (.t 52) (.t 53))]) (.cond (.t 54) (.seq (.region [.op (some 2) none (.mv (.k (AV.int .i32 0))), .op (some 3) none (.mv (.k (AV.int .i64 1))), .op (some 4) none (.mv (.k (AV.bool false)))]) (.ret [2, 3, 4] [])) (.skip))) (.seq (.seq (.region [.op (some 9) none (.mv (.k (AV.int .i64 1)))]) (.block 1 (.loop [0, 6, 7, 8, 9] [] (ref01Rune_c0)))) (ref01Rune_c1))))))))
def ref01Rune : AFunc := ⟨1, 92, [.tmp 2, .tmp 3, .tmp 4], ref01Rune_c2⟩
def ref01Runer (R : Nat → List AV → Option Res) (N : Nat) (s1 : List UInt8) : Option Res :=
  bif (((s1.length : Nat) : Int) : Int) == 0 then
    (some ⟨AV.tup [AV.int .i32 0, AV.int .i64 0, AV.bool false], false, []⟩)
  else
    need (decide (0 ≤ (0 : Int))) <|
    (s1[Int.toNat 0]?).bind fun c1 =>
    bif decide (((c1.toNat : Int) : Int) < 128) then
      (some ⟨AV.tup [AV.int .i32 (IntKind.i32.wrap (c1.toNat : Int)), AV.int .i64 1, AV.bool true], false, []⟩)
    else
      bif decide (((c1.toNat : Int) : Int) ≥ 194) then
        (bif decide (((c1.toNat : Int) : Int) ≤ 223) then
          (bif decide ((((s1.length : Nat) : Int) : Int) < 2) then
            (some ⟨AV.tup [AV.int .i32 0, AV.int .i64 1, AV.bool false], false, []⟩)
          else
            ref01Rune_L1 R N
              (fun i15 i16 b3 =>
                some ⟨AV.tup [AV.int .i32 i15, AV.int .i64 i16, AV.bool b3], false, []⟩)
              (fun i17 i18 i19 =>
                bif decide ((i19 : Int) < i18) then
                  (some ⟨AV.tup [AV.int .i32 0, AV.int .i64 1, AV.bool false], false, []⟩)
                else
                  bif decide ((i19 : Int) > 1114111) then
                    (some ⟨AV.tup [AV.int .i32 0, AV.int .i64 1, AV.bool false], false, []⟩)
                  else
                    bif decide ((i19 : Int) ≥ 55296) then
                      (bif decide ((i19 : Int) ≤ 57343) then
                        (some ⟨AV.tup [AV.int .i32 0, AV.int .i64 1, AV.bool false], false, []⟩)
                      else
                        some ⟨AV.tup [AV.int .i32 i19, AV.int .i64 i17, AV.bool true], false, []⟩)
                    else
                      some ⟨AV.tup [AV.int .i32 i19, AV.int .i64 i17, AV.bool true], false, []⟩)
              N s1 2 128 (IntKind.i32.wrap (IntKind.u8.wrap (BitVec.ofInt IntKind.u8.bits (c1.toNat : Int) &&& BitVec.ofInt IntKind.u8.bits 31).toNat)) 1)
        else
          bif decide (((c1.toNat : Int) : Int) ≥ 224) then
            (bif decide (((c1.toNat : Int) : Int) ≤ 239) then
              (bif decide ((((s1.length : Nat) : Int) : Int) < 3) then
                (some ⟨AV.tup [AV.int .i32 0, AV.int .i64 1, AV.bool false], false, []⟩)
              else
                ref01Rune_L1 R N
                  (fun i20 i21 b4 =>
                    some ⟨AV.tup [AV.int .i32 i20, AV.int .i64 i21, AV.bool b4], false, []⟩)
                  (fun i22 i23 i24 =>
                    bif decide ((i24 : Int) < i23) then
                      (some ⟨AV.tup [AV.int .i32 0, AV.int .i64 1, AV.bool false], false, []⟩)
                    else
                      bif decide ((i24 : Int) > 1114111) then
                        (some ⟨AV.tup [AV.int .i32 0, AV.int .i64 1, AV.bool false], false, []⟩)
                      else
                        bif decide ((i24 : Int) ≥ 55296) then
                          (bif decide ((i24 : Int) ≤ 57343) then
                            (some ⟨AV.tup [AV.int .i32 0, AV.int .i64 1, AV.bool false], false, []⟩)
                          else
                            some ⟨AV.tup [AV.int .i32 i24, AV.int .i64 i22, AV.bool true], false, []⟩)
                        else
                          some ⟨AV.tup [AV.int .i32 i24, AV.int .i64 i22, AV.bool true], false, []⟩)
                  N s1 3 2048 (IntKind.i32.wrap (IntKind.u8.wrap (BitVec.ofInt IntKind.u8.bits (c1.toNat : Int) &&& BitVec.ofInt IntKind.u8.bits 15).toNat)) 1)
            else
              bif decide (((c1.toNat : Int) : Int) ≥ 240) then
                (bif decide (((c1.toNat : Int) : Int) ≤ 244) then
                  (bif decide ((((s1.length : Nat) : Int) : Int) < 4) then
                    (some ⟨AV.tup [AV.int .i32 0, AV.int .i64 1, AV.bool false], false, []⟩)
                  else
                    ref01Rune_L1 R N
                      (fun i25 i26 b5 =>
                        some ⟨AV.tup [AV.int .i32 i25, AV.int .i64 i26, AV.bool b5], false, []⟩)
                      (fun i27 i28 i29 =>
                        bif decide ((i29 : Int) < i28) then
                          (some ⟨AV.tup [AV.int .i32 0, AV.int .i64 1, AV.bool false], false, []⟩)
                        else
                          bif decide ((i29 : Int) > 1114111) then
                            (some ⟨AV.tup [AV.int .i32 0, AV.int .i64 1, AV.bool false], false, []⟩)
                          else
                            bif decide ((i29 : Int) ≥ 55296) then
                              (bif decide ((i29 : Int) ≤ 57343) then
                                (some ⟨AV.tup [AV.int .i32 0, AV.int .i64 1, AV.bool false], false, []⟩)
                              else
                                some ⟨AV.tup [AV.int .i32 i29, AV.int .i64 i27, AV.bool true], false, []⟩)
                            else
                              some ⟨AV.tup [AV.int .i32 i29, AV.int .i64 i27, AV.bool true], false, []⟩)
                      N s1 4 65536 (IntKind.i32.wrap (IntKind.u8.wrap (BitVec.ofInt IntKind.u8.bits (c1.toNat : Int) &&& BitVec.ofInt IntKind.u8.bits 7).toNat)) 1)
                else
                  some ⟨AV.tup [AV.int .i32 0, AV.int .i64 1, AV.bool false], false, []⟩)
              else
                some ⟨AV.tup [AV.int .i32 0, AV.int .i64 1, AV.bool false], false, []⟩)
          else
            bif decide (((c1.toNat : Int) : Int) ≥ 240) then
              (bif decide (((c1.toNat : Int) : Int) ≤ 244) then
                (bif decide ((((s1.length : Nat) : Int) : Int) < 4) then
                  (some ⟨AV.tup [AV.int .i32 0, AV.int .i64 1, AV.bool false], false, []⟩)
                else
                  ref01Rune_L1 R N
                    (fun i30 i31 b6 =>
                      some ⟨AV.tup [AV.int .i32 i30, AV.int .i64 i31, AV.bool b6], false, []⟩)
                    (fun i32 i33 i34 =>
                      bif decide ((i34 : Int) < i33) then
                        (some ⟨AV.tup [AV.int .i32 0, AV.int .i64 1, AV.bool false], false, []⟩)
                      else
                        bif decide ((i34 : Int) > 1114111) then
                          (some ⟨AV.tup [AV.int .i32 0, AV.int .i64 1, AV.bool false], false, []⟩)
                        else
                          bif decide ((i34 : Int) ≥ 55296) then
                            (bif decide ((i34 : Int) ≤ 57343) then
                              (some ⟨AV.tup [AV.int .i32 0, AV.int .i64 1, AV.bool false], false, []⟩)
                            else
                              some ⟨AV.tup [AV.int .i32 i34, AV.int .i64 i32, AV.bool true], false, []⟩)
                          else
                            some ⟨AV.tup [AV.int .i32 i34, AV.int .i64 i32, AV.bool true], false, []⟩)
                    N s1 4 65536 (IntKind.i32.wrap (IntKind.u8.wrap (BitVec.ofInt IntKind.u8.bits (c1.toNat : Int) &&& BitVec.ofInt IntKind.u8.bits 7).toNat)) 1)
              else
                some ⟨AV.tup [AV.int .i32 0, AV.int .i64 1, AV.bool false], false, []⟩)
            else
              some ⟨AV.tup [AV.int .i32 0, AV.int .i64 1, AV.bool false], false, []⟩)
      else
        bif decide (((c1.toNat : Int) : Int) ≥ 224) then
          (bif decide (((c1.toNat : Int) : Int) ≤ 239) then
            (bif decide ((((s1.length : Nat) : Int) : Int) < 3) then
              (some ⟨AV.tup [AV.int .i32 0, AV.int .i64 1, AV.bool false], false, []⟩)
            else
              ref01Rune_L1 R N
                (fun i35 i36 b7 =>
                  some ⟨AV.tup [AV.int .i32 i35, AV.int .i64 i36, AV.bool b7], false, []⟩)
                (fun i37 i38 i39 =>
                  bif decide ((i39 : Int) < i38) then
                    (some ⟨AV.tup [AV.int .i32 0, AV.int .i64 1, AV.bool false], false, []⟩)
                  else
                    bif decide ((i39 : Int) > 1114111) then
                      (some ⟨AV.tup [AV.int .i32 0, AV.int .i64 1, AV.bool false], false, []⟩)
                    else
                      bif decide ((i39 : Int) ≥ 55296) then
                        (bif decide ((i39 : Int) ≤ 57343) then
                          (some ⟨AV.tup [AV.int .i32 0, AV.int .i64 1, AV.bool false], false, []⟩)
                        else
                          some ⟨AV.tup [AV.int .i32 i39, AV.int .i64 i37, AV.bool true], false, []⟩)
                      else
                        some ⟨AV.tup [AV.int .i32 i39, AV.int .i64 i37, AV.bool true], false, []⟩)
                N s1 3 2048 (IntKind.i32.wrap (IntKind.u8.wrap (BitVec.ofInt IntKind.u8.bits (c1.toNat : Int) &&& BitVec.ofInt IntKind.u8.bits 15).toNat)) 1)
          else
            bif decide (((c1.toNat : Int) : Int) ≥ 240) then
              (bif decide (((c1.toNat : Int) : Int) ≤ 244) then
                (bif decide ((((s1.length : Nat) : Int) : Int) < 4) then
                  (some ⟨AV.tup [AV.int .i32 0, AV.int .i64 1, AV.bool false], false, []⟩)
                else
                  ref01Rune_L1 R N
                    (fun i40 i41 b8 =>
                      some ⟨AV.tup [AV.int .i32 i40, AV.int .i64 i41, AV.bool b8], false, []⟩)
                    (fun i42 i43 i44 =>
                      bif decide ((i44 : Int) < i43) then
                        (some ⟨AV.tup [AV.int .i32 0, AV.int .i64 1, AV.bool false], false, []⟩)
                      else
                        bif decide ((i44 : Int) > 1114111) then
                          (some ⟨AV.tup [AV.int .i32 0, AV.int .i64 1, AV.bool false], false, []⟩)
                        else
                          bif decide ((i44 : Int) ≥ 55296) then
                            (bif decide ((i44 : Int) ≤ 57343) then
                              (some ⟨AV.tup [AV.int .i32 0, AV.int .i64 1, AV.bool false], false, []⟩)
                            else
                              some ⟨AV.tup [AV.int .i32 i44, AV.int .i64 i42, AV.bool true], false, []⟩)
                          else
                            some ⟨AV.tup [AV.int .i32 i44, AV.int .i64 i42, AV.bool true], false, []⟩)
                    N s1 4 65536 (IntKind.i32.wrap (IntKind.u8.wrap (BitVec.ofInt IntKind.u8.bits (c1.toNat : Int) &&& BitVec.ofInt IntKind.u8.bits 7).toNat)) 1)
              else
                some ⟨AV.tup [AV.int .i32 0, AV.int .i64 1, AV.bool false], false, []⟩)
            else
              some ⟨AV.tup [AV.int .i32 0, AV.int .i64 1, AV.bool false], false, []⟩)
        else
          bif decide (((c1.toNat : Int) : Int) ≥ 240) then
            (bif decide (((c1.toNat : Int) : Int) ≤ 244) then
              (bif decide ((((s1.length : Nat) : Int) : Int) < 4) then
                (some ⟨AV.tup [AV.int .i32 0, AV.int .i64 1, AV.bool false], false, []⟩)
              else
                ref01Rune_L1 R N
                  (fun i45 i46 b9 =>
                    some ⟨AV.tup [AV.int .i32 i45, AV.int .i64 i46, AV.bool b9], false, []⟩)
                  (fun i47 i48 i49 =>
                    bif decide ((i49 : Int) < i48) then
                      (some ⟨AV.tup [AV.int .i32 0, AV.int .i64 1, AV.bool false], false, []⟩)
                    else
                      bif decide ((i49 : Int) > 1114111) then
                        (some ⟨AV.tup [AV.int .i32 0, AV.int .i64 1, AV.bool false], false, []⟩)
                      else
                        bif decide ((i49 : Int) ≥ 55296) then
                          (bif decide ((i49 : Int) ≤ 57343) then
                            (some ⟨AV.tup [AV.int .i32 0, AV.int .i64 1, AV.bool false], false, []⟩)
                          else
                            some ⟨AV.tup [AV.int .i32 i49, AV.int .i64 i47, AV.bool true], false, []⟩)
                        else
                          some ⟨AV.tup [AV.int .i32 i49, AV.int .i64 i47, AV.bool true], false, []⟩)
                  N s1 4 65536 (IntKind.i32.wrap (IntKind.u8.wrap (BitVec.ofInt IntKind.u8.bits (c1.toNat : Int) &&& BitVec.ofInt IntKind.u8.bits 7).toNat)) 1)
            else
              some ⟨AV.tup [AV.int .i32 0, AV.int .i64 1, AV.bool false], false, []⟩)
          else
            some ⟨AV.tup [AV.int .i32 0, AV.int .i64 1, AV.bool false], false, []⟩
theorem ref01Rune_eq (R : Nat → List AV → Option Res) (N : Nat) (s1 : List UInt8) : runF gl R N ref01Rune [AV.bytes s1] = ref01Runer R N s1 := by
  refine Eq.trans (b :=
      bif (((s1.length : Nat) : Int) : Int) == 0 then
        (some ⟨AV.tup [AV.int .i32 0, AV.int .i64 0, AV.bool false], false, []⟩)
      else
        need (decide (0 ≤ (0 : Int))) <|
        (s1[Int.toNat 0]?).bind fun c1 =>
        bif decide (((c1.toNat : Int) : Int) < 128) then
          (some ⟨AV.tup [AV.int .i32 (IntKind.i32.wrap (c1.toNat : Int)), AV.int .i64 1, AV.bool true], false, []⟩)
        else
          bif decide (((c1.toNat : Int) : Int) ≥ 194) then
            (bif decide (((c1.toNat : Int) : Int) ≤ 223) then
              (bif decide ((((s1.length : Nat) : Int) : Int) < 2) then
                (some ⟨AV.tup [AV.int .i32 0, AV.int .i64 1, AV.bool false], false, []⟩)
              else
                rounds [0, 6, 7, 8, 9] [] (evC gl R N ref01Rune_c0) (Kblock 1 (Kthen gl R N ref01Rune_c1 (Kret ref01Rune.rets))) N ⟨[(0, .imm (AV.bytes s1)), (6, .imm (AV.int .i64 2)), (7, .imm (AV.int .i32 128)), (8, .imm (AV.int .i32 (IntKind.i32.wrap (IntKind.u8.wrap (BitVec.ofInt IntKind.u8.bits (c1.toNat : Int) &&& BitVec.ofInt IntKind.u8.bits 31).toNat)))), (9, .imm (AV.int .i64 1))], []⟩)
            else
              bif decide (((c1.toNat : Int) : Int) ≥ 224) then
                (bif decide (((c1.toNat : Int) : Int) ≤ 239) then
                  (bif decide ((((s1.length : Nat) : Int) : Int) < 3) then
                    (some ⟨AV.tup [AV.int .i32 0, AV.int .i64 1, AV.bool false], false, []⟩)
                  else
                    rounds [0, 6, 7, 8, 9] [] (evC gl R N ref01Rune_c0) (Kblock 1 (Kthen gl R N ref01Rune_c1 (Kret ref01Rune.rets))) N ⟨[(0, .imm (AV.bytes s1)), (6, .imm (AV.int .i64 3)), (7, .imm (AV.int .i32 2048)), (8, .imm (AV.int .i32 (IntKind.i32.wrap (IntKind.u8.wrap (BitVec.ofInt IntKind.u8.bits (c1.toNat : Int) &&& BitVec.ofInt IntKind.u8.bits 15).toNat)))), (9, .imm (AV.int .i64 1))], []⟩)
                else
                  bif decide (((c1.toNat : Int) : Int) ≥ 240) then
                    (bif decide (((c1.toNat : Int) : Int) ≤ 244) then
                      (bif decide ((((s1.length : Nat) : Int) : Int) < 4) then
                        (some ⟨AV.tup [AV.int .i32 0, AV.int .i64 1, AV.bool false], false, []⟩)
                      else
                        rounds [0, 6, 7, 8, 9] [] (evC gl R N ref01Rune_c0) (Kblock 1 (Kthen gl R N ref01Rune_c1 (Kret ref01Rune.rets))) N ⟨[(0, .imm (AV.bytes s1)), (6, .imm (AV.int .i64 4)), (7, .imm (AV.int .i32 65536)), (8, .imm (AV.int .i32 (IntKind.i32.wrap (IntKind.u8.wrap (BitVec.ofInt IntKind.u8.bits (c1.toNat : Int) &&& BitVec.ofInt IntKind.u8.bits 7).toNat)))), (9, .imm (AV.int .i64 1))], []⟩)
                    else
                      some ⟨AV.tup [AV.int .i32 0, AV.int .i64 1, AV.bool false], false, []⟩)
                  else
                    some ⟨AV.tup [AV.int .i32 0, AV.int .i64 1, AV.bool false], false, []⟩)
              else
                bif decide (((c1.toNat : Int) : Int) ≥ 240) then
                  (bif decide (((c1.toNat : Int) : Int) ≤ 244) then
                    (bif decide ((((s1.length : Nat) : Int) : Int) < 4) then
                      (some ⟨AV.tup [AV.int .i32 0, AV.int .i64 1, AV.bool false], false, []⟩)
                    else
                      rounds [0, 6, 7, 8, 9] [] (evC gl R N ref01Rune_c0) (Kblock 1 (Kthen gl R N ref01Rune_c1 (Kret ref01Rune.rets))) N ⟨[(0, .imm (AV.bytes s1)), (6, .imm (AV.int .i64 4)), (7, .imm (AV.int .i32 65536)), (8, .imm (AV.int .i32 (IntKind.i32.wrap (IntKind.u8.wrap (BitVec.ofInt IntKind.u8.bits (c1.toNat : Int) &&& BitVec.ofInt IntKind.u8.bits 7).toNat)))), (9, .imm (AV.int .i64 1))], []⟩)
                  else
                    some ⟨AV.tup [AV.int .i32 0, AV.int .i64 1, AV.bool false], false, []⟩)
                else
                  some ⟨AV.tup [AV.int .i32 0, AV.int .i64 1, AV.bool false], false, []⟩)
          else
            bif decide (((c1.toNat : Int) : Int) ≥ 224) then
              (bif decide (((c1.toNat : Int) : Int) ≤ 239) then
                (bif decide ((((s1.length : Nat) : Int) : Int) < 3) then
                  (some ⟨AV.tup [AV.int .i32 0, AV.int .i64 1, AV.bool false], false, []⟩)
                else
                  rounds [0, 6, 7, 8, 9] [] (evC gl R N ref01Rune_c0) (Kblock 1 (Kthen gl R N ref01Rune_c1 (Kret ref01Rune.rets))) N ⟨[(0, .imm (AV.bytes s1)), (6, .imm (AV.int .i64 3)), (7, .imm (AV.int .i32 2048)), (8, .imm (AV.int .i32 (IntKind.i32.wrap (IntKind.u8.wrap (BitVec.ofInt IntKind.u8.bits (c1.toNat : Int) &&& BitVec.ofInt IntKind.u8.bits 15).toNat)))), (9, .imm (AV.int .i64 1))], []⟩)
              else
                bif decide (((c1.toNat : Int) : Int) ≥ 240) then
                  (bif decide (((c1.toNat : Int) : Int) ≤ 244) then
                    (bif decide ((((s1.length : Nat) : Int) : Int) < 4) then
                      (some ⟨AV.tup [AV.int .i32 0, AV.int .i64 1, AV.bool false], false, []⟩)
                    else
                      rounds [0, 6, 7, 8, 9] [] (evC gl R N ref01Rune_c0) (Kblock 1 (Kthen gl R N ref01Rune_c1 (Kret ref01Rune.rets))) N ⟨[(0, .imm (AV.bytes s1)), (6, .imm (AV.int .i64 4)), (7, .imm (AV.int .i32 65536)), (8, .imm (AV.int .i32 (IntKind.i32.wrap (IntKind.u8.wrap (BitVec.ofInt IntKind.u8.bits (c1.toNat : Int) &&& BitVec.ofInt IntKind.u8.bits 7).toNat)))), (9, .imm (AV.int .i64 1))], []⟩)
                  else
                    some ⟨AV.tup [AV.int .i32 0, AV.int .i64 1, AV.bool false], false, []⟩)
                else
                  some ⟨AV.tup [AV.int .i32 0, AV.int .i64 1, AV.bool false], false, []⟩)
            else
              bif decide (((c1.toNat : Int) : Int) ≥ 240) then
                (bif decide (((c1.toNat : Int) : Int) ≤ 244) then
                  (bif decide ((((s1.length : Nat) : Int) : Int) < 4) then
                    (some ⟨AV.tup [AV.int .i32 0, AV.int .i64 1, AV.bool false], false, []⟩)
                  else
                    rounds [0, 6, 7, 8, 9] [] (evC gl R N ref01Rune_c0) (Kblock 1 (Kthen gl R N ref01Rune_c1 (Kret ref01Rune.rets))) N ⟨[(0, .imm (AV.bytes s1)), (6, .imm (AV.int .i64 4)), (7, .imm (AV.int .i32 65536)), (8, .imm (AV.int .i32 (IntKind.i32.wrap (IntKind.u8.wrap (BitVec.ofInt IntKind.u8.bits (c1.toNat : Int) &&& BitVec.ofInt IntKind.u8.bits 7).toNat)))), (9, .imm (AV.int .i64 1))], []⟩)
                else
                  some ⟨AV.tup [AV.int .i32 0, AV.int .i64 1, AV.bool false], false, []⟩)
              else
                some ⟨AV.tup [AV.int .i32 0, AV.int .i64 1, AV.bool false], false, []⟩) (by kernel_rfl) ?_
  simp (config := { maxSteps := 100000000 }) only [ref01Rune_L1_eq]
  kernel_rfl
theorem ref01Rune_fit : fitF Tryd.prog ref01Rune Tryd.f21 = true := by
  kernel_rfl

def ref01Printable_c0 : AC := .seq (.region [.op (some 2) none (.mv (.k (AV.bool false)))]) (.seq (.block 0 (.seq (.region [.op (some 4) none (.mv (.t 0)), .op (some 5) none (.bin .eql (.t 4) (.k (AV.int .i32 9))), .op (some 6) none (.mv (.t 5)), .split 6, .op (some 7) (some (6, false)) (.mv (.t 0)), .op (some 8) (some (6, false)) (.bin .eql (.t 7) (.k (AV.int .i32 10))), .op (some 9) none (.pick (.t 6) (.k (AV.bool true)) (.t 8)), .op (some 10) none (.mv (.t 9)), .split 10, .op (some 11) (some (10, false)) (.mv (.t 0)), .op (some 12) (some (10, false)) (.bin .eql (.t 11) (.k (AV.int .i32 13))), .op (some 13) none (.pick (.t 10) (.k (AV.bool true)) (.t 12)), .op (some 14) none (.mv (.t 13)), .split 14, .op (some 15) (some (14, false)) (.mv (.t 0)), .op (some 16) (some (14, false)) (.bin .eql (.t 15) (.k (AV.int .i32 133))), .op (some 17) none (.pick (.t 14) (.k (AV.bool true)) (.t 16)), .op (some 3) none (.mv (.t 17))]) (.cond (.t 3) (.seq (.region [.op (some 2) none (.mv (.k (AV.bool true)))]) (.ret [2] [])) (.seq (.region [.op (some 19) none (.mv (.t 0)), .op (some 20) none (.bin .lss (.t 19) (.k (AV.int .i32 32))), .op (some 21) none (.mv (.t 20)), .split 21, .op (some 22) (some (21, false)) (.mv (.t 0)), .op (some 23) (some (21, false)) (.bin .geq (.t 22) (.k (AV.int .i32 127))), .op (some 24) (some (21, false)) (.mv (.t 23)), .split 24, .op (some 25) (some (24, true)) (.mv (.t 0)), .op (some 26) (some (24, true)) (.bin .leq (.t 25) (.k (AV.int .i32 159))), .op (some 27) (some (21, false)) (.pick (.t 24) (.t 26) (.k (AV.bool false))), .op (some 28) none (.pick (.t 21) (.k (AV.bool true)) (.t 27)), .op (some 29) none (.mv (.t 28)), .split 29, .op (some 30) (some (29, false)) (.mv (.t 0)), .op (some 31) (some (29, false)) (.bin .geq (.t 30) (.k (AV.int .i32 55296))), .op (some 32) (some (29, false)) (.mv (.t 31)), .split 32, .op (some 33) (some (32, true)) (.mv (.t 0)), .op (some 34) (some (32, true)) (.bin .leq (.t 33) (.k (AV.int .i32 57343))), .op (some 35) (some (29, false)) (.pick (.t 32) (.t 34) (.k (AV.bool false))), .op (some 36) none (.pick (.t 29) (.k (AV.bool true)) (.t 35)), .op (some 37) none (.mv (.t 36)), .split 37, .op (some 38) (some (37, false)) (.mv (.t 0)), .op (some 39) (some (37, false)) (.bin .eql (.t 38) (.k (AV.int .i32 65279))), .op (some 40) none (.pick (.t 37) (.k (AV.bool true)) (.t 39)), .op (some 41) none (.mv (.t 40)), .split 41, .op (some 42) (some (41, false)) (.mv (.t 0)), .op (some 43) (some (41, false)) (.bin .eql (.t 42) (.k (AV.int .i32 65534))), .op (some 44) none (.pick (.t 41) (.k (AV.bool true)) (.t 43)), .op (some 45) none (.mv (.t 44)), .split 45, .op (some 46) (some (45, false)) (.mv (.t 0)), .op (some 47) (some (45, false)) (.bin .eql (.t 46) (.k (AV.int .i32 65535))), .op (some 48) none (.pick (.t 45) (.k (AV.bool true)) (.t 47)), .op (some 49) none (.mv (.t 48)), .split 49, .op (some 50) (some (49, false)) (.mv (.t 0)), .op (some 51) (some (49, false)) (.bin .gtr (.t 50) (.k (AV.int .i32 1114111))), .op (some 52) none (.pick (.t 49) (.k (AV.bool true)) (.t 51)), .op (some 18) none (.mv (.t 52))]) (.cond (.t 18) (.seq (.region [.op (some 2) none (.mv (.k (AV.bool false)))]) (.ret [2] [])) (.skip)))))) (.seq (.region [.op (some 2) none (.mv (.k (AV.bool true)))]) (.ret [2] [])))
def ref01Printable : AFunc := ⟨1, 53, [.tmp 2], ref01Printable_c0⟩
def ref01Printabler (R : Nat → List AV → Option Res) (N : Nat) (i1 : Int) : Option Res :=
  bif (i1 : Int) == 9 then
    (some ⟨AV.bool true, false, []⟩)
  else
    bif (i1 : Int) == 10 then
      (some ⟨AV.bool true, false, []⟩)
    else
      bif (i1 : Int) == 13 then
        (some ⟨AV.bool true, false, []⟩)
      else
        bif (i1 : Int) == 133 then
          (some ⟨AV.bool true, false, []⟩)
        else
          bif decide ((i1 : Int) < 32) then
            (some ⟨AV.bool false, false, []⟩)
          else
            bif decide ((i1 : Int) ≥ 127) then
              (bif decide ((i1 : Int) ≤ 159) then
                (some ⟨AV.bool false, false, []⟩)
              else
                bif decide ((i1 : Int) ≥ 55296) then
                  (bif decide ((i1 : Int) ≤ 57343) then
                    (some ⟨AV.bool false, false, []⟩)
                  else
                    bif (i1 : Int) == 65279 then
                      (some ⟨AV.bool false, false, []⟩)
                    else
                      bif (i1 : Int) == 65534 then
                        (some ⟨AV.bool false, false, []⟩)
                      else
                        bif (i1 : Int) == 65535 then
                          (some ⟨AV.bool false, false, []⟩)
                        else
                          bif decide ((i1 : Int) > 1114111) then
                            (some ⟨AV.bool false, false, []⟩)
                          else
                            some ⟨AV.bool true, false, []⟩)
                else
                  bif (i1 : Int) == 65279 then
                    (some ⟨AV.bool false, false, []⟩)
                  else
                    bif (i1 : Int) == 65534 then
                      (some ⟨AV.bool false, false, []⟩)
                    else
                      bif (i1 : Int) == 65535 then
                        (some ⟨AV.bool false, false, []⟩)
                      else
                        bif decide ((i1 : Int) > 1114111) then
                          (some ⟨AV.bool false, false, []⟩)
                        else
                          some ⟨AV.bool true, false, []⟩)
            else
              bif decide ((i1 : Int) ≥ 55296) then
                (bif decide ((i1 : Int) ≤ 57343) then
                  (some ⟨AV.bool false, false, []⟩)
                else
                  bif (i1 : Int) == 65279 then
                    (some ⟨AV.bool false, false, []⟩)
                  else
                    bif (i1 : Int) == 65534 then
                      (some ⟨AV.bool false, false, []⟩)
                    else
                      bif (i1 : Int) == 65535 then
                        (some ⟨AV.bool false, false, []⟩)
                      else
                        bif decide ((i1 : Int) > 1114111) then
                          (some ⟨AV.bool false, false, []⟩)
                        else
                          some ⟨AV.bool true, false, []⟩)
              else
                bif (i1 : Int) == 65279 then
                  (some ⟨AV.bool false, false, []⟩)
                else
                  bif (i1 : Int) == 65534 then
                    (some ⟨AV.bool false, false, []⟩)
                  else
                    bif (i1 : Int) == 65535 then
                      (some ⟨AV.bool false, false, []⟩)
                    else
                      bif decide ((i1 : Int) > 1114111) then
                        (some ⟨AV.bool false, false, []⟩)
                      else
                        some ⟨AV.bool true, false, []⟩
theorem ref01Printable_eq (R : Nat → List AV → Option Res) (N : Nat) (i1 : Int) : runF gl R N ref01Printable [AV.int .i32 i1] = ref01Printabler R N i1 := by
  kernel_rfl
theorem ref01Printable_fit : fitF Tryd.prog ref01Printable Tryd.f22 = true := by
  kernel_rfl

def law01CharsRunes_c0 : AC := .seq (.region [.op (some 4) none (.mv (.k (AV.bool false)))]) (.seq (.region [.op (some 12) none (.mv (.t 0)), .op (some 13) none (.call id_keepCutByte [.t 12, .k (AV.int .i64 8)] (.bytes)), .op (some 0) none (.mv (.t 13))]) (.seq (.region [.op (some 15) none (.mv (.t 0)), .op (some 16) none (.call id_charsRune [.t 15] (.tup [.int .i32, .int .i64, .bool])), .op (some 14) none (.mv (.t 16)), .op (some 17) none (.extract (.t 14) 0), .op (some 18) none (.extract (.t 14) 1), .op (some 19) none (.extract (.t 14) 2), .op (some 5) none (.mv (.t 17)), .op (some 6) none (.mv (.t 18)), .op (some 7) none (.mv (.t 19))]) (.seq (.region [.op (some 21) none (.mv (.t 0)), .op (some 22) none (.call id_ref01Rune [.t 21] (.tup [.int .i32, .int .i64, .bool])), .op (some 20) none (.mv (.t 22)), .op (some 23) none (.extract (.t 20) 0), .op (some 24) none (.extract (.t 20) 1), .op (some 25) none (.extract (.t 20) 2), .op (some 8) none (.mv (.t 23)), .op (some 9) none (.mv (.t 24)), .op (some 10) none (.mv (.t 25))]) (.seq (.seq (.region [.op (some 26) none (.mv (.t 7)), .op (some 27) none (.mv (.t 10)), .op (some 28) none (.binB .neq (.t 26) (.t 27)), .op (some 29) none (.mv (.t 28)), .split 29, .op (some 30) (some (29, false)) (.mv (.t 6)), .op (some 31) (some (29, false)) (.mv (.t 9)), .op (some 32) (some (29, false)) (.bin .neq (.t 30) (.t 31)), .op (some 33) none (.pick (.t 29) (.k (AV.bool true)) (.t 32)), .op (some 34) none (.mv (.t 33)), .split 34, .op (some 35) (some (34, false)) (.mv (.t 5)), .op (some 36) (some (34, false)) (.mv (.t 8)), .op (some 37) (some (34, false)) (.bin .neq (.t 35) (.t 36)), .op (some 38) none (.pick (.t 34) (.k (AV.bool true)) (.t 37))]) (.cond (.t 38) (.seq (.region [.op (some 4) none (.mv (.k (AV.bool false)))]) (.ret [4] [])) (.skip))) (.seq (.region [.op (some 39) none (.mv (.t 1)), .op (some 40) none (.cvInt .i32 (.t 39)), .op (some 11) none (.mv (.t 40))]) (.seq (.seq (.region [.op (some 41) none (.mv (.t 1)), .op (some 42) none (.bin .rem (.t 41) (.k (AV.int .i64 3))), .op (some 43) none (.bin .neq (.t 42) (.k (AV.int .i64 2)))]) (.cond (.t 43) (.region [.op (some 44) none (.mv (.t 1)), .op (some 45) none (.call id_keepWithin [.t 44, .k (AV.int .i64 1116160)] (.int .i64)), .op (some 46) none (.cvInt .i32 (.t 45)), .op (some 11) none (.mv (.t 46))]) (.skip))) (.seq (.region [.op (some 47) none (.mv (.t 11)), .op (some 48) none (.call id_charsPrintable [.t 47] (.bool)), .op (some 49) none (.mv (.t 11)), .op (some 50) none (.call id_ref01Printable [.t 49] (.bool)), .op (some 51) none (.binB .eql (.t 48) (.t 50)), .op (some 52) none (.mv (.t 51)), .split 52, .op (some 53) (some (52, true)) (.call id_law01Wakes [] (.bool)), .op (some 54) none (.pick (.t 52) (.t 53) (.k (AV.bool false))), .op (some 4) none (.mv (.t 54))]) (.ret [4] []))))))))
def law01CharsRunes : AFunc := ⟨2, 55, [.tmp 4], law01CharsRunes_c0⟩
def law01CharsRunesr (R : Nat → List AV → Option Res) (N : Nat) (s1 : List UInt8) (i1 : Int) : Option Res :=
  (R id_keepCutByte [AV.bytes s1, AV.int .i64 8]).bind fun r1 =>
  asY r1.v fun s2 =>
  (R id_charsRune [AV.bytes s2]).bind fun r2 =>
  asJIBT r2.v fun i2 i3 b1 =>
  (R id_ref01Rune [AV.bytes s2]).bind fun r3 =>
  asJIBT r3.v fun i4 i5 b2 =>
  bif !(b1 == b2) then
    (some ⟨AV.bool false, false, []⟩)
  else
    bif (i3 : Int) != i5 then
      (some ⟨AV.bool false, false, []⟩)
    else
      bif (i2 : Int) != i4 then
        (some ⟨AV.bool false, false, []⟩)
      else
        need (!decide (3 = 0)) <|
        bif ((Int.tmod i1 3) : Int) != 2 then
          ((R id_keepWithin [AV.int .i64 i1, AV.int .i64 1116160]).bind fun r4 =>
          asI .i64 r4.v fun i6 =>
          (R id_charsPrintable [AV.int .i32 (IntKind.i32.wrap i6)]).bind fun r5 =>
          asB r5.v fun b3 =>
          (R id_ref01Printable [AV.int .i32 (IntKind.i32.wrap i6)]).bind fun r6 =>
          asB r6.v fun b4 =>
          bif b3 == b4 then
            ((R id_law01Wakes []).bind fun r7 =>
            asB r7.v fun b5 =>
            some ⟨AV.bool b5, false, []⟩)
          else
            some ⟨AV.bool false, false, []⟩)
        else
          (R id_charsPrintable [AV.int .i32 (IntKind.i32.wrap i1)]).bind fun r8 =>
          asB r8.v fun b6 =>
          (R id_ref01Printable [AV.int .i32 (IntKind.i32.wrap i1)]).bind fun r9 =>
          asB r9.v fun b7 =>
          bif b6 == b7 then
            ((R id_law01Wakes []).bind fun r10 =>
            asB r10.v fun b8 =>
            some ⟨AV.bool b8, false, []⟩)
          else
            some ⟨AV.bool false, false, []⟩
theorem law01CharsRunes_eq (R : Nat → List AV → Option Res) (N : Nat) (s1 : List UInt8) (i1 : Int) : runF gl R N law01CharsRunes [AV.bytes s1, AV.int .i64 i1] = law01CharsRunesr R N s1 i1 := by
  kernel_rfl
theorem law01CharsRunes_fit : fitF Tryd.prog law01CharsRunes Tryd.f6 = true := by
  kernel_rfl

def law01CharsWhole_c0 : AC := .seq (.region [.op (some 6) none (.mv (.k (AV.bool false)))]) (.seq (.region [.op (some 16) none (.mv (.t 0)), .op (some 17) none (.call id_keepText [.t 16, .k (AV.int .i64 100)] (.str)), .op (some 18) none (.mv (.t 1)), .op (some 19) none (.call id_keepText [.t 18, .k (AV.int .i64 100)] (.str)), .op (some 0) none (.mv (.t 17)), .op (some 1) none (.mv (.t 19))]) (.seq (.region [.op (some 21) none (.mv (.t 0)), .op (some 22) none (.cvBytes (.t 21)), .op (some 23) none (.call id_charsCheck [.t 22] (.tup [.int .i64, .int .i64])), .op (some 20) none (.mv (.t 23)), .op (some 24) none (.extract (.t 20) 0), .op (some 25) none (.extract (.t 20) 1), .op (some 7) none (.mv (.t 24)), .op (some 8) none (.mv (.t 25))]) (.seq (.region [.op (some 27) none (.mv (.t 1)), .op (some 28) none (.cvBytes (.t 27)), .op (some 29) none (.call id_charsCheck [.t 28] (.tup [.int .i64, .int .i64])), .op (some 26) none (.mv (.t 29)), .op (some 30) none (.extract (.t 26) 0), .op (some 31) none (.extract (.t 26) 1), .op (some 9) none (.mv (.t 30)), .op (some 10) none (.mv (.t 31))]) (.seq (.region [.op (some 33) none (.mv (.t 0)), .op (some 34) none (.mv (.t 1)), .op (some 35) none (.bin .add (.t 33) (.t 34)), .op (some 36) none (.cvBytes (.t 35)), .op (some 37) none (.call id_charsCheck [.t 36] (.tup [.int .i64, .int .i64])), .op (some 32) none (.mv (.t 37)), .op (some 38) none (.extract (.t 32) 0), .op (some 39) none (.extract (.t 32) 1), .op (some 11) none (.mv (.t 38)), .op (some 12) none (.mv (.t 39))]) (.seq (.seq (.region [.op (some 40) none (.mv (.t 1)), .op (some 41) none (.len (.t 40) true), .op (some 42) none (.bin .geq (.t 41) (.k (AV.int .i64 3))), .op (some 43) none (.mv (.t 42)), .split 43, .op (some 44) (some (43, true)) (.mv (.t 1)), .op (some 45) (some (43, true)) (.sliceS (.t 44) none (some (.k (AV.int .i64 3)))), .op (some 46) (some (43, true)) (.bin .eql (.t 45) (.k (AV.str [239, 187, 191]))), .op (some 47) none (.pick (.t 43) (.t 46) (.k (AV.bool false))), .op (some 48) none (.mv (.t 47)), .split 48, .op (some 49) (some (48, false)) (.mv (.t 8)), .op (some 50) (some (48, false)) (.bin .neq (.t 49) (.k (AV.int .i64 0))), .op (some 51) none (.pick (.t 48) (.k (AV.bool true)) (.t 50)), .op (some 52) none (.mv (.t 51)), .split 52, .op (some 53) (some (52, false)) (.mv (.t 10)), .op (some 54) (some (52, false)) (.bin .neq (.t 53) (.k (AV.int .i64 0))), .op (some 55) none (.pick (.t 52) (.k (AV.bool true)) (.t 54))]) (.cond (.t 55) (.seq (.region [.op (some 56) none (.call id_law01Wakes [] (.bool)), .op (some 6) none (.mv (.t 56))]) (.ret [6] [])) (.skip))) (.seq (.seq (.region [.op (some 57) none (.mv (.t 12)), .op (some 58) none (.bin .neq (.t 57) (.k (AV.int .i64 0))), .op (some 59) none (.mv (.t 58)), .split 59, .op (some 60) (some (59, false)) (.mv (.t 11)), .op (some 61) (some (59, false)) (.bin .neq (.t 60) (.k (AV.int .i64 0))), .op (some 62) none (.pick (.t 59) (.k (AV.bool true)) (.t 61))]) (.cond (.t 62) (.seq (.region [.op (some 6) none (.mv (.k (AV.bool false)))]) (.ret [6] [])) (.skip))) (.seq (.region [.op (some 63) none (.bslice [.k (AV.int .u8 192), .k (AV.int .u8 193), .k (AV.int .u8 245), .k (AV.int .u8 255), .k (AV.int .u8 128), .k (AV.int .u8 0), .k (AV.int .u8 1), .k (AV.int .u8 127)] 1 true), .op (some 64) none (.mv (.t 2)), .op (some 65) none (.cvInt .i64 (.t 64)), .op (some 66) none (.bin .rem (.t 65) (.k (AV.int .i64 8))), .op (some 67) none (.iaddr (.t 63) (.t 66) 1 (.int .u8)), .op (some 68) none (.load (.t 67) none (.int .u8)), .op (some 13) none (.mv (.t 68))]) (.seq (.region [.op (some 70) none (.mv (.t 0)), .op (some 71) none (.mv (.t 13)), .op (some 72) none (.bslice [.t 71] 1 true), .op (some 73) none (.cvStr (.t 72)), .op (some 74) none (.bin .add (.t 70) (.t 73)), .op (some 75) none (.mv (.t 1)), .op (some 76) none (.bin .add (.t 74) (.t 75)), .op (some 77) none (.cvBytes (.t 76)), .op (some 78) none (.call id_charsCheck [.t 77] (.tup [.int .i64, .int .i64])), .op (some 69) none (.mv (.t 78)), .op (some 79) none (.extract (.t 69) 0), .op (some 80) none (.extract (.t 69) 1), .op (some 14) none (.mv (.t 79)), .op (some 15) none (.mv (.t 80))]) (.seq (.region [.op (some 81) none (.mv (.t 15)), .op (some 82) none (.bin .eql (.t 81) (.k (AV.int .i64 1))), .op (some 83) none (.mv (.t 82)), .split 83, .op (some 84) (some (83, true)) (.mv (.t 14)), .op (some 85) (some (83, true)) (.mv (.t 0)), .op (some 86) (some (83, true)) (.len (.t 85) true), .op (some 87) (some (83, true)) (.bin .eql (.t 84) (.t 86)), .op (some 88) none (.pick (.t 83) (.t 87) (.k (AV.bool false))), .op (some 89) none (.mv (.t 88)), .split 89, .op (some 90) (some (89, true)) (.call id_law01Wakes [] (.bool)), .op (some 91) none (.pick (.t 89) (.t 90) (.k (AV.bool false))), .op (some 6) none (.mv (.t 91))]) (.ret [6] []))))))))))
def law01CharsWhole : AFunc := ⟨3, 92, [.tmp 6], law01CharsWhole_c0⟩
def law01CharsWholer (R : Nat → List AV → Option Res) (N : Nat) (s1 : List UInt8) (s2 : List UInt8) (i1 : Int) : Option Res :=
  (R id_keepText [AV.str s1, AV.int .i64 100]).bind fun r1 =>
  asS r1.v fun s3 =>
  (R id_keepText [AV.str s2, AV.int .i64 100]).bind fun r2 =>
  asS r2.v fun s4 =>
  (R id_charsCheck [AV.bytes s3]).bind fun r3 =>
  asIIT r3.v fun i2 i3 =>
  (R id_charsCheck [AV.bytes s4]).bind fun r4 =>
  asIIT r4.v fun i4 i5 =>
  need (decide (s3.length + s4.length ≤ 9223372036854775807)) <|
  (R id_charsCheck [AV.bytes (s3 ++ s4)]).bind fun r5 =>
  asIIT r5.v fun i6 i7 =>
  bif decide ((((s4.length : Nat) : Int) : Int) ≥ 3) then
    (need (decide (0 ≤ (3 : Int)) && decide ((3 : Int) ≤ ((s4.length : Nat) : Int))) <|
    bif ((s4.take (Int.toNat 3)).drop 0) == [239, 187, 191] then
      ((R id_law01Wakes []).bind fun r6 =>
      asB r6.v fun b1 =>
      some ⟨AV.bool b1, false, []⟩)
    else
      bif (i3 : Int) != 0 then
        ((R id_law01Wakes []).bind fun r7 =>
        asB r7.v fun b2 =>
        some ⟨AV.bool b2, false, []⟩)
      else
        bif (i5 : Int) != 0 then
          ((R id_law01Wakes []).bind fun r8 =>
          asB r8.v fun b3 =>
          some ⟨AV.bool b3, false, []⟩)
        else
          bif (i7 : Int) != 0 then
            (some ⟨AV.bool false, false, []⟩)
          else
            bif (i6 : Int) != 0 then
              (some ⟨AV.bool false, false, []⟩)
            else
              need (!decide (8 = 0)) <|
              need (decide (0 ≤ (Int.tmod (IntKind.i64.wrap i1) 8 : Int))) <|
              (([192, 193, 245, 255, 128, 0, 1, 127] : List UInt8)[Int.toNat (Int.tmod (IntKind.i64.wrap i1) 8)]?).bind fun c1 =>
              need (decide (0 ≤ ((c1.toNat : Int) : Int)) && decide (((c1.toNat : Int) : Int) < 256)) <|
              need (decide (s3.length + [UInt8.ofNat (Int.toNat (c1.toNat : Int))].length ≤ 9223372036854775807)) <|
              need (decide ((s3 ++ [UInt8.ofNat (Int.toNat (c1.toNat : Int))]).length + s4.length ≤ 9223372036854775807)) <|
              (R id_charsCheck [AV.bytes ((s3 ++ [UInt8.ofNat (Int.toNat (c1.toNat : Int))]) ++ s4)]).bind fun r9 =>
              asIIT r9.v fun i8 i9 =>
              bif (i9 : Int) == 1 then
                (bif (i8 : Int) == ((s3.length : Nat) : Int) then
                  ((R id_law01Wakes []).bind fun r10 =>
                  asB r10.v fun b4 =>
                  some ⟨AV.bool b4, false, []⟩)
                else
                  some ⟨AV.bool false, false, []⟩)
              else
                some ⟨AV.bool false, false, []⟩)
  else
    bif (i3 : Int) != 0 then
      ((R id_law01Wakes []).bind fun r11 =>
      asB r11.v fun b5 =>
      some ⟨AV.bool b5, false, []⟩)
    else
      bif (i5 : Int) != 0 then
        ((R id_law01Wakes []).bind fun r12 =>
        asB r12.v fun b6 =>
        some ⟨AV.bool b6, false, []⟩)
      else
        bif (i7 : Int) != 0 then
          (some ⟨AV.bool false, false, []⟩)
        else
          bif (i6 : Int) != 0 then
            (some ⟨AV.bool false, false, []⟩)
          else
            need (!decide (8 = 0)) <|
            need (decide (0 ≤ (Int.tmod (IntKind.i64.wrap i1) 8 : Int))) <|
            (([192, 193, 245, 255, 128, 0, 1, 127] : List UInt8)[Int.toNat (Int.tmod (IntKind.i64.wrap i1) 8)]?).bind fun c2 =>
            need (decide (0 ≤ ((c2.toNat : Int) : Int)) && decide (((c2.toNat : Int) : Int) < 256)) <|
            need (decide (s3.length + [UInt8.ofNat (Int.toNat (c2.toNat : Int))].length ≤ 9223372036854775807)) <|
            need (decide ((s3 ++ [UInt8.ofNat (Int.toNat (c2.toNat : Int))]).length + s4.length ≤ 9223372036854775807)) <|
            (R id_charsCheck [AV.bytes ((s3 ++ [UInt8.ofNat (Int.toNat (c2.toNat : Int))]) ++ s4)]).bind fun r13 =>
            asIIT r13.v fun i10 i11 =>
            bif (i11 : Int) == 1 then
              (bif (i10 : Int) == ((s3.length : Nat) : Int) then
                ((R id_law01Wakes []).bind fun r14 =>
                asB r14.v fun b7 =>
                some ⟨AV.bool b7, false, []⟩)
              else
                some ⟨AV.bool false, false, []⟩)
            else
              some ⟨AV.bool false, false, []⟩
theorem law01CharsWhole_eq (R : Nat → List AV → Option Res) (N : Nat) (s1 : List UInt8) (s2 : List UInt8) (i1 : Int) : runF gl R N law01CharsWhole [AV.str s1, AV.str s2, AV.int .u8 i1] = law01CharsWholer R N s1 s2 i1 := by
  kernel_rfl
theorem law01CharsWhole_fit : fitF Tryd.prog law01CharsWhole Tryd.f7 = true := by
  kernel_rfl

def law01CharsLong_L1s (R : Nat → List AV → Option Res) (N : Nat) (go : Int → Nat → Int → Int → List UInt8 → Option Res) (k0 : Int → Nat → List UInt8 → Option Res) (i3 : Int) (n1 : Nat) (i4 : Int) (i5 : Int) (s1 : List UInt8) : Option Res :=
  bif decide ((i5 : Int) < i4) then
    (need (decide (0 ≤ (i5 : Int)) && decide ((i5 : Int) < ((n1 : Nat) : Int))) <|
    need (decide (0 ≤ (97 : Int)) && decide ((97 : Int) < 256)) <|
    need (Nat.beq 0 0 && decide (0 + Int.toNat i5 < s1.length) && Nat.beq 1 1) <|
    go i3 n1 i4 (IntKind.i64.wrap (i5 + 1)) (s1.set (0 + Int.toNat i5) (UInt8.ofNat (Int.toNat 97))))
  else
    k0 i3 n1 s1
def law01CharsLong_L1 (R : Nat → List AV → Option Res) (N : Nat) (k0 : Int → Nat → List UInt8 → Option Res) : Nat → Int → Nat → Int → Int → List UInt8 → Option Res
  | 0, _, _, _, _, _ => none
  | n + 1, i3, n1, i4, i5, s1 => law01CharsLong_L1s R N (law01CharsLong_L1 R N k0 n) k0 i3 n1 i4 i5 s1
def law01CharsLong_c0 : AC := .seq (.region [.op (some 15) none (.bin .lss (.t 14) (.t 13))]) (.seq (.cond (.t 15) (.skip) (.exit 0 [0, 3] [11])) (.seq (.block 1 (.seq (.region [.op (some 16) none (.mv (.t 14)), .op (some 4) none (.mv (.t 16))]) (.region [.op (some 17) none (.mv (.t 3)), .op (some 18) none (.mv (.t 4)), .op (some 19) none (.iaddr (.t 17) (.t 18) 1 (.int .u8)), .op none none (.store (.t 19) (.k (AV.int .u8 97)) 1)]))) (.region [.op (some 20) none (.bin .add (.t 14) (.k (AV.int .i64 1))), .op (some 14) none (.mv (.t 20))])))
theorem law01CharsLong_L1s_eq (R : Nat → List AV → Option Res) (N : Nat) (K : Ex → St → Option Res) (W : St → Option Res) (i3 : Int) (n1 : Nat) (i4 : Int) (i5 : Int) (s1 : List UInt8) :
    evC gl R N law01CharsLong_c0 (Kseq (fun st' => W (prune [0, 3, 13, 14] [11] st')) K) ⟨[(0, .imm (AV.int .i64 i3)), (3, .own 11 0 n1 none), (13, .imm (AV.int .i64 i4)), (14, .imm (AV.int .i64 i5))], [(11, .bytes s1 false)]⟩ =
    law01CharsLong_L1s R N (fun (i3 : Int) (n1 : Nat) (i4 : Int) (i5 : Int) (s1 : List UInt8) => W ⟨[(0, .imm (AV.int .i64 i3)), (3, .own 11 0 n1 none), (13, .imm (AV.int .i64 i4)), (14, .imm (AV.int .i64 i5))], [(11, .bytes s1 false)]⟩) (fun (i6 : Int) (n2 : Nat) (s2 : List UInt8) => K (.exit 0) ⟨[(0, .imm (AV.int .i64 i6)), (3, .own 11 0 n2 none)], [(11, .bytes s2 false)]⟩) i3 n1 i4 i5 s1 := by
  kernel_rfl
theorem law01CharsLong_L1_eq (R : Nat → List AV → Option Res) (N : Nat) (K : Ex → St → Option Res) : ∀ (n : Nat) (i3 : Int) (n1 : Nat) (i4 : Int) (i5 : Int) (s1 : List UInt8),
    rounds [0, 3, 13, 14] [11] (evC gl R N law01CharsLong_c0) K n ⟨[(0, .imm (AV.int .i64 i3)), (3, .own 11 0 n1 none), (13, .imm (AV.int .i64 i4)), (14, .imm (AV.int .i64 i5))], [(11, .bytes s1 false)]⟩ = law01CharsLong_L1 R N (fun (i6 : Int) (n2 : Nat) (s2 : List UInt8) => K (.exit 0) ⟨[(0, .imm (AV.int .i64 i6)), (3, .own 11 0 n2 none)], [(11, .bytes s2 false)]⟩) n i3 n1 i4 i5 s1
  | 0, _, _, _, _, _ => rfl
  | n + 1, i3, n1, i4, i5, s1 => (law01CharsLong_L1s_eq R N K (rounds [0, 3, 13, 14] [11] (evC gl R N law01CharsLong_c0) K n) i3 n1 i4 i5 s1).trans
      (congrArg (fun go => law01CharsLong_L1s R N go (fun (i6 : Int) (n2 : Nat) (s2 : List UInt8) => K (.exit 0) ⟨[(0, .imm (AV.int .i64 i6)), (3, .own 11 0 n2 none)], [(11, .bytes s2 false)]⟩) i3 n1 i4 i5 s1) (funext fun i3 => funext fun n1 => funext fun i4 => funext fun i5 => funext fun s1 => law01CharsLong_L1_eq R N K n i3 n1 i4 i5 s1))
def law01CharsLong_c1 : AC := .seq (.region [.op (some 22) none (.mv (.t 3)), .op (some 23) none (.call id_charsCheck [.t 22] (.tup [.int .i64, .int .i64])), .op (some 21) none (.mv (.t 23)), .op (some 24) none (.extract (.t 21) 0), .op (some 25) none (.extract (.t 21) 1), .op (some 5) none (.mv (.t 24)), .op (some 6) none (.mv (.t 25))]) (.seq (.seq (.region [.op (some 26) none (.mv (.t 0)), .op (some 27) none (.bin .gtr (.t 26) (.k (AV.int .i64 65536)))]) (.cond (.t 27) (.seq (.region [.op (some 28) none (.mv (.t 6)), .op (some 29) none (.bin .eql (.t 28) (.k (AV.int .i64 10))), .op (some 30) none (.mv (.t 29)), .split 30, .op (some 31) (some (30, true)) (.mv (.t 5)), .op (some 32) (some (30, true)) (.bin .eql (.t 31) (.k (AV.int .i64 65536))), .op (some 33) none (.pick (.t 30) (.t 32) (.k (AV.bool false))), .op (some 34) none (.mv (.t 33)), .split 34, .op (some 35) (some (34, true)) (.call id_law01Wakes [] (.bool)), .op (some 36) none (.pick (.t 34) (.t 35) (.k (AV.bool false))), .op (some 2) none (.mv (.t 36))]) (.ret [2] [])) (.skip))) (.seq (.region [.op (some 37) none (.mv (.t 6)), .op (some 38) none (.bin .eql (.t 37) (.k (AV.int .i64 0))), .op (some 39) none (.mv (.t 38)), .split 39, .op (some 40) (some (39, true)) (.mv (.t 5)), .op (some 41) (some (39, true)) (.bin .eql (.t 40) (.k (AV.int .i64 0))), .op (some 42) none (.pick (.t 39) (.t 41) (.k (AV.bool false))), .op (some 43) none (.mv (.t 42)), .split 43, .op (some 44) (some (43, true)) (.call id_law01Wakes [] (.bool)), .op (some 45) none (.pick (.t 43) (.t 44) (.k (AV.bool false))), .op (some 2) none (.mv (.t 45))]) (.ret [2] [])))
def law01CharsLong_c2 : AC := .seq (.region [.op (some 2) none (.mv (.k (AV.bool false)))]) (.seq (.region [.op (some 7) none (.mv (.t 0)), .op (some 8) none (.call id_keepWithin [.t 7, .k (AV.int .i64 3)] (.int .i64)), .op (some 9) none (.bin .add (.k (AV.int .i64 65535)) (.t 8)), .op (some 0) none (.mv (.t 9))]) (.seq (.region [.op (some 10) none (.mv (.t 0)), .op (some 11) none (.mkOwn 11 (.t 10) 1 (AV.int .u8 0) true), .op (some 3) none (.mv (.t 11))]) (.seq (.seq (.region [.op (some 12) none (.mv (.t 3)), .op (some 13) none (.len (.t 12) false), .op (some 14) none (.mv (.k (AV.int .i64 0)))]) (.block 0 (.loop [0, 3, 13, 14] [11] (law01CharsLong_c0)))) (law01CharsLong_c1))))
def law01CharsLong : AFunc := ⟨1, 46, [.tmp 2], law01CharsLong_c2⟩
def law01CharsLongr (R : Nat → List AV → Option Res) (N : Nat) (i1 : Int) : Option Res :=
  (R id_keepWithin [AV.int .i64 i1, AV.int .i64 3]).bind fun r1 =>
  asI .i64 r1.v fun i2 =>
  need (decide (0 ≤ (IntKind.i64.wrap (65535 + i2) : Int)) && decide ((IntKind.i64.wrap (65535 + i2) : Int) ≤ 1099511627776)) <|
  law01CharsLong_L1 R N
    (fun i8 n4 s4 =>
      (R id_charsCheck [AV.bytes ((s4.drop 0).take n4)]).bind fun r2 =>
      asIIT r2.v fun i9 i10 =>
      bif decide ((i8 : Int) > 65536) then
        (bif (i10 : Int) == 10 then
          (bif (i9 : Int) == 65536 then
            ((R id_law01Wakes []).bind fun r3 =>
            asB r3.v fun b1 =>
            some ⟨AV.bool b1, false, []⟩)
          else
            some ⟨AV.bool false, false, []⟩)
        else
          some ⟨AV.bool false, false, []⟩)
      else
        bif (i10 : Int) == 0 then
          (bif (i9 : Int) == 0 then
            ((R id_law01Wakes []).bind fun r4 =>
            asB r4.v fun b2 =>
            some ⟨AV.bool b2, false, []⟩)
          else
            some ⟨AV.bool false, false, []⟩)
        else
          some ⟨AV.bool false, false, []⟩)
    N (IntKind.i64.wrap (65535 + i2)) (Int.toNat (IntKind.i64.wrap (65535 + i2))) ((Int.toNat (IntKind.i64.wrap (65535 + i2)) : Nat) : Int) 0 (List.replicate (Int.toNat (IntKind.i64.wrap (65535 + i2))) 0)
theorem law01CharsLong_eq (R : Nat → List AV → Option Res) (N : Nat) (i1 : Int) : runF gl R N law01CharsLong [AV.int .i64 i1] = law01CharsLongr R N i1 := by
  refine Eq.trans (b :=
      (R id_keepWithin [AV.int .i64 i1, AV.int .i64 3]).bind fun r1 =>
      asI .i64 r1.v fun i2 =>
      need (decide (0 ≤ (IntKind.i64.wrap (65535 + i2) : Int)) && decide ((IntKind.i64.wrap (65535 + i2) : Int) ≤ 1099511627776)) <|
      rounds [0, 3, 13, 14] [11] (evC gl R N law01CharsLong_c0) (Kblock 0 (Kthen gl R N law01CharsLong_c1 (Kret law01CharsLong.rets))) N ⟨[(0, .imm (AV.int .i64 (IntKind.i64.wrap (65535 + i2)))), (3, .own 11 0 (Int.toNat (IntKind.i64.wrap (65535 + i2))) none), (13, .imm (AV.int .i64 ((Int.toNat (IntKind.i64.wrap (65535 + i2)) : Nat) : Int))), (14, .imm (AV.int .i64 0))], [(11, .bytes (List.replicate (Int.toNat (IntKind.i64.wrap (65535 + i2))) 0) false)]⟩) (by kernel_rfl) ?_
  simp (config := { maxSteps := 100000000 }) only [law01CharsLong_L1_eq]
  kernel_rfl
theorem law01CharsLong_fit : fitF Tryd.prog law01CharsLong Tryd.f8 = true := by
  kernel_rfl

def charsSpace_c0 : AC := .seq (.region [.op (some 2) none (.mv (.k (AV.bool false)))]) (.seq (.region [.op (some 3) none (.mv (.t 0)), .op (some 4) none (.bin .eql (.t 3) (.k (AV.int .u8 32))), .op (some 2) none (.mv (.t 4))]) (.ret [2] []))
def charsSpace : AFunc := ⟨1, 5, [.tmp 2], charsSpace_c0⟩
def charsSpacer (R : Nat → List AV → Option Res) (N : Nat) (i1 : Int) : Option Res :=
  some ⟨AV.bool ((i1 : Int) == 32), false, []⟩
theorem charsSpace_eq (R : Nat → List AV → Option Res) (N : Nat) (i1 : Int) : runF gl R N charsSpace [AV.int .u8 i1] = charsSpacer R N i1 := by
  kernel_rfl
theorem charsSpace_fit : fitF Tryd.prog charsSpace Tryd.f23 = true := by
  kernel_rfl

def law01CharsKinds_L1s (R : Nat → List AV → Option Res) (N : Nat) (go : Int → List AV → Int → Int → Option Res) (k0 : Bool → Option Res) (k1 : Int → Option Res) (i2 : Int) (l1 : List AV) (i3 : Int) (i4 : Int) : Option Res :=
  bif decide ((i4 : Int) < i3) then
    (need (decide (0 ≤ (i4 : Int))) <|
    (l1[Int.toNat i4]?).bind fun e1 =>
    asI .i32 e1 fun i5 =>
    (R id_charsPrintable [AV.int .i32 i5]).bind fun r1 =>
    asB r1.v fun b1 =>
    bif !b1 then
      (k0 false)
    else
      go i2 l1 i3 (IntKind.i64.wrap (i4 + 1)))
  else
    k1 i2
def law01CharsKinds_L1 (R : Nat → List AV → Option Res) (N : Nat) (k0 : Bool → Option Res) (k1 : Int → Option Res) : Nat → Int → List AV → Int → Int → Option Res
  | 0, _, _, _, _ => none
  | n + 1, i2, l1, i3, i4 => law01CharsKinds_L1s R N (law01CharsKinds_L1 R N k0 k1 n) k0 k1 i2 l1 i3 i4
def law01CharsKinds_c0 : AC := .seq (.region [.op (some 11) none (.bin .lss (.t 10) (.t 9))]) (.seq (.cond (.t 11) (.skip) (.exit 0 [0] [])) (.seq (.block 1 (.seq (.region [.op (some 12) none (.iaddr (.t 8) (.t 10) 1 (.int .i32)), .op (some 13) none (.load (.t 12) none (.int .i32)), .op (some 4) none (.mv (.t 13))]) (.seq (.region [.op (some 14) none (.mv (.t 4)), .op (some 15) none (.call id_charsPrintable [.t 14] (.bool)), .op (some 16) none (.un .not (.t 15))]) (.cond (.t 16) (.seq (.region [.op (some 2) none (.mv (.k (AV.bool false)))]) (.ret [2] [])) (.skip))))) (.region [.op (some 17) none (.bin .add (.t 10) (.k (AV.int .i64 1))), .op (some 10) none (.mv (.t 17))])))
theorem law01CharsKinds_L1s_eq (R : Nat → List AV → Option Res) (N : Nat) (K : Ex → St → Option Res) (W : St → Option Res) (i2 : Int) (l1 : List AV) (i3 : Int) (i4 : Int) :
    evC gl R N law01CharsKinds_c0 (Kseq (fun st' => W (prune [0, 8, 9, 10] [] st')) K) ⟨[(0, .imm (AV.int .i64 i2)), (8, .imm (AV.row 1 l1)), (9, .imm (AV.int .i64 i3)), (10, .imm (AV.int .i64 i4))], []⟩ =
    law01CharsKinds_L1s R N (fun (i2 : Int) (l1 : List AV) (i3 : Int) (i4 : Int) => W ⟨[(0, .imm (AV.int .i64 i2)), (8, .imm (AV.row 1 l1)), (9, .imm (AV.int .i64 i3)), (10, .imm (AV.int .i64 i4))], []⟩) (fun (b2 : Bool) => K .ret ⟨[(2, .imm (AV.bool b2))], []⟩) (fun (i6 : Int) => K (.exit 0) ⟨[(0, .imm (AV.int .i64 i6))], []⟩) i2 l1 i3 i4 := by
  kernel_rfl
theorem law01CharsKinds_L1_eq (R : Nat → List AV → Option Res) (N : Nat) (K : Ex → St → Option Res) : ∀ (n : Nat) (i2 : Int) (l1 : List AV) (i3 : Int) (i4 : Int),
    rounds [0, 8, 9, 10] [] (evC gl R N law01CharsKinds_c0) K n ⟨[(0, .imm (AV.int .i64 i2)), (8, .imm (AV.row 1 l1)), (9, .imm (AV.int .i64 i3)), (10, .imm (AV.int .i64 i4))], []⟩ = law01CharsKinds_L1 R N (fun (b2 : Bool) => K .ret ⟨[(2, .imm (AV.bool b2))], []⟩) (fun (i6 : Int) => K (.exit 0) ⟨[(0, .imm (AV.int .i64 i6))], []⟩) n i2 l1 i3 i4
  | 0, _, _, _, _ => rfl
  | n + 1, i2, l1, i3, i4 => (law01CharsKinds_L1s_eq R N K (rounds [0, 8, 9, 10] [] (evC gl R N law01CharsKinds_c0) K n) i2 l1 i3 i4).trans
      (congrArg (fun go => law01CharsKinds_L1s R N go (fun (b2 : Bool) => K .ret ⟨[(2, .imm (AV.bool b2))], []⟩) (fun (i6 : Int) => K (.exit 0) ⟨[(0, .imm (AV.int .i64 i6))], []⟩) i2 l1 i3 i4) (funext fun i2 => funext fun l1 => funext fun i3 => funext fun i4 => law01CharsKinds_L1_eq R N K n i2 l1 i3 i4))
def law01CharsKinds_L2s (R : Nat → List AV → Option Res) (N : Nat) (go : Int → List AV → Int → Int → Option Res) (k0 : Bool → Option Res) (k1 : Int → Option Res) (i9 : Int) (l2 : List AV) (i10 : Int) (i11 : Int) : Option Res :=
  bif decide ((i11 : Int) < i10) then
    (need (decide (0 ≤ (i11 : Int))) <|
    (l2[Int.toNat i11]?).bind fun e2 =>
    asI .i32 e2 fun i12 =>
    (R id_charsPrintable [AV.int .i32 i12]).bind fun r2 =>
    asB r2.v fun b5 =>
    bif b5 then
      (k0 false)
    else
      go i9 l2 i10 (IntKind.i64.wrap (i11 + 1)))
  else
    k1 i9
def law01CharsKinds_L2 (R : Nat → List AV → Option Res) (N : Nat) (k0 : Bool → Option Res) (k1 : Int → Option Res) : Nat → Int → List AV → Int → Int → Option Res
  | 0, _, _, _, _ => none
  | n + 1, i9, l2, i10, i11 => law01CharsKinds_L2s R N (law01CharsKinds_L2 R N k0 k1 n) k0 k1 i9 l2 i10 i11
def law01CharsKinds_c1 : AC := .seq (.region [.op (some 21) none (.bin .lss (.t 20) (.t 19))]) (.seq (.cond (.t 21) (.skip) (.exit 2 [0] [])) (.seq (.block 3 (.seq (.region [.op (some 22) none (.iaddr (.t 18) (.t 20) 1 (.int .i32)), .op (some 23) none (.load (.t 22) none (.int .i32)), .op (some 6) none (.mv (.t 23))]) (.seq (.region [.op (some 24) none (.mv (.t 6)), .op (some 25) none (.call id_charsPrintable [.t 24] (.bool))]) (.cond (.t 25) (.seq (.region [.op (some 2) none (.mv (.k (AV.bool false)))]) (.ret [2] [])) (.skip))))) (.region [.op (some 26) none (.bin .add (.t 20) (.k (AV.int .i64 1))), .op (some 20) none (.mv (.t 26))])))
theorem law01CharsKinds_L2s_eq (R : Nat → List AV → Option Res) (N : Nat) (K : Ex → St → Option Res) (W : St → Option Res) (i9 : Int) (l2 : List AV) (i10 : Int) (i11 : Int) :
    evC gl R N law01CharsKinds_c1 (Kseq (fun st' => W (prune [0, 18, 19, 20] [] st')) K) ⟨[(0, .imm (AV.int .i64 i9)), (18, .imm (AV.row 1 l2)), (19, .imm (AV.int .i64 i10)), (20, .imm (AV.int .i64 i11))], []⟩ =
    law01CharsKinds_L2s R N (fun (i9 : Int) (l2 : List AV) (i10 : Int) (i11 : Int) => W ⟨[(0, .imm (AV.int .i64 i9)), (18, .imm (AV.row 1 l2)), (19, .imm (AV.int .i64 i10)), (20, .imm (AV.int .i64 i11))], []⟩) (fun (b6 : Bool) => K .ret ⟨[(2, .imm (AV.bool b6))], []⟩) (fun (i13 : Int) => K (.exit 2) ⟨[(0, .imm (AV.int .i64 i13))], []⟩) i9 l2 i10 i11 := by
  kernel_rfl
theorem law01CharsKinds_L2_eq (R : Nat → List AV → Option Res) (N : Nat) (K : Ex → St → Option Res) : ∀ (n : Nat) (i9 : Int) (l2 : List AV) (i10 : Int) (i11 : Int),
    rounds [0, 18, 19, 20] [] (evC gl R N law01CharsKinds_c1) K n ⟨[(0, .imm (AV.int .i64 i9)), (18, .imm (AV.row 1 l2)), (19, .imm (AV.int .i64 i10)), (20, .imm (AV.int .i64 i11))], []⟩ = law01CharsKinds_L2 R N (fun (b6 : Bool) => K .ret ⟨[(2, .imm (AV.bool b6))], []⟩) (fun (i13 : Int) => K (.exit 2) ⟨[(0, .imm (AV.int .i64 i13))], []⟩) n i9 l2 i10 i11
  | 0, _, _, _, _ => rfl
  | n + 1, i9, l2, i10, i11 => (law01CharsKinds_L2s_eq R N K (rounds [0, 18, 19, 20] [] (evC gl R N law01CharsKinds_c1) K n) i9 l2 i10 i11).trans
      (congrArg (fun go => law01CharsKinds_L2s R N go (fun (b6 : Bool) => K .ret ⟨[(2, .imm (AV.bool b6))], []⟩) (fun (i13 : Int) => K (.exit 2) ⟨[(0, .imm (AV.int .i64 i13))], []⟩) i9 l2 i10 i11) (funext fun i9 => funext fun l2 => funext fun i10 => funext fun i11 => law01CharsKinds_L2_eq R N K n i9 l2 i10 i11))
def law01CharsKinds_c2 : AC := .seq (.region [.op (some 27) none (.mv (.t 0)), .op (some 28) none (.call id_keepWithin [.t 27, .k (AV.int .i64 94)] (.int .i64)), .op (some 29) none (.bin .add (.k (AV.int .i64 33)) (.t 28)), .op (some 30) none (.cvInt .i32 (.t 29)), .op (some 7) none (.mv (.t 30))]) (.seq (.region [.op (some 31) none (.mv (.t 7)), .op (some 32) none (.call id_charsPrintable [.t 31] (.bool)), .op (some 33) none (.mv (.t 32)), .split 33, .op (some 34) (some (33, true)) (.call id_charsSpace [.k (AV.int .u8 32)] (.bool)), .op (some 35) none (.pick (.t 33) (.t 34) (.k (AV.bool false))), .op (some 36) none (.mv (.t 35)), .split 36, .op (some 37) (some (36, true)) (.call id_charsSpace [.k (AV.int .u8 9)] (.bool)), .op (some 38) (some (36, true)) (.un .not (.t 37)), .op (some 39) none (.pick (.t 36) (.t 38) (.k (AV.bool false))), .op (some 40) none (.mv (.t 39)), .split 40, .op (some 41) (some (40, true)) (.call id_charsDigit [.k (AV.int .u8 48)] (.bool)), .op (some 42) none (.pick (.t 40) (.t 41) (.k (AV.bool false))), .op (some 43) none (.mv (.t 42)), .split 43, .op (some 44) (some (43, true)) (.call id_charsDigit [.k (AV.int .u8 47)] (.bool)), .op (some 45) (some (43, true)) (.un .not (.t 44)), .op (some 46) none (.pick (.t 43) (.t 45) (.k (AV.bool false))), .op (some 47) none (.mv (.t 46)), .split 47, .op (some 48) (some (47, true)) (.call id_charsDigit [.k (AV.int .u8 58)] (.bool)), .op (some 49) (some (47, true)) (.un .not (.t 48)), .op (some 50) none (.pick (.t 47) (.t 49) (.k (AV.bool false))), .op (some 51) none (.mv (.t 50)), .split 51, .op (some 52) (some (51, true)) (.call id_law01Wakes [] (.bool)), .op (some 53) none (.pick (.t 51) (.t 52) (.k (AV.bool false))), .op (some 2) none (.mv (.t 53))]) (.ret [2] []))
def law01CharsKinds_c3 : AC := .seq (.seq (.region [.op (some 18) none (.bslice [.k (AV.int .i32 (-1)), .k (AV.int .i32 0), .k (AV.int .i32 8), .k (AV.int .i32 11), .k (AV.int .i32 12), .k (AV.int .i32 14), .k (AV.int .i32 31), .k (AV.int .i32 127), .k (AV.int .i32 128), .k (AV.int .i32 132), .k (AV.int .i32 134), .k (AV.int .i32 159), .k (AV.int .i32 55296), .k (AV.int .i32 57343), .k (AV.int .i32 65279), .k (AV.int .i32 65534), .k (AV.int .i32 65535), .k (AV.int .i32 1114112)] 1 false), .op (some 19) none (.len (.t 18) false), .op (some 20) none (.mv (.k (AV.int .i64 0)))]) (.block 2 (.loop [0, 18, 19, 20] [] (law01CharsKinds_c1)))) (law01CharsKinds_c2)
def law01CharsKinds_c4 : AC := .seq (.region [.op (some 2) none (.mv (.k (AV.bool false)))]) (.seq (.seq (.region [.op (some 8) none (.bslice [.k (AV.int .i32 9), .k (AV.int .i32 10), .k (AV.int .i32 13), .k (AV.int .i32 32), .k (AV.int .i32 126), .k (AV.int .i32 133), .k (AV.int .i32 160), .k (AV.int .i32 55295), .k (AV.int .i32 57344), .k (AV.int .i32 65278), .k (AV.int .i32 65533), .k (AV.int .i32 65536), .k (AV.int .i32 1114111)] 1 false), .op (some 9) none (.len (.t 8) false), .op (some 10) none (.mv (.k (AV.int .i64 0)))]) (.block 0 (.loop [0, 8, 9, 10] [] (law01CharsKinds_c0)))) (law01CharsKinds_c3))
def law01CharsKinds : AFunc := ⟨1, 54, [.tmp 2], law01CharsKinds_c4⟩
def law01CharsKindsr (R : Nat → List AV → Option Res) (N : Nat) (i1 : Int) : Option Res :=
  law01CharsKinds_L1 R N
    (fun b4 =>
      some ⟨AV.bool b4, false, []⟩)
    (fun i8 =>
      law01CharsKinds_L2 R N
        (fun b8 =>
          some ⟨AV.bool b8, false, []⟩)
        (fun i15 =>
          (R id_keepWithin [AV.int .i64 i15, AV.int .i64 94]).bind fun r3 =>
          asI .i64 r3.v fun i16 =>
          (R id_charsPrintable [AV.int .i32 (IntKind.i32.wrap (IntKind.i64.wrap (33 + i16)))]).bind fun r4 =>
          asB r4.v fun b9 =>
          bif b9 then
            ((R id_charsSpace [AV.int .u8 32]).bind fun r5 =>
            asB r5.v fun b10 =>
            bif b10 then
              ((R id_charsSpace [AV.int .u8 9]).bind fun r6 =>
              asB r6.v fun b11 =>
              bif !b11 then
                ((R id_charsDigit [AV.int .u8 48]).bind fun r7 =>
                asB r7.v fun b12 =>
                bif b12 then
                  ((R id_charsDigit [AV.int .u8 47]).bind fun r8 =>
                  asB r8.v fun b13 =>
                  bif !b13 then
                    ((R id_charsDigit [AV.int .u8 58]).bind fun r9 =>
                    asB r9.v fun b14 =>
                    bif !b14 then
                      ((R id_law01Wakes []).bind fun r10 =>
                      asB r10.v fun b15 =>
                      some ⟨AV.bool b15, false, []⟩)
                    else
                      some ⟨AV.bool false, false, []⟩)
                  else
                    some ⟨AV.bool false, false, []⟩)
                else
                  some ⟨AV.bool false, false, []⟩)
              else
                some ⟨AV.bool false, false, []⟩)
            else
              some ⟨AV.bool false, false, []⟩)
          else
            some ⟨AV.bool false, false, []⟩)
        N i8 [AV.int .i32 (-1), AV.int .i32 0, AV.int .i32 8, AV.int .i32 11, AV.int .i32 12, AV.int .i32 14, AV.int .i32 31, AV.int .i32 127, AV.int .i32 128, AV.int .i32 132, AV.int .i32 134, AV.int .i32 159, AV.int .i32 55296, AV.int .i32 57343, AV.int .i32 65279, AV.int .i32 65534, AV.int .i32 65535, AV.int .i32 1114112] (([AV.int .i32 (-1), AV.int .i32 0, AV.int .i32 8, AV.int .i32 11, AV.int .i32 12, AV.int .i32 14, AV.int .i32 31, AV.int .i32 127, AV.int .i32 128, AV.int .i32 132, AV.int .i32 134, AV.int .i32 159, AV.int .i32 55296, AV.int .i32 57343, AV.int .i32 65279, AV.int .i32 65534, AV.int .i32 65535, AV.int .i32 1114112].length : Nat) : Int) 0)
    N i1 [AV.int .i32 9, AV.int .i32 10, AV.int .i32 13, AV.int .i32 32, AV.int .i32 126, AV.int .i32 133, AV.int .i32 160, AV.int .i32 55295, AV.int .i32 57344, AV.int .i32 65278, AV.int .i32 65533, AV.int .i32 65536, AV.int .i32 1114111] (([AV.int .i32 9, AV.int .i32 10, AV.int .i32 13, AV.int .i32 32, AV.int .i32 126, AV.int .i32 133, AV.int .i32 160, AV.int .i32 55295, AV.int .i32 57344, AV.int .i32 65278, AV.int .i32 65533, AV.int .i32 65536, AV.int .i32 1114111].length : Nat) : Int) 0
theorem law01CharsKinds_eq (R : Nat → List AV → Option Res) (N : Nat) (i1 : Int) : runF gl R N law01CharsKinds [AV.int .i64 i1] = law01CharsKindsr R N i1 := by
  refine Eq.trans (b :=
      rounds [0, 8, 9, 10] [] (evC gl R N law01CharsKinds_c0) (Kblock 0 (Kthen gl R N law01CharsKinds_c3 (Kret law01CharsKinds.rets))) N ⟨[(0, .imm (AV.int .i64 i1)), (8, .imm (AV.row 1 [AV.int .i32 9, AV.int .i32 10, AV.int .i32 13, AV.int .i32 32, AV.int .i32 126, AV.int .i32 133, AV.int .i32 160, AV.int .i32 55295, AV.int .i32 57344, AV.int .i32 65278, AV.int .i32 65533, AV.int .i32 65536, AV.int .i32 1114111])), (9, .imm (AV.int .i64 (([AV.int .i32 9, AV.int .i32 10, AV.int .i32 13, AV.int .i32 32, AV.int .i32 126, AV.int .i32 133, AV.int .i32 160, AV.int .i32 55295, AV.int .i32 57344, AV.int .i32 65278, AV.int .i32 65533, AV.int .i32 65536, AV.int .i32 1114111].length : Nat) : Int))), (10, .imm (AV.int .i64 0))], []⟩) (by kernel_rfl) ?_
  simp (config := { maxSteps := 100000000 }) only [law01CharsKinds_L1_eq, law01CharsKinds_L2_eq]
  refine Eq.trans (b :=
      law01CharsKinds_L1 R N
        (fun b4 =>
          some ⟨AV.bool b4, false, []⟩)
        (fun i8 =>
          rounds [0, 18, 19, 20] [] (evC gl R N law01CharsKinds_c1) (Kblock 2 (Kthen gl R N law01CharsKinds_c2 (Kret law01CharsKinds.rets))) N ⟨[(0, .imm (AV.int .i64 i8)), (18, .imm (AV.row 1 [AV.int .i32 (-1), AV.int .i32 0, AV.int .i32 8, AV.int .i32 11, AV.int .i32 12, AV.int .i32 14, AV.int .i32 31, AV.int .i32 127, AV.int .i32 128, AV.int .i32 132, AV.int .i32 134, AV.int .i32 159, AV.int .i32 55296, AV.int .i32 57343, AV.int .i32 65279, AV.int .i32 65534, AV.int .i32 65535, AV.int .i32 1114112])), (19, .imm (AV.int .i64 (([AV.int .i32 (-1), AV.int .i32 0, AV.int .i32 8, AV.int .i32 11, AV.int .i32 12, AV.int .i32 14, AV.int .i32 31, AV.int .i32 127, AV.int .i32 128, AV.int .i32 132, AV.int .i32 134, AV.int .i32 159, AV.int .i32 55296, AV.int .i32 57343, AV.int .i32 65279, AV.int .i32 65534, AV.int .i32 65535, AV.int .i32 1114112].length : Nat) : Int))), (20, .imm (AV.int .i64 0))], []⟩)
        N i1 [AV.int .i32 9, AV.int .i32 10, AV.int .i32 13, AV.int .i32 32, AV.int .i32 126, AV.int .i32 133, AV.int .i32 160, AV.int .i32 55295, AV.int .i32 57344, AV.int .i32 65278, AV.int .i32 65533, AV.int .i32 65536, AV.int .i32 1114111] (([AV.int .i32 9, AV.int .i32 10, AV.int .i32 13, AV.int .i32 32, AV.int .i32 126, AV.int .i32 133, AV.int .i32 160, AV.int .i32 55295, AV.int .i32 57344, AV.int .i32 65278, AV.int .i32 65533, AV.int .i32 65536, AV.int .i32 1114111].length : Nat) : Int) 0) (by kernel_rfl) ?_
  simp (config := { maxSteps := 100000000 }) only [law01CharsKinds_L1_eq, law01CharsKinds_L2_eq]
  kernel_rfl
theorem law01CharsKinds_fit : fitF Tryd.prog law01CharsKinds Tryd.f9 = true := by
  kernel_rfl

def keepLend_c1 : AC := .seq (.region [.op (some 2) none (.nilOwn 11 none)]) (.stuck)
def keepLend : AFunc := ⟨1, 32, [.tmp 2], keepLend_c1⟩
def keepLendr (R : Nat → List AV → Option Res) (N : Nat) (s1 : List UInt8) : Option Res :=
  none
theorem keepLend_eq (R : Nat → List AV → Option Res) (N : Nat) (s1 : List UInt8) : runF gl R N keepLend [AV.bytes s1] = keepLendr R N s1 := by
  kernel_rfl
theorem keepLend_fit : fitF Tryd.prog keepLend Tryd.f25 = true := by
  kernel_rfl

def ref01Marked_c0 : AC := .seq (.region [.op (some 2) none (.mv (.k (AV.bool false)))]) (.seq (.region [.op (some 3) none (.mv (.t 0)), .op (some 4) none (.len (.t 3) false), .op (some 5) none (.bin .geq (.t 4) (.k (AV.int .i64 3))), .op (some 6) none (.mv (.t 5)), .split 6, .op (some 7) (some (6, true)) (.mv (.t 0)), .op (some 8) (some (6, true)) (.iaddr (.t 7) (.k (AV.int .i64 0)) 1 (.int .u8)), .op (some 9) (some (6, true)) (.load (.t 8) none (.int .u8)), .op (some 10) (some (6, true)) (.bin .eql (.t 9) (.k (AV.int .u8 239))), .op (some 11) none (.pick (.t 6) (.t 10) (.k (AV.bool false))), .op (some 12) none (.mv (.t 11)), .split 12, .op (some 13) (some (12, true)) (.mv (.t 0)), .op (some 14) (some (12, true)) (.iaddr (.t 13) (.k (AV.int .i64 1)) 1 (.int .u8)), .op (some 15) (some (12, true)) (.load (.t 14) none (.int .u8)), .op (some 16) (some (12, true)) (.bin .eql (.t 15) (.k (AV.int .u8 187))), .op (some 17) none (.pick (.t 12) (.t 16) (.k (AV.bool false))), .op (some 18) none (.mv (.t 17)), .split 18, .op (some 19) (some (18, true)) (.mv (.t 0)), .op (some 20) (some (18, true)) (.iaddr (.t 19) (.k (AV.int .i64 2)) 1 (.int .u8)), .op (some 21) (some (18, true)) (.load (.t 20) none (.int .u8)), .op (some 22) (some (18, true)) (.bin .eql (.t 21) (.k (AV.int .u8 191))), .op (some 23) none (.pick (.t 18) (.t 22) (.k (AV.bool false))), .op (some 2) none (.mv (.t 23))]) (.ret [2] []))
def ref01Marked : AFunc := ⟨1, 24, [.tmp 2], ref01Marked_c0⟩
def ref01Markedr (R : Nat → List AV → Option Res) (N : Nat) (s1 : List UInt8) : Option Res :=
  bif decide ((((s1.length : Nat) : Int) : Int) ≥ 3) then
    (need (decide (0 ≤ (0 : Int))) <|
    (s1[Int.toNat 0]?).bind fun c1 =>
    bif ((c1.toNat : Int) : Int) == 239 then
      (need (decide (0 ≤ (1 : Int))) <|
      (s1[Int.toNat 1]?).bind fun c2 =>
      bif ((c2.toNat : Int) : Int) == 187 then
        (need (decide (0 ≤ (2 : Int))) <|
        (s1[Int.toNat 2]?).bind fun c3 =>
        some ⟨AV.bool (((c3.toNat : Int) : Int) == 191), false, []⟩)
      else
        some ⟨AV.bool false, false, []⟩)
    else
      some ⟨AV.bool false, false, []⟩)
  else
    some ⟨AV.bool false, false, []⟩
theorem ref01Marked_eq (R : Nat → List AV → Option Res) (N : Nat) (s1 : List UInt8) : runF gl R N ref01Marked [AV.bytes s1] = ref01Markedr R N s1 := by
  kernel_rfl
theorem ref01Marked_fit : fitF Tryd.prog ref01Marked Tryd.f43 = true := by
  kernel_rfl
end Go.Proofs.YtnapopfbmdghkaaDoor.Vf
