/- The code of the functions that the statements reach, as our evaluator takes it, and what each of them comes to, readably: printed by a program of ours. No condition. -/
import Derived.Test.YtojfiifjjgfpaaaDoorVf3
import Derived.Test.YtojfiifjjgfpaaaDoorChecked
import Derived.Lib.DecodeN
namespace Go.Proofs.YtojfiifjjgfpaaaDoor.Vf
set_option linter.unusedVariables false
set_option linter.unusedSimpArgs false
set_option maxRecDepth 100000

def g_maxLen : Nat := 2
def g_first : Nat := 0
def g_accept : Nat := 1
def gl : List (Nat × List AV) := [(g_first, (List.range 256).map fun c => AV.int .u8 (Lib.firstT c)), (g_accept, (List.range 32).map fun i => AV.int .u8 (bif Nat.beq (i % 2) 0 then Lib.accLo (i / 2) else Lib.accHi (i / 2))), (g_maxLen, [])]
def id_bytesContainsRune : Nat := 58
def id_bytesCutPrefix : Nat := 40
def id_bytesEqual : Nat := 56
def id_bytesHasPrefix : Nat := 49
def id_bytesMakeASCIISet : Nat := 51
def id_bytesTrimLeft : Nat := 42
def id_bytesTrimLeftByte : Nat := 50
def id_bytesTrimLeftUnicode : Nat := 53
def id_charsPrintable : Nat := 33
def id_charsRune : Nat := 32
def id_internalBytealgIndexByteString : Nat := 55
def id_internalStringsliteIndexByte : Nat := 46
def id_keepIntact : Nat := 21
def id_keepLend : Nat := 17
def id_keepSameByte : Nat := 25
def id_keepSpoil : Nat := 26
def id_keepText : Nat := 11
def id_keepWithin : Nat := 13
def id_law04PlainParts : Nat := 6
def id_law04PlainSigns : Nat := 4
def id_law04PlainTells : Nat := 5
def id_law04PlainWords : Nat := 3
def id_law04Wakes : Nat := 15
def id_law11TailComments : Nat := 10
def id_law11TailMarkers : Nat := 7
def id_law11TailTells : Nat := 9
def id_law11Wakes : Nat := 23
def id_plainBlank : Nat := 35
def id_plainBracket : Nat := 45
def id_plainEnds : Nat := 37
def id_plainLength : Nat := 14
def id_plainStarts : Nat := 16
def id_plainStops : Nat := 34
def id_plainValid : Nat := 12
def id_ref01Clean : Nat := 39
def id_ref01In : Nat := 38
def id_ref01PlainLength : Nat := 19
def id_ref01PlainStarts : Nat := 18
def id_ref01PlainValid : Nat := 20
def id_ref01Printable : Nat := 48
def id_ref01Rune : Nat := 47
def id_ref08Blanks : Nat := 43
def id_ref08Clear : Nat := 30
def id_ref08Comment : Nat := 28
def id_ref08Marker : Nat := 31
def id_slicesCloneByteByte : Nat := 41
def id_stringsIndexByte : Nat := 36
def id_tailClear : Nat := 29
def id_tailComment : Nat := 27
def id_tailMarker : Nat := 22
def id_tailRest : Nat := 24
def id_unicodeUtf8DecodeRune : Nat := 44
def id_unicodeUtf8DecodeRuneSlow : Nat := 54
def asJIT {α : Type} (v : AV) (K : Int → Int → Option α) : Option α :=
  asT v fun l1 => asC l1 fun x2 r2 => asI .i32 x2 fun a0 => asC r2 fun x3 r3 => asI .i64 x3 fun a1 => asN r3 <| K a0 a1
def asJIBT {α : Type} (v : AV) (K : Int → Int → Bool → Option α) : Option α :=
  asT v fun l1 => asC l1 fun x2 r2 => asI .i32 x2 fun a0 => asC r2 fun x3 r3 => asI .i64 x3 fun a1 => asC r3 fun x4 r4 => asB x4 fun a2 => asN r4 <| K a0 a1 a2
def asIBT {α : Type} (v : AV) (K : Int → Bool → Option α) : Option α :=
  asT v fun l1 => asC l1 fun x2 r2 => asI .i64 x2 fun a0 => asC r2 fun x3 r3 => asB x3 fun a1 => asN r3 <| K a0 a1
def asYBT {α : Type} (v : AV) (K : List UInt8 → Bool → Option α) : Option α :=
  asT v fun l1 => asC l1 fun x2 r2 => asY x2 fun a0 => asC r2 fun x3 r3 => asB x3 fun a1 => asN r3 <| K a0 a1
def as0T {α : Type} (v : AV) (K : Option α) : Option α :=
  asT v fun l1 => asN l1 <| K 

def keepText_c0 : AC := .seq (.region [.op (some 4) none (.mv (.k (AV.str ([] : List UInt8))))]) (.seq (.region [.op (some 5) none (.mv (.t 0)), .op (some 6) none (.mv (.t 0)), .op (some 7) none (.len (.t 6) true), .op (some 8) none (.mv (.t 1)), .op (some 9) none (.mn [.t 7, .t 8]), .op (some 10) none (.sliceS (.t 5) none (some (.t 9))), .op (some 4) none (.mv (.t 10))]) (.ret [4] []))
def keepText : AFunc := ⟨2, 11, [.tmp 4], keepText_c0⟩
def keepTextr (R : Nat → List AV → Option Res) (N : Nat) (s1 : List UInt8) (i1 : Int) : Option Res :=
  need (decide (0 ≤ (if i1 < ((s1.length : Nat) : Int) then i1 else ((s1.length : Nat) : Int) : Int)) && decide ((if i1 < ((s1.length : Nat) : Int) then i1 else ((s1.length : Nat) : Int) : Int) ≤ ((s1.length : Nat) : Int))) <|
  some ⟨AV.str ((s1.take (Int.toNat (if i1 < ((s1.length : Nat) : Int) then i1 else ((s1.length : Nat) : Int)))).drop 0), false, []⟩
theorem keepText_eq (R : Nat → List AV → Option Res) (N : Nat) (s1 : List UInt8) (i1 : Int) : runF gl R N keepText [AV.str s1, AV.int .i64 i1] = keepTextr R N s1 i1 := by
  kernel_rfl
theorem keepText_fit : fitF Tryd.prog keepText Tryd.f11 = true := by
  kernel_rfl

def plainBlank_c0 : AC := .seq (.region [.op (some 2) none (.mv (.k (AV.bool false)))]) (.seq (.region [.op (some 3) none (.mv (.t 0)), .op (some 4) none (.bin .eql (.t 3) (.k (AV.int .u8 32))), .op (some 5) none (.mv (.t 4)), .split 5, .op (some 6) (some (5, false)) (.mv (.t 0)), .op (some 7) (some (5, false)) (.bin .eql (.t 6) (.k (AV.int .u8 9))), .op (some 8) none (.pick (.t 5) (.k (AV.bool true)) (.t 7)), .op (some 2) none (.mv (.t 8))]) (.ret [2] []))
def plainBlank : AFunc := ⟨1, 9, [.tmp 2], plainBlank_c0⟩
def plainBlankr (R : Nat → List AV → Option Res) (N : Nat) (i1 : Int) : Option Res :=
  bif (i1 : Int) == 32 then
    (some ⟨AV.bool true, false, []⟩)
  else
    some ⟨AV.bool ((i1 : Int) == 9), false, []⟩
theorem plainBlank_eq (R : Nat → List AV → Option Res) (N : Nat) (i1 : Int) : runF gl R N plainBlank [AV.int .u8 i1] = plainBlankr R N i1 := by
  kernel_rfl
theorem plainBlank_fit : fitF Tryd.prog plainBlank Tryd.f35 = true := by
  kernel_rfl

def internalStringsliteIndexByte_c0 : AC := .seq (.region [.op (some 4) none (.mv (.k (AV.int .i64 0)))]) (.seq (.region [.op (some 5) none (.mv (.t 0)), .op (some 6) none (.mv (.t 1)), .op (some 7) none (.call id_internalBytealgIndexByteString [.t 5, .t 6] (.int .i64)), .op (some 4) none (.mv (.t 7))]) (.ret [4] []))
def internalStringsliteIndexByte : AFunc := ⟨2, 8, [.tmp 4], internalStringsliteIndexByte_c0⟩
def internalStringsliteIndexByter (R : Nat → List AV → Option Res) (N : Nat) (s1 : List UInt8) (i1 : Int) : Option Res :=
  (R id_internalBytealgIndexByteString [AV.str s1, AV.int .u8 i1]).bind fun r1 =>
  asI .i64 r1.v fun i2 =>
  some ⟨AV.int .i64 i2, false, []⟩
theorem internalStringsliteIndexByte_eq (R : Nat → List AV → Option Res) (N : Nat) (s1 : List UInt8) (i1 : Int) : runF gl R N internalStringsliteIndexByte [AV.str s1, AV.int .u8 i1] = internalStringsliteIndexByter R N s1 i1 := by
  kernel_rfl
theorem internalStringsliteIndexByte_fit : fitF Tryd.prog internalStringsliteIndexByte Tryd.f46 = true := by
  kernel_rfl

def stringsIndexByte_c0 : AC := .seq (.region [.op (some 4) none (.mv (.k (AV.int .i64 0)))]) (.seq (.region [.op (some 5) none (.mv (.t 0)), .op (some 6) none (.mv (.t 1)), .op (some 7) none (.call id_internalStringsliteIndexByte [.t 5, .t 6] (.int .i64)), .op (some 4) none (.mv (.t 7))]) (.ret [4] []))
def stringsIndexByte : AFunc := ⟨2, 8, [.tmp 4], stringsIndexByte_c0⟩
def stringsIndexByter (R : Nat → List AV → Option Res) (N : Nat) (s1 : List UInt8) (i1 : Int) : Option Res :=
  (R id_internalStringsliteIndexByte [AV.str s1, AV.int .u8 i1]).bind fun r1 =>
  asI .i64 r1.v fun i2 =>
  some ⟨AV.int .i64 i2, false, []⟩
theorem stringsIndexByte_eq (R : Nat → List AV → Option Res) (N : Nat) (s1 : List UInt8) (i1 : Int) : runF gl R N stringsIndexByte [AV.str s1, AV.int .u8 i1] = stringsIndexByter R N s1 i1 := by
  kernel_rfl
theorem stringsIndexByte_fit : fitF Tryd.prog stringsIndexByte Tryd.f36 = true := by
  kernel_rfl

def plainBracket_c0 : AC := .seq (.region [.op (some 2) none (.mv (.k (AV.bool false)))]) (.seq (.region [.op (some 3) none (.mv (.t 0)), .op (some 4) none (.call id_stringsIndexByte [.k (AV.str ([44, 91, 93, 123, 125] : List UInt8)), .t 3] (.int .i64)), .op (some 5) none (.bin .geq (.t 4) (.k (AV.int .i64 0))), .op (some 2) none (.mv (.t 5))]) (.ret [2] []))
def plainBracket : AFunc := ⟨1, 6, [.tmp 2], plainBracket_c0⟩
def plainBracketr (R : Nat → List AV → Option Res) (N : Nat) (i1 : Int) : Option Res :=
  (R id_stringsIndexByte [AV.str ([44, 91, 93, 123, 125] : List UInt8), AV.int .u8 i1]).bind fun r1 =>
  asI .i64 r1.v fun i2 =>
  some ⟨AV.bool (decide ((i2 : Int) ≥ 0)), false, []⟩
theorem plainBracket_eq (R : Nat → List AV → Option Res) (N : Nat) (i1 : Int) : runF gl R N plainBracket [AV.int .u8 i1] = plainBracketr R N i1 := by
  kernel_rfl
theorem plainBracket_fit : fitF Tryd.prog plainBracket Tryd.f45 = true := by
  kernel_rfl

def plainEnds_c0 : AC := .seq (.region [.op (some 6) none (.mv (.k (AV.bool false)))]) (.seq (.region [.op (some 7) none (.mv (.t 1)), .op (some 8) none (.mv (.t 0)), .op (some 9) none (.len (.t 8) false), .op (some 10) none (.bin .geq (.t 7) (.t 9)), .op (some 11) none (.mv (.t 10)), .split 11, .op (some 12) (some (11, false)) (.mv (.t 0)), .op (some 13) (some (11, false)) (.mv (.t 1)), .op (some 14) (some (11, false)) (.iaddr (.t 12) (.t 13) 1 (.int .u8)), .op (some 15) (some (11, false)) (.load (.t 14) none (.int .u8)), .op (some 16) (some (11, false)) (.call id_plainBlank [.t 15] (.bool)), .op (some 17) none (.pick (.t 11) (.k (AV.bool true)) (.t 16)), .op (some 18) none (.mv (.t 17)), .split 18, .op (some 19) (some (18, false)) (.mv (.t 2)), .op (some 20) (some (18, false)) (.mv (.t 19)), .split 20, .op (some 21) (some (20, true)) (.mv (.t 0)), .op (some 22) (some (20, true)) (.mv (.t 1)), .op (some 23) (some (20, true)) (.iaddr (.t 21) (.t 22) 1 (.int .u8)), .op (some 24) (some (20, true)) (.load (.t 23) none (.int .u8)), .op (some 25) (some (20, true)) (.call id_plainBracket [.t 24] (.bool)), .op (some 26) (some (18, false)) (.pick (.t 20) (.t 25) (.k (AV.bool false))), .op (some 27) none (.pick (.t 18) (.k (AV.bool true)) (.t 26)), .op (some 6) none (.mv (.t 27))]) (.ret [6] []))
def plainEnds : AFunc := ⟨3, 28, [.tmp 6], plainEnds_c0⟩
def plainEndsr (R : Nat → List AV → Option Res) (N : Nat) (s1 : List UInt8) (i1 : Int) (b1 : Bool) : Option Res :=
  bif decide ((i1 : Int) ≥ ((s1.length : Nat) : Int)) then
    (some ⟨AV.bool true, false, []⟩)
  else
    need (decide (0 ≤ (i1 : Int))) <|
    (s1[Int.toNat i1]?).bind fun c1 =>
    (R id_plainBlank [AV.int .u8 (c1.toNat : Int)]).bind fun r1 =>
    asB r1.v fun b2 =>
    bif b2 then
      (some ⟨AV.bool true, false, []⟩)
    else
      bif b1 then
        (need (decide (0 ≤ (i1 : Int))) <|
        (s1[Int.toNat i1]?).bind fun c2 =>
        (R id_plainBracket [AV.int .u8 (c2.toNat : Int)]).bind fun r2 =>
        asB r2.v fun b3 =>
        some ⟨AV.bool b3, false, []⟩)
      else
        some ⟨AV.bool false, false, []⟩
theorem plainEnds_eq (R : Nat → List AV → Option Res) (N : Nat) (s1 : List UInt8) (i1 : Int) (b1 : Bool) : runF gl R N plainEnds [AV.bytes s1, AV.int .i64 i1, AV.bool b1] = plainEndsr R N s1 i1 b1 := by
  kernel_rfl
theorem plainEnds_fit : fitF Tryd.prog plainEnds Tryd.f37 = true := by
  kernel_rfl

def plainStarts_c0 : AC := .seq (.region [.op (some 4) none (.mv (.k (AV.bool false)))]) (.seq (.seq (.region [.op (some 5) none (.mv (.t 0)), .op (some 6) none (.len (.t 5) false), .op (some 7) none (.bin .eql (.t 6) (.k (AV.int .i64 0))), .op (some 8) none (.mv (.t 7)), .split 8, .op (some 9) (some (8, false)) (.mv (.t 0)), .op (some 10) (some (8, false)) (.iaddr (.t 9) (.k (AV.int .i64 0)) 1 (.int .u8)), .op (some 11) (some (8, false)) (.load (.t 10) none (.int .u8)), .op (some 12) (some (8, false)) (.call id_plainBlank [.t 11] (.bool)), .op (some 13) none (.pick (.t 8) (.k (AV.bool true)) (.t 12))]) (.cond (.t 13) (.seq (.region [.op (some 4) none (.mv (.k (AV.bool false)))]) (.ret [4] [])) (.skip))) (.seq (.seq (.region [.op (some 14) none (.mv (.t 0)), .op (some 15) none (.len (.t 14) false), .op (some 16) none (.bin .geq (.t 15) (.k (AV.int .i64 3))), .op (some 17) none (.mv (.t 16)), .split 17, .op (some 18) (some (17, true)) (.mv (.t 0)), .op (some 19) (some (17, true)) (.slice (.t 18) none (some (.k (AV.int .i64 3))) 1), .op (some 20) (some (17, true)) (.cvStr (.t 19)), .op (some 21) (some (17, true)) (.bin .eql (.t 20) (.k (AV.str ([45, 45, 45] : List UInt8)))), .op (some 22) (some (17, true)) (.mv (.t 21)), .split 22, .op (some 23) (some (22, false)) (.mv (.t 0)), .op (some 24) (some (22, false)) (.slice (.t 23) none (some (.k (AV.int .i64 3))) 1), .op (some 25) (some (22, false)) (.cvStr (.t 24)), .op (some 26) (some (22, false)) (.bin .eql (.t 25) (.k (AV.str ([46, 46, 46] : List UInt8)))), .op (some 27) (some (17, true)) (.pick (.t 22) (.k (AV.bool true)) (.t 26)), .op (some 28) none (.pick (.t 17) (.t 27) (.k (AV.bool false)))]) (.cond (.t 28) (.seq (.region [.op (some 4) none (.mv (.k (AV.bool false)))]) (.ret [4] [])) (.skip))) (.seq (.seq (.region [.op (some 29) none (.mv (.t 0)), .op (some 30) none (.iaddr (.t 29) (.k (AV.int .i64 0)) 1 (.int .u8)), .op (some 31) none (.load (.t 30) none (.int .u8)), .op (some 32) none (.call id_stringsIndexByte [.k (AV.str ([45, 63, 58] : List UInt8)), .t 31] (.int .i64)), .op (some 33) none (.bin .geq (.t 32) (.k (AV.int .i64 0)))]) (.cond (.t 33) (.seq (.region [.op (some 34) none (.mv (.t 0)), .op (some 35) none (.mv (.t 1)), .op (some 36) none (.call id_plainEnds [.t 34, .k (AV.int .i64 1), .t 35] (.bool)), .op (some 37) none (.un .not (.t 36)), .op (some 4) none (.mv (.t 37))]) (.ret [4] [])) (.skip))) (.seq (.region [.op (some 38) none (.mv (.t 0)), .op (some 39) none (.iaddr (.t 38) (.k (AV.int .i64 0)) 1 (.int .u8)), .op (some 40) none (.load (.t 39) none (.int .u8)), .op (some 41) none (.call id_stringsIndexByte [.k (AV.str ([44, 91, 93, 123, 125, 35, 38, 42, 33, 124, 62, 39, 34, 37, 64, 96] : List UInt8)), .t 40] (.int .i64)), .op (some 42) none (.bin .lss (.t 41) (.k (AV.int .i64 0))), .op (some 4) none (.mv (.t 42))]) (.ret [4] [])))))
def plainStarts : AFunc := ⟨2, 43, [.tmp 4], plainStarts_c0⟩
def plainStartsr (R : Nat → List AV → Option Res) (N : Nat) (s1 : List UInt8) (b1 : Bool) : Option Res :=
  bif (((s1.length : Nat) : Int) : Int) == 0 then
    (some ⟨AV.bool false, false, []⟩)
  else
    need (decide (0 ≤ (0 : Int))) <|
    (s1[Int.toNat 0]?).bind fun c1 =>
    (R id_plainBlank [AV.int .u8 (c1.toNat : Int)]).bind fun r1 =>
    asB r1.v fun b2 =>
    bif b2 then
      (some ⟨AV.bool false, false, []⟩)
    else
      bif decide ((((s1.length : Nat) : Int) : Int) ≥ 3) then
        (need (decide (0 ≤ (3 : Int)) && decide ((3 : Int) ≤ ((s1.length : Nat) : Int))) <|
        bif ((s1.take (Int.toNat 3)).drop 0) == ([45, 45, 45] : List UInt8) then
          (some ⟨AV.bool false, false, []⟩)
        else
          need (decide (0 ≤ (3 : Int)) && decide ((3 : Int) ≤ ((s1.length : Nat) : Int))) <|
          bif ((s1.take (Int.toNat 3)).drop 0) == ([46, 46, 46] : List UInt8) then
            (some ⟨AV.bool false, false, []⟩)
          else
            need (decide (0 ≤ (0 : Int))) <|
            (s1[Int.toNat 0]?).bind fun c2 =>
            (R id_stringsIndexByte [AV.str ([45, 63, 58] : List UInt8), AV.int .u8 (c2.toNat : Int)]).bind fun r2 =>
            asI .i64 r2.v fun i1 =>
            bif decide ((i1 : Int) ≥ 0) then
              ((R id_plainEnds [AV.bytes s1, AV.int .i64 1, AV.bool b1]).bind fun r3 =>
              asB r3.v fun b3 =>
              some ⟨AV.bool (!b3), false, []⟩)
            else
              need (decide (0 ≤ (0 : Int))) <|
              (s1[Int.toNat 0]?).bind fun c3 =>
              (R id_stringsIndexByte [AV.str ([44, 91, 93, 123, 125, 35, 38, 42, 33, 124, 62, 39, 34, 37, 64, 96] : List UInt8), AV.int .u8 (c3.toNat : Int)]).bind fun r4 =>
              asI .i64 r4.v fun i2 =>
              some ⟨AV.bool (decide ((i2 : Int) < 0)), false, []⟩)
      else
        need (decide (0 ≤ (0 : Int))) <|
        (s1[Int.toNat 0]?).bind fun c4 =>
        (R id_stringsIndexByte [AV.str ([45, 63, 58] : List UInt8), AV.int .u8 (c4.toNat : Int)]).bind fun r5 =>
        asI .i64 r5.v fun i3 =>
        bif decide ((i3 : Int) ≥ 0) then
          ((R id_plainEnds [AV.bytes s1, AV.int .i64 1, AV.bool b1]).bind fun r6 =>
          asB r6.v fun b4 =>
          some ⟨AV.bool (!b4), false, []⟩)
        else
          need (decide (0 ≤ (0 : Int))) <|
          (s1[Int.toNat 0]?).bind fun c5 =>
          (R id_stringsIndexByte [AV.str ([44, 91, 93, 123, 125, 35, 38, 42, 33, 124, 62, 39, 34, 37, 64, 96] : List UInt8), AV.int .u8 (c5.toNat : Int)]).bind fun r7 =>
          asI .i64 r7.v fun i4 =>
          some ⟨AV.bool (decide ((i4 : Int) < 0)), false, []⟩
theorem plainStarts_eq (R : Nat → List AV → Option Res) (N : Nat) (s1 : List UInt8) (b1 : Bool) : runF gl R N plainStarts [AV.bytes s1, AV.bool b1] = plainStartsr R N s1 b1 := by
  kernel_rfl
theorem plainStarts_fit : fitF Tryd.prog plainStarts Tryd.f16 = true := by
  kernel_rfl

def plainStops_c0 : AC := .seq (.region [.op (some 6) none (.mv (.k (AV.bool false)))]) (.seq (.region [.op (some 8) none (.mv (.t 0)), .op (some 9) none (.mv (.t 1)), .op (some 10) none (.iaddr (.t 8) (.t 9) 1 (.int .u8)), .op (some 11) none (.load (.t 10) none (.int .u8)), .op (some 7) none (.mv (.t 11))]) (.block 0 (.seq (.region [.op (some 18) none (.mv (.t 7)), .op (some 19) none (.bin .eql (.t 18) (.k (AV.int .u8 9))), .op (some 17) none (.mv (.t 19))]) (.cond (.t 17) (.seq (.region [.op (some 6) none (.mv (.k (AV.bool true)))]) (.ret [6] [])) (.seq (.region [.op (some 21) none (.mv (.t 7)), .op (some 22) none (.bin .eql (.t 21) (.k (AV.int .u8 58))), .op (some 20) none (.mv (.t 22))]) (.cond (.t 20) (.seq (.region [.op (some 23) none (.mv (.t 0)), .op (some 24) none (.mv (.t 1)), .op (some 25) none (.bin .add (.t 24) (.k (AV.int .i64 1))), .op (some 26) none (.mv (.t 2)), .op (some 27) none (.call id_plainEnds [.t 23, .t 25, .t 26] (.bool)), .op (some 6) none (.mv (.t 27))]) (.ret [6] [])) (.seq (.region [.op (some 29) none (.mv (.t 7)), .op (some 30) none (.bin .eql (.t 29) (.k (AV.int .u8 35))), .op (some 28) none (.mv (.t 30))]) (.cond (.t 28) (.seq (.region [.op (some 31) none (.mv (.t 1)), .op (some 32) none (.bin .gtr (.t 31) (.k (AV.int .i64 0))), .op (some 33) none (.mv (.t 32)), .split 33, .op (some 34) (some (33, true)) (.mv (.t 0)), .op (some 35) (some (33, true)) (.mv (.t 1)), .op (some 36) (some (33, true)) (.bin .sub (.t 35) (.k (AV.int .i64 1))), .op (some 37) (some (33, true)) (.iaddr (.t 34) (.t 36) 1 (.int .u8)), .op (some 38) (some (33, true)) (.load (.t 37) none (.int .u8)), .op (some 39) (some (33, true)) (.call id_plainBlank [.t 38] (.bool)), .op (some 40) none (.pick (.t 33) (.t 39) (.k (AV.bool false))), .op (some 6) none (.mv (.t 40))]) (.ret [6] [])) (.seq (.region [.op (some 12) none (.mv (.t 2)), .op (some 13) none (.mv (.t 12)), .split 13, .op (some 14) (some (13, true)) (.mv (.t 7)), .op (some 15) (some (13, true)) (.call id_plainBracket [.t 14] (.bool)), .op (some 16) none (.pick (.t 13) (.t 15) (.k (AV.bool false))), .op (some 6) none (.mv (.t 16))]) (.ret [6] []))))))))))
def plainStops : AFunc := ⟨3, 41, [.tmp 6], plainStops_c0⟩
def plainStopsr (R : Nat → List AV → Option Res) (N : Nat) (s1 : List UInt8) (i1 : Int) (b1 : Bool) : Option Res :=
  need (decide (0 ≤ (i1 : Int))) <|
  (s1[Int.toNat i1]?).bind fun c1 =>
  bif ((c1.toNat : Int) : Int) == 9 then
    (some ⟨AV.bool true, false, []⟩)
  else
    bif ((c1.toNat : Int) : Int) == 58 then
      ((R id_plainEnds [AV.bytes s1, AV.int .i64 (IntKind.i64.wrap (i1 + 1)), AV.bool b1]).bind fun r1 =>
      asB r1.v fun b2 =>
      some ⟨AV.bool b2, false, []⟩)
    else
      bif ((c1.toNat : Int) : Int) == 35 then
        (bif decide ((i1 : Int) > 0) then
          (need (decide (0 ≤ (IntKind.i64.wrap (i1 - 1) : Int))) <|
          (s1[Int.toNat (IntKind.i64.wrap (i1 - 1))]?).bind fun c2 =>
          (R id_plainBlank [AV.int .u8 (c2.toNat : Int)]).bind fun r2 =>
          asB r2.v fun b3 =>
          some ⟨AV.bool b3, false, []⟩)
        else
          some ⟨AV.bool false, false, []⟩)
      else
        bif b1 then
          ((R id_plainBracket [AV.int .u8 (c1.toNat : Int)]).bind fun r3 =>
          asB r3.v fun b4 =>
          some ⟨AV.bool b4, false, []⟩)
        else
          some ⟨AV.bool false, false, []⟩
theorem plainStops_eq (R : Nat → List AV → Option Res) (N : Nat) (s1 : List UInt8) (i1 : Int) (b1 : Bool) : runF gl R N plainStops [AV.bytes s1, AV.int .i64 i1, AV.bool b1] = plainStopsr R N s1 i1 b1 := by
  kernel_rfl
theorem plainStops_fit : fitF Tryd.prog plainStops Tryd.f34 = true := by
  kernel_rfl

def plainLength_L1s (R : Nat → List AV → Option Res) (N : Nat) (go : List UInt8 → Bool → Int → Option Res) (k0 : List UInt8 → Int → Option Res) (s2 : List UInt8) (b3 : Bool) (i1 : Int) : Option Res :=
  bif decide ((i1 : Int) < ((s2.length : Nat) : Int)) then
    ((R id_plainStops [AV.bytes s2, AV.int .i64 i1, AV.bool b3]).bind fun r2 =>
    asB r2.v fun b4 =>
    bif !b4 then
      (go s2 b3 (IntKind.i64.wrap (i1 + 1)))
    else
      k0 s2 i1)
  else
    k0 s2 i1
def plainLength_L1 (R : Nat → List AV → Option Res) (N : Nat) (k0 : List UInt8 → Int → Option Res) : Nat → List UInt8 → Bool → Int → Option Res
  | 0, _, _, _ => none
  | n + 1, s2, b3, i1 => plainLength_L1s R N (plainLength_L1 R N k0 n) k0 s2 b3 i1
def plainLength_c0 : AC := .seq (.seq (.region [.op (some 10) none (.mv (.t 5)), .op (some 11) none (.mv (.t 0)), .op (some 12) none (.len (.t 11) false), .op (some 13) none (.bin .lss (.t 10) (.t 12)), .op (some 14) none (.mv (.t 13)), .split 14, .op (some 15) (some (14, true)) (.mv (.t 0)), .op (some 16) (some (14, true)) (.mv (.t 5)), .op (some 17) (some (14, true)) (.mv (.t 1)), .op (some 18) (some (14, true)) (.call id_plainStops [.t 15, .t 16, .t 17] (.bool)), .op (some 19) (some (14, true)) (.un .not (.t 18)), .op (some 20) none (.pick (.t 14) (.t 19) (.k (AV.bool false)))]) (.cond (.t 20) (.skip) (.exit 0 [0, 5] []))) (.block 1 (.region [.op (some 21) none (.mv (.t 5)), .op (some 22) none (.bin .add (.t 21) (.k (AV.int .i64 1))), .op (some 5) none (.mv (.t 22))]))
theorem plainLength_L1s_eq (R : Nat → List AV → Option Res) (N : Nat) (K : Ex → St → Option Res) (W : St → Option Res) (s2 : List UInt8) (b3 : Bool) (i1 : Int) :
    evC gl R N plainLength_c0 (Kseq (fun st' => W (prune [0, 1, 5] [] st')) K) ⟨[(0, .imm (AV.bytes s2)), (1, .imm (AV.bool b3)), (5, .imm (AV.int .i64 i1))], []⟩ =
    plainLength_L1s R N (fun (s2 : List UInt8) (b3 : Bool) (i1 : Int) => W ⟨[(0, .imm (AV.bytes s2)), (1, .imm (AV.bool b3)), (5, .imm (AV.int .i64 i1))], []⟩) (fun (s3 : List UInt8) (i2 : Int) => K (.exit 0) ⟨[(0, .imm (AV.bytes s3)), (5, .imm (AV.int .i64 i2))], []⟩) s2 b3 i1 := by
  kernel_rfl
theorem plainLength_L1_eq (R : Nat → List AV → Option Res) (N : Nat) (K : Ex → St → Option Res) : ∀ (n : Nat) (s2 : List UInt8) (b3 : Bool) (i1 : Int),
    rounds [0, 1, 5] [] (evC gl R N plainLength_c0) K n ⟨[(0, .imm (AV.bytes s2)), (1, .imm (AV.bool b3)), (5, .imm (AV.int .i64 i1))], []⟩ = plainLength_L1 R N (fun (s3 : List UInt8) (i2 : Int) => K (.exit 0) ⟨[(0, .imm (AV.bytes s3)), (5, .imm (AV.int .i64 i2))], []⟩) n s2 b3 i1
  | 0, _, _, _ => rfl
  | n + 1, s2, b3, i1 => (plainLength_L1s_eq R N K (rounds [0, 1, 5] [] (evC gl R N plainLength_c0) K n) s2 b3 i1).trans
      (congrArg (fun go => plainLength_L1s R N go (fun (s3 : List UInt8) (i2 : Int) => K (.exit 0) ⟨[(0, .imm (AV.bytes s3)), (5, .imm (AV.int .i64 i2))], []⟩) s2 b3 i1) (funext fun s2 => funext fun b3 => funext fun i1 => plainLength_L1_eq R N K n s2 b3 i1))
def plainLength_L2s (R : Nat → List AV → Option Res) (N : Nat) (go : List UInt8 → Int → Option Res) (k0 : Int → Option Res) (s6 : List UInt8) (i5 : Int) : Option Res :=
  bif decide ((i5 : Int) > 0) then
    (need (decide (0 ≤ (IntKind.i64.wrap (i5 - 1) : Int))) <|
    (s6[Int.toNat (IntKind.i64.wrap (i5 - 1))]?).bind fun c1 =>
    bif ((c1.toNat : Int) : Int) == 32 then
      (go s6 (IntKind.i64.wrap (i5 - 1)))
    else
      k0 i5)
  else
    k0 i5
def plainLength_L2 (R : Nat → List AV → Option Res) (N : Nat) (k0 : Int → Option Res) : Nat → List UInt8 → Int → Option Res
  | 0, _, _ => none
  | n + 1, s6, i5 => plainLength_L2s R N (plainLength_L2 R N k0 n) k0 s6 i5
def plainLength_c1 : AC := .seq (.seq (.region [.op (some 23) none (.mv (.t 5)), .op (some 24) none (.bin .gtr (.t 23) (.k (AV.int .i64 0))), .op (some 25) none (.mv (.t 24)), .split 25, .op (some 26) (some (25, true)) (.mv (.t 0)), .op (some 27) (some (25, true)) (.mv (.t 5)), .op (some 28) (some (25, true)) (.bin .sub (.t 27) (.k (AV.int .i64 1))), .op (some 29) (some (25, true)) (.iaddr (.t 26) (.t 28) 1 (.int .u8)), .op (some 30) (some (25, true)) (.load (.t 29) none (.int .u8)), .op (some 31) (some (25, true)) (.bin .eql (.t 30) (.k (AV.int .u8 32))), .op (some 32) none (.pick (.t 25) (.t 31) (.k (AV.bool false)))]) (.cond (.t 32) (.skip) (.exit 2 [5] []))) (.block 3 (.region [.op (some 33) none (.mv (.t 5)), .op (some 34) none (.bin .sub (.t 33) (.k (AV.int .i64 1))), .op (some 5) none (.mv (.t 34))]))
theorem plainLength_L2s_eq (R : Nat → List AV → Option Res) (N : Nat) (K : Ex → St → Option Res) (W : St → Option Res) (s6 : List UInt8) (i5 : Int) :
    evC gl R N plainLength_c1 (Kseq (fun st' => W (prune [0, 5] [] st')) K) ⟨[(0, .imm (AV.bytes s6)), (5, .imm (AV.int .i64 i5))], []⟩ =
    plainLength_L2s R N (fun (s6 : List UInt8) (i5 : Int) => W ⟨[(0, .imm (AV.bytes s6)), (5, .imm (AV.int .i64 i5))], []⟩) (fun (i6 : Int) => K (.exit 2) ⟨[(5, .imm (AV.int .i64 i6))], []⟩) s6 i5 := by
  kernel_rfl
theorem plainLength_L2_eq (R : Nat → List AV → Option Res) (N : Nat) (K : Ex → St → Option Res) : ∀ (n : Nat) (s6 : List UInt8) (i5 : Int),
    rounds [0, 5] [] (evC gl R N plainLength_c1) K n ⟨[(0, .imm (AV.bytes s6)), (5, .imm (AV.int .i64 i5))], []⟩ = plainLength_L2 R N (fun (i6 : Int) => K (.exit 2) ⟨[(5, .imm (AV.int .i64 i6))], []⟩) n s6 i5
  | 0, _, _ => rfl
  | n + 1, s6, i5 => (plainLength_L2s_eq R N K (rounds [0, 5] [] (evC gl R N plainLength_c1) K n) s6 i5).trans
      (congrArg (fun go => plainLength_L2s R N go (fun (i6 : Int) => K (.exit 2) ⟨[(5, .imm (AV.int .i64 i6))], []⟩) s6 i5) (funext fun s6 => funext fun i5 => plainLength_L2_eq R N K n s6 i5))
def plainLength_c2 : AC := .seq (.region [.op (some 35) none (.mv (.t 5)), .op (some 4) none (.mv (.t 35))]) (.ret [4] [])
def plainLength_c3 : AC := .seq (.block 2 (.loop [0, 5] [] (plainLength_c1))) (plainLength_c2)
def plainLength_c4 : AC := .seq (.region [.op (some 4) none (.mv (.k (AV.int .i64 0)))]) (.seq (.seq (.region [.op (some 6) none (.mv (.t 0)), .op (some 7) none (.mv (.t 1)), .op (some 8) none (.call id_plainStarts [.t 6, .t 7] (.bool)), .op (some 9) none (.un .not (.t 8))]) (.cond (.t 9) (.seq (.region [.op (some 4) none (.mv (.k (AV.int .i64 0)))]) (.ret [4] [])) (.skip))) (.seq (.region [.op (some 5) none (.mv (.k (AV.int .i64 0)))]) (.seq (.block 0 (.loop [0, 1, 5] [] (plainLength_c0))) (plainLength_c3))))
def plainLength : AFunc := ⟨2, 36, [.tmp 4], plainLength_c4⟩
def plainLengthr (R : Nat → List AV → Option Res) (N : Nat) (s1 : List UInt8) (b1 : Bool) : Option Res :=
  (R id_plainStarts [AV.bytes s1, AV.bool b1]).bind fun r1 =>
  asB r1.v fun b2 =>
  bif !b2 then
    (some ⟨AV.int .i64 0, false, []⟩)
  else
    plainLength_L1 R N
      (fun s5 i4 =>
        plainLength_L2 R N
          (fun i8 =>
            some ⟨AV.int .i64 i8, false, []⟩)
          N s5 i4)
      N s1 b1 0
theorem plainLength_eq (R : Nat → List AV → Option Res) (N : Nat) (s1 : List UInt8) (b1 : Bool) : runF gl R N plainLength [AV.bytes s1, AV.bool b1] = plainLengthr R N s1 b1 := by
  refine Eq.trans (b :=
      (R id_plainStarts [AV.bytes s1, AV.bool b1]).bind fun r1 =>
      asB r1.v fun b2 =>
      bif !b2 then
        (some ⟨AV.int .i64 0, false, []⟩)
      else
        rounds [0, 1, 5] [] (evC gl R N plainLength_c0) (Kblock 0 (Kthen gl R N plainLength_c3 (Kret plainLength.rets []))) N ⟨[(0, .imm (AV.bytes s1)), (1, .imm (AV.bool b1)), (5, .imm (AV.int .i64 0))], []⟩) (by kernel_rfl) ?_
  simp (config := { maxSteps := 100000000 }) only [plainLength_L1_eq, plainLength_L2_eq]
  refine Eq.trans (b :=
      (R id_plainStarts [AV.bytes s1, AV.bool b1]).bind fun r1 =>
      asB r1.v fun b2 =>
      bif !b2 then
        (some ⟨AV.int .i64 0, false, []⟩)
      else
        plainLength_L1 R N
          (fun s5 i4 =>
            rounds [0, 5] [] (evC gl R N plainLength_c1) (Kblock 2 (Kthen gl R N plainLength_c2 (Kret plainLength.rets []))) N ⟨[(0, .imm (AV.bytes s5)), (5, .imm (AV.int .i64 i4))], []⟩)
          N s1 b1 0) (by kernel_rfl) ?_
  simp (config := { maxSteps := 100000000 }) only [plainLength_L1_eq, plainLength_L2_eq]
  kernel_rfl
theorem plainLength_fit : fitF Tryd.prog plainLength Tryd.f14 = true := by
  kernel_rfl

def unicodeUtf8DecodeRuneSlow_c1 : AC := .seq (.region [.op (some 2) none (.mv (.k (AV.int .i32 0))), .op (some 3) none (.mv (.k (AV.int .i64 0)))]) (.seq (.region [.op (some 13) none (.mv (.t 0)), .op (some 14) none (.len (.t 13) false), .op (some 4) none (.mv (.t 14))]) (.seq (.seq (.region [.op (some 15) none (.mv (.t 4)), .op (some 16) none (.bin .lss (.t 15) (.k (AV.int .i64 1)))]) (.cond (.t 16) (.seq (.region [.op (some 2) none (.mv (.k (AV.int .i32 65533))), .op (some 3) none (.mv (.k (AV.int .i64 0)))]) (.ret [2, 3] [])) (.skip))) (.seq (.region [.op (some 17) none (.mv (.t 0)), .op (some 18) none (.iaddr (.t 17) (.k (AV.int .i64 0)) 1 (.int .u8)), .op (some 19) none (.load (.t 18) none (.int .u8)), .op (some 5) none (.mv (.t 19))]) (.stuck))))
def unicodeUtf8DecodeRuneSlow : AFunc := ⟨1, 122, [.tmp 2, .tmp 3], unicodeUtf8DecodeRuneSlow_c1⟩
def unicodeUtf8DecodeRuneSlowr (R : Nat → List AV → Option Res) (N : Nat) (s1 : List UInt8) : Option Res :=
  bif decide ((((s1.length : Nat) : Int) : Int) < 1) then
    (some ⟨AV.tup [AV.int .i32 65533, AV.int .i64 0], false, []⟩)
  else
    need (decide (0 ≤ (0 : Int))) <|
    (s1[Int.toNat 0]?).bind fun c1 =>
    none
theorem unicodeUtf8DecodeRuneSlow_eq (R : Nat → List AV → Option Res) (N : Nat) (s1 : List UInt8) : runF gl R N unicodeUtf8DecodeRuneSlow [AV.bytes s1] = unicodeUtf8DecodeRuneSlowr R N s1 := by
  kernel_rfl
theorem unicodeUtf8DecodeRuneSlow_fit : fitF Tryd.prog unicodeUtf8DecodeRuneSlow Tryd.f54 = true := by
  kernel_rfl

def unicodeUtf8DecodeRune_L1s (R : Nat → List AV → Option Res) (N : Nat) (go : List UInt8 → List UInt8 → Int → Int → Option Res) (k0 : Int → Int → Option Res) (k1 : List UInt8 → Option Res) (s2 : List UInt8) (s3 : List UInt8) (i1 : Int) (i2 : Int) : Option Res :=
  bif decide ((i2 : Int) < i1) then
    (need (decide (0 ≤ (i2 : Int))) <|
    (s3[Int.toNat i2]?).bind fun c1 =>
    bif decide (((c1.toNat : Int) : Int) < 128) then
      (k0 (IntKind.i32.wrap (c1.toNat : Int)) 1)
    else
      k1 s2)
  else
    k1 s2
def unicodeUtf8DecodeRune_L1 (R : Nat → List AV → Option Res) (N : Nat) (k0 : Int → Int → Option Res) (k1 : List UInt8 → Option Res) : Nat → List UInt8 → List UInt8 → Int → Int → Option Res
  | 0, _, _, _, _ => none
  | n + 1, s2, s3, i1, i2 => unicodeUtf8DecodeRune_L1s R N (unicodeUtf8DecodeRune_L1 R N k0 k1 n) k0 k1 s2 s3 i1 i2
def unicodeUtf8DecodeRune_c0 : AC := .seq (.region [.op (some 9) none (.bin .lss (.t 8) (.t 7))]) (.seq (.cond (.t 9) (.skip) (.exit 0 [0] [])) (.seq (.block 1 (.seq (.region [.op (some 10) none (.iaddr (.t 6) (.t 8) 1 (.int .u8)), .op (some 11) none (.load (.t 10) none (.int .u8)), .op (some 5) none (.mv (.t 11))]) (.seq (.seq (.region [.op (some 12) none (.mv (.t 5)), .op (some 13) none (.bin .lss (.t 12) (.k (AV.int .u8 128)))]) (.cond (.t 13) (.seq (.region [.op (some 14) none (.mv (.t 5)), .op (some 15) none (.cvInt .i32 (.t 14)), .op (some 2) none (.mv (.t 15)), .op (some 3) none (.mv (.k (AV.int .i64 1)))]) (.ret [2, 3] [])) (.skip))) (.exit 0 [0] [])))) (.region [.op (some 16) none (.bin .add (.t 8) (.k (AV.int .i64 1))), .op (some 8) none (.mv (.t 16))])))
theorem unicodeUtf8DecodeRune_L1s_eq (R : Nat → List AV → Option Res) (N : Nat) (K : Ex → St → Option Res) (W : St → Option Res) (s2 : List UInt8) (s3 : List UInt8) (i1 : Int) (i2 : Int) :
    evC gl R N unicodeUtf8DecodeRune_c0 (Kseq (fun st' => W (prune [0, 6, 7, 8] [] st')) K) ⟨[(0, .imm (AV.bytes s2)), (6, .imm (AV.bytes s3)), (7, .imm (AV.int .i64 i1)), (8, .imm (AV.int .i64 i2))], []⟩ =
    unicodeUtf8DecodeRune_L1s R N (fun (s2 : List UInt8) (s3 : List UInt8) (i1 : Int) (i2 : Int) => W ⟨[(0, .imm (AV.bytes s2)), (6, .imm (AV.bytes s3)), (7, .imm (AV.int .i64 i1)), (8, .imm (AV.int .i64 i2))], []⟩) (fun (i3 : Int) (i4 : Int) => K .ret ⟨[(2, .imm (AV.int .i32 i3)), (3, .imm (AV.int .i64 i4))], []⟩) (fun (s4 : List UInt8) => K (.exit 0) ⟨[(0, .imm (AV.bytes s4))], []⟩) s2 s3 i1 i2 := by
  kernel_rfl
theorem unicodeUtf8DecodeRune_L1_eq (R : Nat → List AV → Option Res) (N : Nat) (K : Ex → St → Option Res) : ∀ (n : Nat) (s2 : List UInt8) (s3 : List UInt8) (i1 : Int) (i2 : Int),
    rounds [0, 6, 7, 8] [] (evC gl R N unicodeUtf8DecodeRune_c0) K n ⟨[(0, .imm (AV.bytes s2)), (6, .imm (AV.bytes s3)), (7, .imm (AV.int .i64 i1)), (8, .imm (AV.int .i64 i2))], []⟩ = unicodeUtf8DecodeRune_L1 R N (fun (i3 : Int) (i4 : Int) => K .ret ⟨[(2, .imm (AV.int .i32 i3)), (3, .imm (AV.int .i64 i4))], []⟩) (fun (s4 : List UInt8) => K (.exit 0) ⟨[(0, .imm (AV.bytes s4))], []⟩) n s2 s3 i1 i2
  | 0, _, _, _, _ => rfl
  | n + 1, s2, s3, i1, i2 => (unicodeUtf8DecodeRune_L1s_eq R N K (rounds [0, 6, 7, 8] [] (evC gl R N unicodeUtf8DecodeRune_c0) K n) s2 s3 i1 i2).trans
      (congrArg (fun go => unicodeUtf8DecodeRune_L1s R N go (fun (i3 : Int) (i4 : Int) => K .ret ⟨[(2, .imm (AV.int .i32 i3)), (3, .imm (AV.int .i64 i4))], []⟩) (fun (s4 : List UInt8) => K (.exit 0) ⟨[(0, .imm (AV.bytes s4))], []⟩) s2 s3 i1 i2) (funext fun s2 => funext fun s3 => funext fun i1 => funext fun i2 => unicodeUtf8DecodeRune_L1_eq R N K n s2 s3 i1 i2))
def unicodeUtf8DecodeRune_c1 : AC := .seq (.region [.op (some 18) none (.mv (.t 0)), .op (some 19) none (.call id_unicodeUtf8DecodeRuneSlow [.t 18] (.tup [.int .i32, .int .i64])), .op (some 17) none (.mv (.t 19)), .op (some 20) none (.extract (.t 17) 0), .op (some 21) none (.extract (.t 17) 1), .op (some 2) none (.mv (.t 20)), .op (some 3) none (.mv (.t 21))]) (.ret [2, 3] [])
def unicodeUtf8DecodeRune_c2 : AC := .seq (.region [.op (some 2) none (.mv (.k (AV.int .i32 0))), .op (some 3) none (.mv (.k (AV.int .i64 0)))]) (.seq (.seq (.region [.op (some 6) none (.mv (.t 0)), .op (some 7) none (.len (.t 6) false), .op (some 8) none (.mv (.k (AV.int .i64 0)))]) (.block 0 (.loop [0, 6, 7, 8] [] (unicodeUtf8DecodeRune_c0)))) (unicodeUtf8DecodeRune_c1))
def unicodeUtf8DecodeRune : AFunc := ⟨1, 22, [.tmp 2, .tmp 3], unicodeUtf8DecodeRune_c2⟩
def unicodeUtf8DecodeRuner (R : Nat → List AV → Option Res) (N : Nat) (s1 : List UInt8) : Option Res :=
  unicodeUtf8DecodeRune_L1 R N
    (fun i7 i8 =>
      some ⟨AV.tup [AV.int .i32 i7, AV.int .i64 i8], false, []⟩)
    (fun s6 =>
      (R id_unicodeUtf8DecodeRuneSlow [AV.bytes s6]).bind fun r1 =>
      asJIT r1.v fun i9 i10 =>
      some ⟨AV.tup [AV.int .i32 i9, AV.int .i64 i10], false, []⟩)
    N s1 s1 ((s1.length : Nat) : Int) 0
theorem unicodeUtf8DecodeRune_eq (R : Nat → List AV → Option Res) (N : Nat) (s1 : List UInt8) : runF gl R N unicodeUtf8DecodeRune [AV.bytes s1] = unicodeUtf8DecodeRuner R N s1 := by
  refine Eq.trans (b :=
      rounds [0, 6, 7, 8] [] (evC gl R N unicodeUtf8DecodeRune_c0) (Kblock 0 (Kthen gl R N unicodeUtf8DecodeRune_c1 (Kret unicodeUtf8DecodeRune.rets []))) N ⟨[(0, .imm (AV.bytes s1)), (6, .imm (AV.bytes s1)), (7, .imm (AV.int .i64 ((s1.length : Nat) : Int))), (8, .imm (AV.int .i64 0))], []⟩) (by kernel_rfl) ?_
  simp (config := { maxSteps := 100000000 }) only [unicodeUtf8DecodeRune_L1_eq]
  kernel_rfl
theorem unicodeUtf8DecodeRune_fit : fitF Tryd.prog unicodeUtf8DecodeRune Tryd.f44 = true := by
  kernel_rfl

def charsRune_c0 : AC := .seq (.region [.op (some 2) none (.mv (.k (AV.int .i32 0))), .op (some 3) none (.mv (.k (AV.int .i64 0))), .op (some 4) none (.mv (.k (AV.bool false)))]) (.seq (.region [.op (some 6) none (.mv (.t 0)), .op (some 7) none (.call id_unicodeUtf8DecodeRune [.t 6] (.tup [.int .i32, .int .i64])), .op (some 5) none (.mv (.t 7)), .op (some 8) none (.extract (.t 5) 0), .op (some 9) none (.extract (.t 5) 1), .op (some 2) none (.mv (.t 8)), .op (some 3) none (.mv (.t 9))]) (.seq (.seq (.region [.op (some 10) none (.mv (.t 2)), .op (some 11) none (.bin .eql (.t 10) (.k (AV.int .i32 65533))), .op (some 12) none (.mv (.t 11)), .split 12, .op (some 13) (some (12, true)) (.mv (.t 3)), .op (some 14) (some (12, true)) (.bin .lss (.t 13) (.k (AV.int .i64 2))), .op (some 15) none (.pick (.t 12) (.t 14) (.k (AV.bool false)))]) (.cond (.t 15) (.seq (.region [.op (some 16) none (.mv (.t 3)), .op (some 2) none (.mv (.k (AV.int .i32 0))), .op (some 3) none (.mv (.t 16)), .op (some 4) none (.mv (.k (AV.bool false)))]) (.ret [2, 3, 4] [])) (.skip))) (.seq (.region [.op (some 17) none (.mv (.t 2)), .op (some 18) none (.mv (.t 3)), .op (some 2) none (.mv (.t 17)), .op (some 3) none (.mv (.t 18)), .op (some 4) none (.mv (.k (AV.bool true)))]) (.ret [2, 3, 4] []))))
def charsRune : AFunc := ⟨1, 19, [.tmp 2, .tmp 3, .tmp 4], charsRune_c0⟩
def charsRuner (R : Nat → List AV → Option Res) (N : Nat) (s1 : List UInt8) : Option Res :=
  (R id_unicodeUtf8DecodeRune [AV.bytes s1]).bind fun r1 =>
  asJIT r1.v fun i1 i2 =>
  bif (i1 : Int) == 65533 then
    (bif decide ((i2 : Int) < 2) then
      (some ⟨AV.tup [AV.int .i32 0, AV.int .i64 i2, AV.bool false], false, []⟩)
    else
      some ⟨AV.tup [AV.int .i32 i1, AV.int .i64 i2, AV.bool true], false, []⟩)
  else
    some ⟨AV.tup [AV.int .i32 i1, AV.int .i64 i2, AV.bool true], false, []⟩
theorem charsRune_eq (R : Nat → List AV → Option Res) (N : Nat) (s1 : List UInt8) : runF gl R N charsRune [AV.bytes s1] = charsRuner R N s1 := by
  kernel_rfl
theorem charsRune_fit : fitF Tryd.prog charsRune Tryd.f32 = true := by
  kernel_rfl

def charsPrintable_c0 : AC := .seq (.region [.op (some 2) none (.mv (.k (AV.bool false)))]) (.seq (.block 0 (.seq (.region [.op (some 4) none (.mv (.t 0)), .op (some 5) none (.bin .lss (.t 4) (.k (AV.int .i32 32))), .op (some 3) none (.mv (.t 5))]) (.cond (.t 3) (.seq (.region [.op (some 6) none (.mv (.t 0)), .op (some 7) none (.bin .eql (.t 6) (.k (AV.int .i32 9))), .op (some 8) none (.mv (.t 7)), .split 8, .op (some 9) (some (8, false)) (.mv (.t 0)), .op (some 10) (some (8, false)) (.bin .eql (.t 9) (.k (AV.int .i32 10))), .op (some 11) none (.pick (.t 8) (.k (AV.bool true)) (.t 10)), .op (some 12) none (.mv (.t 11)), .split 12, .op (some 13) (some (12, false)) (.mv (.t 0)), .op (some 14) (some (12, false)) (.bin .eql (.t 13) (.k (AV.int .i32 13))), .op (some 15) none (.pick (.t 12) (.k (AV.bool true)) (.t 14)), .op (some 2) none (.mv (.t 15))]) (.ret [2] [])) (.seq (.region [.op (some 17) none (.mv (.t 0)), .op (some 18) none (.bin .gtr (.t 17) (.k (AV.int .i32 126))), .op (some 19) none (.mv (.t 18)), .split 19, .op (some 20) (some (19, true)) (.mv (.t 0)), .op (some 21) (some (19, true)) (.bin .lss (.t 20) (.k (AV.int .i32 160))), .op (some 22) none (.pick (.t 19) (.t 21) (.k (AV.bool false))), .op (some 16) none (.mv (.t 22))]) (.cond (.t 16) (.seq (.region [.op (some 23) none (.mv (.t 0)), .op (some 24) none (.bin .eql (.t 23) (.k (AV.int .i32 133))), .op (some 2) none (.mv (.t 24))]) (.ret [2] [])) (.seq (.region [.op (some 26) none (.mv (.t 0)), .op (some 27) none (.bin .geq (.t 26) (.k (AV.int .i32 55296))), .op (some 28) none (.mv (.t 27)), .split 28, .op (some 29) (some (28, true)) (.mv (.t 0)), .op (some 30) (some (28, true)) (.bin .leq (.t 29) (.k (AV.int .i32 57343))), .op (some 31) none (.pick (.t 28) (.t 30) (.k (AV.bool false))), .op (some 32) none (.mv (.t 31)), .split 32, .op (some 33) (some (32, false)) (.mv (.t 0)), .op (some 34) (some (32, false)) (.bin .eql (.t 33) (.k (AV.int .i32 65279))), .op (some 35) none (.pick (.t 32) (.k (AV.bool true)) (.t 34)), .op (some 36) none (.mv (.t 35)), .split 36, .op (some 37) (some (36, false)) (.mv (.t 0)), .op (some 38) (some (36, false)) (.bin .eql (.t 37) (.k (AV.int .i32 65534))), .op (some 39) none (.pick (.t 36) (.k (AV.bool true)) (.t 38)), .op (some 40) none (.mv (.t 39)), .split 40, .op (some 41) (some (40, false)) (.mv (.t 0)), .op (some 42) (some (40, false)) (.bin .eql (.t 41) (.k (AV.int .i32 65535))), .op (some 43) none (.pick (.t 40) (.k (AV.bool true)) (.t 42)), .op (some 25) none (.mv (.t 43))]) (.cond (.t 25) (.seq (.region [.op (some 2) none (.mv (.k (AV.bool false)))]) (.ret [2] [])) (.skip)))))))) (.seq (.region [.op (some 44) none (.mv (.t 0)), .op (some 45) none (.bin .leq (.t 44) (.k (AV.int .i32 1114111))), .op (some 2) none (.mv (.t 45))]) (.ret [2] [])))
def charsPrintable : AFunc := ⟨1, 46, [.tmp 2], charsPrintable_c0⟩
def charsPrintabler (R : Nat → List AV → Option Res) (N : Nat) (i1 : Int) : Option Res :=
  bif decide ((i1 : Int) < 32) then
    (bif (i1 : Int) == 9 then
      (some ⟨AV.bool true, false, []⟩)
    else
      bif (i1 : Int) == 10 then
        (some ⟨AV.bool true, false, []⟩)
      else
        some ⟨AV.bool ((i1 : Int) == 13), false, []⟩)
  else
    bif decide ((i1 : Int) > 126) then
      (bif decide ((i1 : Int) < 160) then
        (some ⟨AV.bool ((i1 : Int) == 133), false, []⟩)
      else
        bif decide ((i1 : Int) ≥ 55296) then
          (bif decide ((i1 : Int) ≤ 57343) then
            (some ⟨AV.bool false, false, []⟩)
          else
            bif (i1 : Int) == 65279 then
              (some ⟨AV.bool false, false, []⟩)
            else
              bif (i1 : Int) == 65534 then
                (some ⟨AV.bool false, false, []⟩)
              else
                bif (i1 : Int) == 65535 then
                  (some ⟨AV.bool false, false, []⟩)
                else
                  some ⟨AV.bool (decide ((i1 : Int) ≤ 1114111)), false, []⟩)
        else
          bif (i1 : Int) == 65279 then
            (some ⟨AV.bool false, false, []⟩)
          else
            bif (i1 : Int) == 65534 then
              (some ⟨AV.bool false, false, []⟩)
            else
              bif (i1 : Int) == 65535 then
                (some ⟨AV.bool false, false, []⟩)
              else
                some ⟨AV.bool (decide ((i1 : Int) ≤ 1114111)), false, []⟩)
    else
      bif decide ((i1 : Int) ≥ 55296) then
        (bif decide ((i1 : Int) ≤ 57343) then
          (some ⟨AV.bool false, false, []⟩)
        else
          bif (i1 : Int) == 65279 then
            (some ⟨AV.bool false, false, []⟩)
          else
            bif (i1 : Int) == 65534 then
              (some ⟨AV.bool false, false, []⟩)
            else
              bif (i1 : Int) == 65535 then
                (some ⟨AV.bool false, false, []⟩)
              else
                some ⟨AV.bool (decide ((i1 : Int) ≤ 1114111)), false, []⟩)
      else
        bif (i1 : Int) == 65279 then
          (some ⟨AV.bool false, false, []⟩)
        else
          bif (i1 : Int) == 65534 then
            (some ⟨AV.bool false, false, []⟩)
          else
            bif (i1 : Int) == 65535 then
              (some ⟨AV.bool false, false, []⟩)
            else
              some ⟨AV.bool (decide ((i1 : Int) ≤ 1114111)), false, []⟩
theorem charsPrintable_eq (R : Nat → List AV → Option Res) (N : Nat) (i1 : Int) : runF gl R N charsPrintable [AV.int .i32 i1] = charsPrintabler R N i1 := by
  kernel_rfl
theorem charsPrintable_fit : fitF Tryd.prog charsPrintable Tryd.f33 = true := by
  kernel_rfl

def plainValid_L1s (R : Nat → List AV → Option Res) (N : Nat) (go : List UInt8 → Bool → List UInt8 → Int → Option Res) (k0 : Bool → Option Res) (k1 : List UInt8 → Bool → List UInt8 → Option Res) (s2 : List UInt8) (b2 : Bool) (s3 : List UInt8) (i1 : Int) : Option Res :=
  bif decide ((i1 : Int) < ((s3.length : Nat) : Int)) then
    (need (decide (0 ≤ (i1 : Int)) && decide ((i1 : Int) ≤ ((s3.length : Nat) : Int))) <|
    (R id_charsRune [AV.bytes ((s3.take s3.length).drop (Int.toNat i1))]).bind fun r1 =>
    asJIBT r1.v fun i2 i3 b3 =>
    bif !b3 then
      (k0 false)
    else
      (R id_charsPrintable [AV.int .i32 i2]).bind fun r2 =>
      asB r2.v fun b4 =>
      bif !b4 then
        (k0 false)
      else
        bif decide ((i2 : Int) < 32) then
          (k0 false)
        else
          go s2 b2 s3 (IntKind.i64.wrap (i1 + i3)))
  else
    k1 s2 b2 s3
def plainValid_L1 (R : Nat → List AV → Option Res) (N : Nat) (k0 : Bool → Option Res) (k1 : List UInt8 → Bool → List UInt8 → Option Res) : Nat → List UInt8 → Bool → List UInt8 → Int → Option Res
  | 0, _, _, _, _ => none
  | n + 1, s2, b2, s3, i1 => plainValid_L1s R N (plainValid_L1 R N k0 k1 n) k0 k1 s2 b2 s3 i1
def plainValid_c0 : AC := .seq (.seq (.region [.op (some 12) none (.mv (.t 6)), .op (some 13) none (.mv (.t 5)), .op (some 14) none (.len (.t 13) false), .op (some 15) none (.bin .lss (.t 12) (.t 14))]) (.cond (.t 15) (.skip) (.exit 0 [0, 1, 5] []))) (.block 1 (.seq (.region [.op (some 17) none (.mv (.t 5)), .op (some 18) none (.mv (.t 6)), .op (some 19) none (.slice (.t 17) (some (.t 18)) none 1), .op (some 20) none (.call id_charsRune [.t 19] (.tup [.int .i32, .int .i64, .bool])), .op (some 16) none (.mv (.t 20)), .op (some 21) none (.extract (.t 16) 0), .op (some 22) none (.extract (.t 16) 1), .op (some 23) none (.extract (.t 16) 2), .op (some 7) none (.mv (.t 21)), .op (some 8) none (.mv (.t 22)), .op (some 9) none (.mv (.t 23))]) (.seq (.seq (.region [.op (some 24) none (.mv (.t 9)), .op (some 25) none (.un .not (.t 24)), .op (some 26) none (.mv (.t 25)), .split 26, .op (some 27) (some (26, false)) (.mv (.t 7)), .op (some 28) (some (26, false)) (.call id_charsPrintable [.t 27] (.bool)), .op (some 29) (some (26, false)) (.un .not (.t 28)), .op (some 30) none (.pick (.t 26) (.k (AV.bool true)) (.t 29)), .op (some 31) none (.mv (.t 30)), .split 31, .op (some 32) (some (31, false)) (.mv (.t 7)), .op (some 33) (some (31, false)) (.bin .lss (.t 32) (.k (AV.int .i32 32))), .op (some 34) none (.pick (.t 31) (.k (AV.bool true)) (.t 33))]) (.cond (.t 34) (.seq (.region [.op (some 4) none (.mv (.k (AV.bool false)))]) (.ret [4] [])) (.skip))) (.region [.op (some 35) none (.mv (.t 6)), .op (some 36) none (.mv (.t 8)), .op (some 37) none (.bin .add (.t 35) (.t 36)), .op (some 6) none (.mv (.t 37))]))))
theorem plainValid_L1s_eq (R : Nat → List AV → Option Res) (N : Nat) (K : Ex → St → Option Res) (W : St → Option Res) (s2 : List UInt8) (b2 : Bool) (s3 : List UInt8) (i1 : Int) :
    evC gl R N plainValid_c0 (Kseq (fun st' => W (prune [0, 1, 5, 6] [] st')) K) ⟨[(0, .imm (AV.str s2)), (1, .imm (AV.bool b2)), (5, .imm (AV.bytes s3)), (6, .imm (AV.int .i64 i1))], []⟩ =
    plainValid_L1s R N (fun (s2 : List UInt8) (b2 : Bool) (s3 : List UInt8) (i1 : Int) => W ⟨[(0, .imm (AV.str s2)), (1, .imm (AV.bool b2)), (5, .imm (AV.bytes s3)), (6, .imm (AV.int .i64 i1))], []⟩) (fun (b5 : Bool) => K .ret ⟨[(4, .imm (AV.bool b5))], []⟩) (fun (s4 : List UInt8) (b6 : Bool) (s5 : List UInt8) => K (.exit 0) ⟨[(0, .imm (AV.str s4)), (1, .imm (AV.bool b6)), (5, .imm (AV.bytes s5))], []⟩) s2 b2 s3 i1 := by
  kernel_rfl
theorem plainValid_L1_eq (R : Nat → List AV → Option Res) (N : Nat) (K : Ex → St → Option Res) : ∀ (n : Nat) (s2 : List UInt8) (b2 : Bool) (s3 : List UInt8) (i1 : Int),
    rounds [0, 1, 5, 6] [] (evC gl R N plainValid_c0) K n ⟨[(0, .imm (AV.str s2)), (1, .imm (AV.bool b2)), (5, .imm (AV.bytes s3)), (6, .imm (AV.int .i64 i1))], []⟩ = plainValid_L1 R N (fun (b5 : Bool) => K .ret ⟨[(4, .imm (AV.bool b5))], []⟩) (fun (s4 : List UInt8) (b6 : Bool) (s5 : List UInt8) => K (.exit 0) ⟨[(0, .imm (AV.str s4)), (1, .imm (AV.bool b6)), (5, .imm (AV.bytes s5))], []⟩) n s2 b2 s3 i1
  | 0, _, _, _, _ => rfl
  | n + 1, s2, b2, s3, i1 => (plainValid_L1s_eq R N K (rounds [0, 1, 5, 6] [] (evC gl R N plainValid_c0) K n) s2 b2 s3 i1).trans
      (congrArg (fun go => plainValid_L1s R N go (fun (b5 : Bool) => K .ret ⟨[(4, .imm (AV.bool b5))], []⟩) (fun (s4 : List UInt8) (b6 : Bool) (s5 : List UInt8) => K (.exit 0) ⟨[(0, .imm (AV.str s4)), (1, .imm (AV.bool b6)), (5, .imm (AV.bytes s5))], []⟩) s2 b2 s3 i1) (funext fun s2 => funext fun b2 => funext fun s3 => funext fun i1 => plainValid_L1_eq R N K n s2 b2 s3 i1))
def plainValid_c1 : AC := .seq (.region [.op (some 38) none (.mv (.t 0)), .op (some 39) none (.bin .neq (.t 38) (.k (AV.str ([] : List UInt8)))), .op (some 40) none (.mv (.t 39)), .split 40, .op (some 41) (some (40, true)) (.mv (.t 5)), .op (some 42) (some (40, true)) (.mv (.t 1)), .op (some 43) (some (40, true)) (.call id_plainLength [.t 41, .t 42] (.int .i64)), .op (some 44) (some (40, true)) (.mv (.t 5)), .op (some 45) (some (40, true)) (.len (.t 44) false), .op (some 46) (some (40, true)) (.bin .eql (.t 43) (.t 45)), .op (some 47) none (.pick (.t 40) (.t 46) (.k (AV.bool false))), .op (some 4) none (.mv (.t 47))]) (.ret [4] [])
def plainValid_c2 : AC := .seq (.region [.op (some 4) none (.mv (.k (AV.bool false)))]) (.seq (.region [.op (some 10) none (.mv (.t 0)), .op (some 11) none (.cvBytes (.t 10)), .op (some 5) none (.mv (.t 11))]) (.seq (.seq (.region [.op (some 6) none (.mv (.k (AV.int .i64 0)))]) (.block 0 (.loop [0, 1, 5, 6] [] (plainValid_c0)))) (plainValid_c1)))
def plainValid : AFunc := ⟨2, 48, [.tmp 4], plainValid_c2⟩
def plainValidr (R : Nat → List AV → Option Res) (N : Nat) (s1 : List UInt8) (b1 : Bool) : Option Res :=
  plainValid_L1 R N
    (fun b9 =>
      some ⟨AV.bool b9, false, []⟩)
    (fun s8 b10 s9 =>
      bif !(s8 == ([] : List UInt8)) then
        ((R id_plainLength [AV.bytes s9, AV.bool b10]).bind fun r3 =>
        asI .i64 r3.v fun i4 =>
        some ⟨AV.bool ((i4 : Int) == ((s9.length : Nat) : Int)), false, []⟩)
      else
        some ⟨AV.bool false, false, []⟩)
    N s1 b1 s1 0
theorem plainValid_eq (R : Nat → List AV → Option Res) (N : Nat) (s1 : List UInt8) (b1 : Bool) : runF gl R N plainValid [AV.str s1, AV.bool b1] = plainValidr R N s1 b1 := by
  refine Eq.trans (b :=
      rounds [0, 1, 5, 6] [] (evC gl R N plainValid_c0) (Kblock 0 (Kthen gl R N plainValid_c1 (Kret plainValid.rets []))) N ⟨[(0, .imm (AV.str s1)), (1, .imm (AV.bool b1)), (5, .imm (AV.bytes s1)), (6, .imm (AV.int .i64 0))], []⟩) (by kernel_rfl) ?_
  simp (config := { maxSteps := 100000000 }) only [plainValid_L1_eq]
  kernel_rfl
theorem plainValid_fit : fitF Tryd.prog plainValid Tryd.f12 = true := by
  kernel_rfl

def keepWithin_c0 : AC := .seq (.region [.op (some 4) none (.mv (.k (AV.int .i64 0)))]) (.seq (.seq (.region [.op (some 6) none (.mv (.t 1)), .op (some 7) none (.bin .lss (.t 6) (.k (AV.int .i64 1)))]) (.cond (.t 7) (.seq (.region [.op (some 4) none (.mv (.k (AV.int .i64 0)))]) (.ret [4] [])) (.skip))) (.seq (.region [.op (some 8) none (.mv (.t 0)), .op (some 9) none (.mv (.t 1)), .op (some 10) none (.bin .rem (.t 8) (.t 9)), .op (some 5) none (.mv (.t 10))]) (.seq (.seq (.region [.op (some 11) none (.mv (.t 5)), .op (some 12) none (.bin .lss (.t 11) (.k (AV.int .i64 0)))]) (.cond (.t 12) (.region [.op (some 13) none (.mv (.t 5)), .op (some 14) none (.mv (.t 1)), .op (some 15) none (.bin .add (.t 13) (.t 14)), .op (some 5) none (.mv (.t 15))]) (.skip))) (.seq (.region [.op (some 16) none (.mv (.t 5)), .op (some 4) none (.mv (.t 16))]) (.ret [4] [])))))
def keepWithin : AFunc := ⟨2, 17, [.tmp 4], keepWithin_c0⟩
def keepWithinr (R : Nat → List AV → Option Res) (N : Nat) (i1 : Int) (i2 : Int) : Option Res :=
  bif decide ((i2 : Int) < 1) then
    (some ⟨AV.int .i64 0, false, []⟩)
  else
    need (!decide (i2 = 0)) <|
    bif decide (((Int.tmod i1 i2) : Int) < 0) then
      (some ⟨AV.int .i64 (IntKind.i64.wrap ((Int.tmod i1 i2) + i2)), false, []⟩)
    else
      some ⟨AV.int .i64 (Int.tmod i1 i2), false, []⟩
theorem keepWithin_eq (R : Nat → List AV → Option Res) (N : Nat) (i1 : Int) (i2 : Int) : runF gl R N keepWithin [AV.int .i64 i1, AV.int .i64 i2] = keepWithinr R N i1 i2 := by
  kernel_rfl
theorem keepWithin_fit : fitF Tryd.prog keepWithin Tryd.f13 = true := by
  kernel_rfl

def law04Wakes_c0 : AC := .seq (.region [.op (some 0) none (.mv (.k (AV.bool false)))]) (.seq (.region [.op (some 1) none (.bsliceOwn 1 [.k (AV.int .u8 97), .k (AV.int .u8 58), .k (AV.int .u8 32), .k (AV.int .u8 98)] 1 .any true), .op (some 2) none (.cvSame (.t 1)), .op (some 3) none (.call id_plainLength [.t 2, .k (AV.bool false)] (.int .i64)), .op (some 4) none (.bin .eql (.t 3) (.k (AV.int .i64 1))), .op (some 5) none (.mv (.t 4)), .split 5, .op (some 6) (some (5, true)) (.bsliceOwn 6 [.k (AV.int .u8 97), .k (AV.int .u8 35), .k (AV.int .u8 98), .k (AV.int .u8 32), .k (AV.int .u8 35), .k (AV.int .u8 99)] 1 .any true), .op (some 7) (some (5, true)) (.cvSame (.t 6)), .op (some 8) (some (5, true)) (.call id_plainLength [.t 7, .k (AV.bool false)] (.int .i64)), .op (some 9) (some (5, true)) (.bin .eql (.t 8) (.k (AV.int .i64 3))), .op (some 10) none (.pick (.t 5) (.t 9) (.k (AV.bool false))), .op (some 0) none (.mv (.t 10))]) (.ret [0] []))
def law04Wakes : AFunc := ⟨0, 11, [.tmp 0], law04Wakes_c0⟩
def law04Wakesr (R : Nat → List AV → Option Res) (N : Nat) : Option Res :=
  (R id_plainLength [AV.bytes ((([97, 58, 32, 98] : List UInt8).drop 0).take 4), AV.bool false]).bind fun r1 =>
  asI .i64 r1.v fun i1 =>
  bif (i1 : Int) == 1 then
    ((R id_plainLength [AV.bytes ((([97, 35, 98, 32, 35, 99] : List UInt8).drop 0).take 6), AV.bool false]).bind fun r2 =>
    asI .i64 r2.v fun i2 =>
    some ⟨AV.bool ((i2 : Int) == 3), false, []⟩)
  else
    some ⟨AV.bool false, false, []⟩
theorem law04Wakes_eq (R : Nat → List AV → Option Res) (N : Nat) : runF gl R N law04Wakes [] = law04Wakesr R N := by
  kernel_rfl
theorem law04Wakes_fit : fitF Tryd.prog law04Wakes Tryd.f15 = true := by
  kernel_rfl

def law04PlainWords_L2s (R : Nat → List AV → Option Res) (N : Nat) (go : List AV → List UInt8 → Int → Bool → List UInt8 → Int → List UInt8 → List UInt8 → Int → Int → Option Res) (k0 : List AV → List UInt8 → Int → Bool → List UInt8 → Int → List UInt8 → Option Res) (l3 : List AV) (s6 : List UInt8) (i4 : Int) (b3 : Bool) (s7 : List UInt8) (i5 : Int) (s8 : List UInt8) (s9 : List UInt8) (i6 : Int) (i7 : Int) : Option Res :=
  bif decide ((i7 : Int) < i6) then
    (need (decide (0 ≤ (i7 : Int))) <|
    (s9[Int.toNat i7]?).bind fun c1 =>
    bif decide (((c1.toNat : Int) : Int) ≥ 97) then
      (bif decide (((c1.toNat : Int) : Int) ≤ 122) then
        (need (decide (0 ≤ ((c1.toNat : Int) : Int)) && decide (((c1.toNat : Int) : Int) < 256)) <|
        need (decide (s8.length + ([UInt8.ofNat (Int.toNat (c1.toNat : Int))] : List UInt8).length ≤ 9223372036854775807)) <|
        go l3 s6 i4 b3 s7 i5 (s8 ++ [UInt8.ofNat (Int.toNat (c1.toNat : Int))]) s9 i6 (IntKind.i64.wrap (i7 + 1)))
      else
        bif decide (((c1.toNat : Int) : Int) ≥ 48) then
          (bif decide (((c1.toNat : Int) : Int) ≤ 57) then
            (need (decide (0 ≤ ((c1.toNat : Int) : Int)) && decide (((c1.toNat : Int) : Int) < 256)) <|
            need (decide (s8.length + ([UInt8.ofNat (Int.toNat (c1.toNat : Int))] : List UInt8).length ≤ 9223372036854775807)) <|
            go l3 s6 i4 b3 s7 i5 (s8 ++ [UInt8.ofNat (Int.toNat (c1.toNat : Int))]) s9 i6 (IntKind.i64.wrap (i7 + 1)))
          else
            go l3 s6 i4 b3 s7 i5 s8 s9 i6 (IntKind.i64.wrap (i7 + 1)))
        else
          go l3 s6 i4 b3 s7 i5 s8 s9 i6 (IntKind.i64.wrap (i7 + 1)))
    else
      bif decide (((c1.toNat : Int) : Int) ≥ 48) then
        (bif decide (((c1.toNat : Int) : Int) ≤ 57) then
          (need (decide (0 ≤ ((c1.toNat : Int) : Int)) && decide (((c1.toNat : Int) : Int) < 256)) <|
          need (decide (s8.length + ([UInt8.ofNat (Int.toNat (c1.toNat : Int))] : List UInt8).length ≤ 9223372036854775807)) <|
          go l3 s6 i4 b3 s7 i5 (s8 ++ [UInt8.ofNat (Int.toNat (c1.toNat : Int))]) s9 i6 (IntKind.i64.wrap (i7 + 1)))
        else
          go l3 s6 i4 b3 s7 i5 s8 s9 i6 (IntKind.i64.wrap (i7 + 1)))
      else
        go l3 s6 i4 b3 s7 i5 s8 s9 i6 (IntKind.i64.wrap (i7 + 1)))
  else
    k0 l3 s6 i4 b3 s7 i5 s8
def law04PlainWords_L2 (R : Nat → List AV → Option Res) (N : Nat) (k0 : List AV → List UInt8 → Int → Bool → List UInt8 → Int → List UInt8 → Option Res) : Nat → List AV → List UInt8 → Int → Bool → List UInt8 → Int → List UInt8 → List UInt8 → Int → Int → Option Res
  | 0, _, _, _, _, _, _, _, _, _, _ => none
  | n + 1, l3, s6, i4, b3, s7, i5, s8, s9, i6, i7 => law04PlainWords_L2s R N (law04PlainWords_L2 R N k0 n) k0 l3 s6 i4 b3 s7 i5 s8 s9 i6 i7
def law04PlainWords_c0 : AC := .seq (.region [.op (some 33) none (.bin .lss (.t 32) (.t 31))]) (.seq (.cond (.t 33) (.skip) (.exit 2 [0, 1, 2, 3, 9, 10, 11] [])) (.seq (.block 3 (.seq (.region [.op (some 34) none (.iaddr (.t 30) (.t 32) 1 (.int .u8)), .op (some 35) none (.load (.t 34) none (.int .u8)), .op (some 13) none (.mv (.t 35))]) (.seq (.region [.op (some 36) none (.mv (.t 13)), .op (some 37) none (.bin .geq (.t 36) (.k (AV.int .u8 97))), .op (some 38) none (.mv (.t 37)), .split 38, .op (some 39) (some (38, true)) (.mv (.t 13)), .op (some 40) (some (38, true)) (.bin .leq (.t 39) (.k (AV.int .u8 122))), .op (some 41) none (.pick (.t 38) (.t 40) (.k (AV.bool false))), .op (some 42) none (.mv (.t 41)), .split 42, .op (some 43) (some (42, false)) (.mv (.t 13)), .op (some 44) (some (42, false)) (.bin .geq (.t 43) (.k (AV.int .u8 48))), .op (some 45) (some (42, false)) (.mv (.t 44)), .split 45, .op (some 46) (some (45, true)) (.mv (.t 13)), .op (some 47) (some (45, true)) (.bin .leq (.t 46) (.k (AV.int .u8 57))), .op (some 48) (some (42, false)) (.pick (.t 45) (.t 47) (.k (AV.bool false))), .op (some 49) none (.pick (.t 42) (.k (AV.bool true)) (.t 48))]) (.cond (.t 49) (.region [.op (some 50) none (.mv (.t 11)), .op (some 51) none (.mv (.t 13)), .op (some 52) none (.bslice [.t 51] 1 true), .op (some 53) none (.cvStr (.t 52)), .op (some 54) none (.bin .add (.t 50) (.t 53)), .op (some 11) none (.mv (.t 54))]) (.skip))))) (.region [.op (some 55) none (.bin .add (.t 32) (.k (AV.int .i64 1))), .op (some 32) none (.mv (.t 55))])))
theorem law04PlainWords_L2s_eq (R : Nat → List AV → Option Res) (N : Nat) (K : Ex → St → Option Res) (W : St → Option Res) (l3 : List AV) (s6 : List UInt8) (i4 : Int) (b3 : Bool) (s7 : List UInt8) (i5 : Int) (s8 : List UInt8) (s9 : List UInt8) (i6 : Int) (i7 : Int) :
    evC gl R N law04PlainWords_c0 (Kseq (fun st' => W (prune [0, 1, 2, 3, 9, 10, 11, 30, 31, 32] [] st')) K) ⟨[(0, .imm (AV.row 1 l3)), (1, .imm (AV.str s6)), (2, .imm (AV.int .i64 i4)), (3, .imm (AV.bool b3)), (9, .imm (AV.str s7)), (10, .imm (AV.int .i64 i5)), (11, .imm (AV.str s8)), (30, .imm (AV.bytes s9)), (31, .imm (AV.int .i64 i6)), (32, .imm (AV.int .i64 i7))], []⟩ =
    law04PlainWords_L2s R N (fun (l3 : List AV) (s6 : List UInt8) (i4 : Int) (b3 : Bool) (s7 : List UInt8) (i5 : Int) (s8 : List UInt8) (s9 : List UInt8) (i6 : Int) (i7 : Int) => W ⟨[(0, .imm (AV.row 1 l3)), (1, .imm (AV.str s6)), (2, .imm (AV.int .i64 i4)), (3, .imm (AV.bool b3)), (9, .imm (AV.str s7)), (10, .imm (AV.int .i64 i5)), (11, .imm (AV.str s8)), (30, .imm (AV.bytes s9)), (31, .imm (AV.int .i64 i6)), (32, .imm (AV.int .i64 i7))], []⟩) (fun (l4 : List AV) (s10 : List UInt8) (i8 : Int) (b4 : Bool) (s11 : List UInt8) (i9 : Int) (s12 : List UInt8) => K (.exit 2) ⟨[(0, .imm (AV.row 1 l4)), (1, .imm (AV.str s10)), (2, .imm (AV.int .i64 i8)), (3, .imm (AV.bool b4)), (9, .imm (AV.str s11)), (10, .imm (AV.int .i64 i9)), (11, .imm (AV.str s12))], []⟩) l3 s6 i4 b3 s7 i5 s8 s9 i6 i7 := by
  kernel_rfl
theorem law04PlainWords_L2_eq (R : Nat → List AV → Option Res) (N : Nat) (K : Ex → St → Option Res) : ∀ (n : Nat) (l3 : List AV) (s6 : List UInt8) (i4 : Int) (b3 : Bool) (s7 : List UInt8) (i5 : Int) (s8 : List UInt8) (s9 : List UInt8) (i6 : Int) (i7 : Int),
    rounds [0, 1, 2, 3, 9, 10, 11, 30, 31, 32] [] (evC gl R N law04PlainWords_c0) K n ⟨[(0, .imm (AV.row 1 l3)), (1, .imm (AV.str s6)), (2, .imm (AV.int .i64 i4)), (3, .imm (AV.bool b3)), (9, .imm (AV.str s7)), (10, .imm (AV.int .i64 i5)), (11, .imm (AV.str s8)), (30, .imm (AV.bytes s9)), (31, .imm (AV.int .i64 i6)), (32, .imm (AV.int .i64 i7))], []⟩ = law04PlainWords_L2 R N (fun (l4 : List AV) (s10 : List UInt8) (i8 : Int) (b4 : Bool) (s11 : List UInt8) (i9 : Int) (s12 : List UInt8) => K (.exit 2) ⟨[(0, .imm (AV.row 1 l4)), (1, .imm (AV.str s10)), (2, .imm (AV.int .i64 i8)), (3, .imm (AV.bool b4)), (9, .imm (AV.str s11)), (10, .imm (AV.int .i64 i9)), (11, .imm (AV.str s12))], []⟩) n l3 s6 i4 b3 s7 i5 s8 s9 i6 i7
  | 0, _, _, _, _, _, _, _, _, _, _ => rfl
  | n + 1, l3, s6, i4, b3, s7, i5, s8, s9, i6, i7 => (law04PlainWords_L2s_eq R N K (rounds [0, 1, 2, 3, 9, 10, 11, 30, 31, 32] [] (evC gl R N law04PlainWords_c0) K n) l3 s6 i4 b3 s7 i5 s8 s9 i6 i7).trans
      (congrArg (fun go => law04PlainWords_L2s R N go (fun (l4 : List AV) (s10 : List UInt8) (i8 : Int) (b4 : Bool) (s11 : List UInt8) (i9 : Int) (s12 : List UInt8) => K (.exit 2) ⟨[(0, .imm (AV.row 1 l4)), (1, .imm (AV.str s10)), (2, .imm (AV.int .i64 i8)), (3, .imm (AV.bool b4)), (9, .imm (AV.str s11)), (10, .imm (AV.int .i64 i9)), (11, .imm (AV.str s12))], []⟩) l3 s6 i4 b3 s7 i5 s8 s9 i6 i7) (funext fun l3 => funext fun s6 => funext fun i4 => funext fun b3 => funext fun s7 => funext fun i5 => funext fun s8 => funext fun s9 => funext fun i6 => funext fun i7 => law04PlainWords_L2_eq R N K n l3 s6 i4 b3 s7 i5 s8 s9 i6 i7))
def law04PlainWords_L1s (R : Nat → List AV → Option Res) (N : Nat) (go : List AV → List UInt8 → Int → Bool → List UInt8 → Int → Option Res) (k0 : List UInt8 → Int → Bool → List UInt8 → Option Res) (l2 : List AV) (s2 : List UInt8) (i2 : Int) (b2 : Bool) (s3 : List UInt8) (i3 : Int) : Option Res :=
  bif decide ((i3 : Int) < ((l2.length : Nat) : Int)) then
    (bif decide ((i3 : Int) < 5) then
      (need (decide (0 ≤ (i3 : Int))) <|
      (l2[Int.toNat i3]?).bind fun e1 =>
      asS e1 fun s4 =>
      (R id_keepText [AV.str s4, AV.int .i64 8]).bind fun r1 =>
      asS r1.v fun s5 =>
      law04PlainWords_L2 R N
        (fun l6 s16 i12 b6 s17 i13 s18 =>
          need (decide ((([32] : List UInt8) : List UInt8).length + s18.length ≤ 9223372036854775807)) <|
          need (decide (s17.length + (([32] : List UInt8) ++ s18 : List UInt8).length ≤ 9223372036854775807)) <|
          go l6 s16 i12 b6 (s17 ++ (([32] : List UInt8) ++ s18)) (IntKind.i64.wrap (i13 + 1)))
        N l2 s2 i2 b2 s3 i3 ([120] : List UInt8) s5 ((s5.length : Nat) : Int) 0)
    else
      k0 s2 i2 b2 s3)
  else
    k0 s2 i2 b2 s3
def law04PlainWords_L1 (R : Nat → List AV → Option Res) (N : Nat) (k0 : List UInt8 → Int → Bool → List UInt8 → Option Res) : Nat → List AV → List UInt8 → Int → Bool → List UInt8 → Int → Option Res
  | 0, _, _, _, _, _, _ => none
  | n + 1, l2, s2, i2, b2, s3, i3 => law04PlainWords_L1s R N (law04PlainWords_L1 R N k0 n) k0 l2 s2 i2 b2 s3 i3
def law04PlainWords_c1 : AC := .region [.op (some 56) none (.mv (.t 9)), .op (some 57) none (.mv (.t 11)), .op (some 58) none (.bin .add (.k (AV.str ([32] : List UInt8))) (.t 57)), .op (some 59) none (.bin .add (.t 56) (.t 58)), .op (some 9) none (.mv (.t 59))]
def law04PlainWords_c2 : AC := .region [.op (some 23) none (.mv (.t 10)), .op (some 24) none (.bin .add (.t 23) (.k (AV.int .i64 1))), .op (some 10) none (.mv (.t 24))]
def law04PlainWords_c3 : AC := .seq (.seq (.region [.op (some 15) none (.mv (.t 10)), .op (some 16) none (.mv (.t 0)), .op (some 17) none (.len (.t 16) false), .op (some 18) none (.bin .lss (.t 15) (.t 17)), .op (some 19) none (.mv (.t 18)), .split 19, .op (some 20) (some (19, true)) (.mv (.t 10)), .op (some 21) (some (19, true)) (.bin .lss (.t 20) (.k (AV.int .i64 5))), .op (some 22) none (.pick (.t 19) (.t 21) (.k (AV.bool false)))]) (.cond (.t 22) (.skip) (.exit 0 [1, 2, 3, 9] []))) (.seq (.block 1 (.seq (.region [.op (some 11) none (.mv (.k (AV.str ([120] : List UInt8))))]) (.seq (.seq (.region [.op (some 25) none (.mv (.t 0)), .op (some 26) none (.mv (.t 10)), .op (some 27) none (.iaddr (.t 25) (.t 26) 1 (.str)), .op (some 28) none (.load (.t 27) none (.str)), .op (some 29) none (.call id_keepText [.t 28, .k (AV.int .i64 8)] (.str)), .op (some 30) none (.cvBytes (.t 29)), .op (some 31) none (.len (.t 30) false), .op (some 32) none (.mv (.k (AV.int .i64 0)))]) (.block 2 (.loop [0, 1, 2, 3, 9, 10, 11, 30, 31, 32] [] (law04PlainWords_c0)))) (law04PlainWords_c1)))) (law04PlainWords_c2))
theorem law04PlainWords_L1s_eq (R : Nat → List AV → Option Res) (N : Nat) (K : Ex → St → Option Res) (W : St → Option Res) (l2 : List AV) (s2 : List UInt8) (i2 : Int) (b2 : Bool) (s3 : List UInt8) (i3 : Int) :
    evC gl R N law04PlainWords_c3 (Kseq (fun st' => W (prune [0, 1, 2, 3, 9, 10] [] st')) K) ⟨[(0, .imm (AV.row 1 l2)), (1, .imm (AV.str s2)), (2, .imm (AV.int .i64 i2)), (3, .imm (AV.bool b2)), (9, .imm (AV.str s3)), (10, .imm (AV.int .i64 i3))], []⟩ =
    law04PlainWords_L1s R N (fun (l2 : List AV) (s2 : List UInt8) (i2 : Int) (b2 : Bool) (s3 : List UInt8) (i3 : Int) => W ⟨[(0, .imm (AV.row 1 l2)), (1, .imm (AV.str s2)), (2, .imm (AV.int .i64 i2)), (3, .imm (AV.bool b2)), (9, .imm (AV.str s3)), (10, .imm (AV.int .i64 i3))], []⟩) (fun (s19 : List UInt8) (i14 : Int) (b7 : Bool) (s20 : List UInt8) => K (.exit 0) ⟨[(1, .imm (AV.str s19)), (2, .imm (AV.int .i64 i14)), (3, .imm (AV.bool b7)), (9, .imm (AV.str s20))], []⟩) l2 s2 i2 b2 s3 i3 := by
  refine Eq.trans (b :=
      bif decide ((i3 : Int) < ((l2.length : Nat) : Int)) then
        (bif decide ((i3 : Int) < 5) then
          (need (decide (0 ≤ (i3 : Int))) <|
          (l2[Int.toNat i3]?).bind fun e1 =>
          asS e1 fun s4 =>
          (R id_keepText [AV.str s4, AV.int .i64 8]).bind fun r1 =>
          asS r1.v fun s5 =>
          rounds [0, 1, 2, 3, 9, 10, 11, 30, 31, 32] [] (evC gl R N law04PlainWords_c0) (Kblock 2 (Kthen gl R N law04PlainWords_c1 (Kblock 1 (Kthen gl R N law04PlainWords_c2 (Kseq (fun st' => W (prune [0, 1, 2, 3, 9, 10] [] st')) K))))) N ⟨[(0, .imm (AV.row 1 l2)), (1, .imm (AV.str s2)), (2, .imm (AV.int .i64 i2)), (3, .imm (AV.bool b2)), (9, .imm (AV.str s3)), (10, .imm (AV.int .i64 i3)), (11, .imm (AV.str ([120] : List UInt8))), (30, .imm (AV.bytes s5)), (31, .imm (AV.int .i64 ((s5.length : Nat) : Int))), (32, .imm (AV.int .i64 0))], []⟩)
        else
          (fun (s21 : List UInt8) (i15 : Int) (b8 : Bool) (s22 : List UInt8) => K (.exit 0) ⟨[(1, .imm (AV.str s21)), (2, .imm (AV.int .i64 i15)), (3, .imm (AV.bool b8)), (9, .imm (AV.str s22))], []⟩) s2 i2 b2 s3)
      else
        (fun (s21 : List UInt8) (i15 : Int) (b8 : Bool) (s22 : List UInt8) => K (.exit 0) ⟨[(1, .imm (AV.str s21)), (2, .imm (AV.int .i64 i15)), (3, .imm (AV.bool b8)), (9, .imm (AV.str s22))], []⟩) s2 i2 b2 s3) (by kernel_rfl) ?_
  simp (config := { maxSteps := 100000000 }) only [law04PlainWords_L2_eq]
  kernel_rfl
theorem law04PlainWords_L1_eq (R : Nat → List AV → Option Res) (N : Nat) (K : Ex → St → Option Res) : ∀ (n : Nat) (l2 : List AV) (s2 : List UInt8) (i2 : Int) (b2 : Bool) (s3 : List UInt8) (i3 : Int),
    rounds [0, 1, 2, 3, 9, 10] [] (evC gl R N law04PlainWords_c3) K n ⟨[(0, .imm (AV.row 1 l2)), (1, .imm (AV.str s2)), (2, .imm (AV.int .i64 i2)), (3, .imm (AV.bool b2)), (9, .imm (AV.str s3)), (10, .imm (AV.int .i64 i3))], []⟩ = law04PlainWords_L1 R N (fun (s19 : List UInt8) (i14 : Int) (b7 : Bool) (s20 : List UInt8) => K (.exit 0) ⟨[(1, .imm (AV.str s19)), (2, .imm (AV.int .i64 i14)), (3, .imm (AV.bool b7)), (9, .imm (AV.str s20))], []⟩) n l2 s2 i2 b2 s3 i3
  | 0, _, _, _, _, _, _ => rfl
  | n + 1, l2, s2, i2, b2, s3, i3 => (law04PlainWords_L1s_eq R N K (rounds [0, 1, 2, 3, 9, 10] [] (evC gl R N law04PlainWords_c3) K n) l2 s2 i2 b2 s3 i3).trans
      (congrArg (fun go => law04PlainWords_L1s R N go (fun (s19 : List UInt8) (i14 : Int) (b7 : Bool) (s20 : List UInt8) => K (.exit 0) ⟨[(1, .imm (AV.str s19)), (2, .imm (AV.int .i64 i14)), (3, .imm (AV.bool b7)), (9, .imm (AV.str s20))], []⟩) l2 s2 i2 b2 s3 i3) (funext fun l2 => funext fun s2 => funext fun i2 => funext fun b2 => funext fun s3 => funext fun i3 => law04PlainWords_L1_eq R N K n l2 s2 i2 b2 s3 i3))
def law04PlainWords_c4 : AC := .seq (.seq (.region [.op (some 60) none (.mv (.t 9)), .op (some 61) none (.mv (.t 3)), .op (some 62) none (.call id_plainValid [.t 60, .t 61] (.bool)), .op (some 63) none (.un .not (.t 62))]) (.cond (.t 63) (.seq (.region [.op (some 8) none (.mv (.k (AV.bool false)))]) (.ret [8] [])) (.skip))) (.seq (.region [.op (some 64) none (.mv (.t 1)), .op (some 65) none (.call id_keepText [.t 64, .k (AV.int .i64 10)] (.str)), .op (some 1) none (.mv (.t 65))]) (.seq (.region [.op (some 66) none (.bslice [.k (AV.str ([58, 32] : List UInt8)), .k (AV.str ([32, 35] : List UInt8)), .k (AV.str ([58] : List UInt8)), .k (AV.str ([32, 32] : List UInt8)), .k (AV.str ([32, 32, 32, 35, 32] : List UInt8)), .k (AV.str ([9] : List UInt8))] 1 false), .op (some 67) none (.mv (.t 2)), .op (some 68) none (.call id_keepWithin [.t 67, .k (AV.int .i64 6)] (.int .i64)), .op (some 69) none (.iaddr (.t 66) (.t 68) 1 (.str)), .op (some 70) none (.load (.t 69) none (.str)), .op (some 14) none (.mv (.t 70))]) (.seq (.seq (.region [.op (some 71) none (.mv (.t 14)), .op (some 72) none (.bin .eql (.t 71) (.k (AV.str ([58] : List UInt8)))), .op (some 73) none (.mv (.t 72)), .split 73, .op (some 74) (some (73, false)) (.mv (.t 14)), .op (some 75) (some (73, false)) (.bin .eql (.t 74) (.k (AV.str ([32, 32] : List UInt8)))), .op (some 76) none (.pick (.t 73) (.k (AV.bool true)) (.t 75))]) (.cond (.t 76) (.region [.op (some 1) none (.mv (.k (AV.str ([] : List UInt8))))]) (.skip))) (.seq (.seq (.region [.op (some 77) none (.mv (.t 3)), .op (some 78) none (.mv (.t 77)), .split 78, .op (some 79) (some (78, true)) (.mv (.t 2)), .op (some 80) (some (78, true)) (.bin .rem (.t 79) (.k (AV.int .i64 2))), .op (some 81) (some (78, true)) (.bin .eql (.t 80) (.k (AV.int .i64 1))), .op (some 82) none (.pick (.t 78) (.t 81) (.k (AV.bool false)))]) (.cond (.t 82) (.region [.op (some 83) none (.bslice [.k (AV.str ([44] : List UInt8)), .k (AV.str ([93] : List UInt8)), .k (AV.str ([125] : List UInt8)), .k (AV.str ([123] : List UInt8)), .k (AV.str ([91] : List UInt8))] 1 false), .op (some 84) none (.mv (.t 2)), .op (some 85) none (.call id_keepWithin [.t 84, .k (AV.int .i64 5)] (.int .i64)), .op (some 86) none (.iaddr (.t 83) (.t 85) 1 (.str)), .op (some 87) none (.load (.t 86) none (.str)), .op (some 14) none (.mv (.t 87))]) (.skip))) (.seq (.region [.op (some 88) none (.mv (.t 9)), .op (some 89) none (.mv (.t 14)), .op (some 90) none (.bin .add (.t 88) (.t 89)), .op (some 91) none (.mv (.t 1)), .op (some 92) none (.bin .add (.t 90) (.t 91)), .op (some 93) none (.cvBytes (.t 92)), .op (some 94) none (.mv (.t 3)), .op (some 95) none (.call id_plainLength [.t 93, .t 94] (.int .i64)), .op (some 96) none (.mv (.t 9)), .op (some 97) none (.len (.t 96) true), .op (some 98) none (.bin .eql (.t 95) (.t 97)), .op (some 99) none (.mv (.t 98)), .split 99, .op (some 100) (some (99, true)) (.call id_law04Wakes [] (.bool)), .op (some 101) none (.pick (.t 99) (.t 100) (.k (AV.bool false))), .op (some 8) none (.mv (.t 101))]) (.ret [8] []))))))
def law04PlainWords_c5 : AC := .seq (.region [.op (some 8) none (.mv (.k (AV.bool false)))]) (.seq (.region [.op (some 9) none (.mv (.k (AV.str ([119] : List UInt8))))]) (.seq (.seq (.region [.op (some 10) none (.mv (.k (AV.int .i64 0)))]) (.block 0 (.loop [0, 1, 2, 3, 9, 10] [] (law04PlainWords_c3)))) (law04PlainWords_c4)))
def law04PlainWords : AFunc := ⟨4, 102, [.tmp 8], law04PlainWords_c5⟩
def law04PlainWordsr (R : Nat → List AV → Option Res) (N : Nat) (l1 : List AV) (s1 : List UInt8) (i1 : Int) (b1 : Bool) : Option Res :=
  law04PlainWords_L1 R N
    (fun s23 i16 b9 s24 =>
      (R id_plainValid [AV.str s24, AV.bool b9]).bind fun r2 =>
      asB r2.v fun b10 =>
      bif !b10 then
        (some ⟨AV.bool false, false, []⟩)
      else
        (R id_keepText [AV.str s23, AV.int .i64 10]).bind fun r3 =>
        asS r3.v fun s25 =>
        (R id_keepWithin [AV.int .i64 i16, AV.int .i64 6]).bind fun r4 =>
        asI .i64 r4.v fun i17 =>
        need (decide (0 ≤ (i17 : Int))) <|
        (([AV.str ([58, 32] : List UInt8), AV.str ([32, 35] : List UInt8), AV.str ([58] : List UInt8), AV.str ([32, 32] : List UInt8), AV.str ([32, 32, 32, 35, 32] : List UInt8), AV.str ([9] : List UInt8)] : List AV)[Int.toNat i17]?).bind fun e2 =>
        asS e2 fun s26 =>
        bif s26 == ([58] : List UInt8) then
          (bif b9 then
            (need (!decide (2 = 0)) <|
            bif ((Int.tmod i16 2) : Int) == 1 then
              ((R id_keepWithin [AV.int .i64 i16, AV.int .i64 5]).bind fun r5 =>
              asI .i64 r5.v fun i18 =>
              need (decide (0 ≤ (i18 : Int))) <|
              (([AV.str ([44] : List UInt8), AV.str ([93] : List UInt8), AV.str ([125] : List UInt8), AV.str ([123] : List UInt8), AV.str ([91] : List UInt8)] : List AV)[Int.toNat i18]?).bind fun e3 =>
              asS e3 fun s27 =>
              need (decide (s24.length + s27.length ≤ 9223372036854775807)) <|
              need (decide ((s24 ++ s27).length + (([] : List UInt8) : List UInt8).length ≤ 9223372036854775807)) <|
              (R id_plainLength [AV.bytes ((s24 ++ s27) ++ ([] : List UInt8)), AV.bool b9]).bind fun r6 =>
              asI .i64 r6.v fun i19 =>
              bif (i19 : Int) == ((s24.length : Nat) : Int) then
                ((R id_law04Wakes []).bind fun r7 =>
                asB r7.v fun b11 =>
                some ⟨AV.bool b11, false, []⟩)
              else
                some ⟨AV.bool false, false, []⟩)
            else
              need (decide (s24.length + s26.length ≤ 9223372036854775807)) <|
              need (decide ((s24 ++ s26).length + (([] : List UInt8) : List UInt8).length ≤ 9223372036854775807)) <|
              (R id_plainLength [AV.bytes ((s24 ++ s26) ++ ([] : List UInt8)), AV.bool b9]).bind fun r8 =>
              asI .i64 r8.v fun i20 =>
              bif (i20 : Int) == ((s24.length : Nat) : Int) then
                ((R id_law04Wakes []).bind fun r9 =>
                asB r9.v fun b12 =>
                some ⟨AV.bool b12, false, []⟩)
              else
                some ⟨AV.bool false, false, []⟩)
          else
            need (decide (s24.length + s26.length ≤ 9223372036854775807)) <|
            need (decide ((s24 ++ s26).length + (([] : List UInt8) : List UInt8).length ≤ 9223372036854775807)) <|
            (R id_plainLength [AV.bytes ((s24 ++ s26) ++ ([] : List UInt8)), AV.bool b9]).bind fun r10 =>
            asI .i64 r10.v fun i21 =>
            bif (i21 : Int) == ((s24.length : Nat) : Int) then
              ((R id_law04Wakes []).bind fun r11 =>
              asB r11.v fun b13 =>
              some ⟨AV.bool b13, false, []⟩)
            else
              some ⟨AV.bool false, false, []⟩)
        else
          bif s26 == ([32, 32] : List UInt8) then
            (bif b9 then
              (need (!decide (2 = 0)) <|
              bif ((Int.tmod i16 2) : Int) == 1 then
                ((R id_keepWithin [AV.int .i64 i16, AV.int .i64 5]).bind fun r12 =>
                asI .i64 r12.v fun i22 =>
                need (decide (0 ≤ (i22 : Int))) <|
                (([AV.str ([44] : List UInt8), AV.str ([93] : List UInt8), AV.str ([125] : List UInt8), AV.str ([123] : List UInt8), AV.str ([91] : List UInt8)] : List AV)[Int.toNat i22]?).bind fun e4 =>
                asS e4 fun s28 =>
                need (decide (s24.length + s28.length ≤ 9223372036854775807)) <|
                need (decide ((s24 ++ s28).length + (([] : List UInt8) : List UInt8).length ≤ 9223372036854775807)) <|
                (R id_plainLength [AV.bytes ((s24 ++ s28) ++ ([] : List UInt8)), AV.bool b9]).bind fun r13 =>
                asI .i64 r13.v fun i23 =>
                bif (i23 : Int) == ((s24.length : Nat) : Int) then
                  ((R id_law04Wakes []).bind fun r14 =>
                  asB r14.v fun b14 =>
                  some ⟨AV.bool b14, false, []⟩)
                else
                  some ⟨AV.bool false, false, []⟩)
              else
                need (decide (s24.length + s26.length ≤ 9223372036854775807)) <|
                need (decide ((s24 ++ s26).length + (([] : List UInt8) : List UInt8).length ≤ 9223372036854775807)) <|
                (R id_plainLength [AV.bytes ((s24 ++ s26) ++ ([] : List UInt8)), AV.bool b9]).bind fun r15 =>
                asI .i64 r15.v fun i24 =>
                bif (i24 : Int) == ((s24.length : Nat) : Int) then
                  ((R id_law04Wakes []).bind fun r16 =>
                  asB r16.v fun b15 =>
                  some ⟨AV.bool b15, false, []⟩)
                else
                  some ⟨AV.bool false, false, []⟩)
            else
              need (decide (s24.length + s26.length ≤ 9223372036854775807)) <|
              need (decide ((s24 ++ s26).length + (([] : List UInt8) : List UInt8).length ≤ 9223372036854775807)) <|
              (R id_plainLength [AV.bytes ((s24 ++ s26) ++ ([] : List UInt8)), AV.bool b9]).bind fun r17 =>
              asI .i64 r17.v fun i25 =>
              bif (i25 : Int) == ((s24.length : Nat) : Int) then
                ((R id_law04Wakes []).bind fun r18 =>
                asB r18.v fun b16 =>
                some ⟨AV.bool b16, false, []⟩)
              else
                some ⟨AV.bool false, false, []⟩)
          else
            bif b9 then
              (need (!decide (2 = 0)) <|
              bif ((Int.tmod i16 2) : Int) == 1 then
                ((R id_keepWithin [AV.int .i64 i16, AV.int .i64 5]).bind fun r19 =>
                asI .i64 r19.v fun i26 =>
                need (decide (0 ≤ (i26 : Int))) <|
                (([AV.str ([44] : List UInt8), AV.str ([93] : List UInt8), AV.str ([125] : List UInt8), AV.str ([123] : List UInt8), AV.str ([91] : List UInt8)] : List AV)[Int.toNat i26]?).bind fun e5 =>
                asS e5 fun s29 =>
                need (decide (s24.length + s29.length ≤ 9223372036854775807)) <|
                need (decide ((s24 ++ s29).length + s25.length ≤ 9223372036854775807)) <|
                (R id_plainLength [AV.bytes ((s24 ++ s29) ++ s25), AV.bool b9]).bind fun r20 =>
                asI .i64 r20.v fun i27 =>
                bif (i27 : Int) == ((s24.length : Nat) : Int) then
                  ((R id_law04Wakes []).bind fun r21 =>
                  asB r21.v fun b17 =>
                  some ⟨AV.bool b17, false, []⟩)
                else
                  some ⟨AV.bool false, false, []⟩)
              else
                need (decide (s24.length + s26.length ≤ 9223372036854775807)) <|
                need (decide ((s24 ++ s26).length + s25.length ≤ 9223372036854775807)) <|
                (R id_plainLength [AV.bytes ((s24 ++ s26) ++ s25), AV.bool b9]).bind fun r22 =>
                asI .i64 r22.v fun i28 =>
                bif (i28 : Int) == ((s24.length : Nat) : Int) then
                  ((R id_law04Wakes []).bind fun r23 =>
                  asB r23.v fun b18 =>
                  some ⟨AV.bool b18, false, []⟩)
                else
                  some ⟨AV.bool false, false, []⟩)
            else
              need (decide (s24.length + s26.length ≤ 9223372036854775807)) <|
              need (decide ((s24 ++ s26).length + s25.length ≤ 9223372036854775807)) <|
              (R id_plainLength [AV.bytes ((s24 ++ s26) ++ s25), AV.bool b9]).bind fun r24 =>
              asI .i64 r24.v fun i29 =>
              bif (i29 : Int) == ((s24.length : Nat) : Int) then
                ((R id_law04Wakes []).bind fun r25 =>
                asB r25.v fun b19 =>
                some ⟨AV.bool b19, false, []⟩)
              else
                some ⟨AV.bool false, false, []⟩)
    N l1 s1 i1 b1 ([119] : List UInt8) 0
theorem law04PlainWords_eq (R : Nat → List AV → Option Res) (N : Nat) (l1 : List AV) (s1 : List UInt8) (i1 : Int) (b1 : Bool) : runF gl R N law04PlainWords [AV.row 1 l1, AV.str s1, AV.int .i64 i1, AV.bool b1] = law04PlainWordsr R N l1 s1 i1 b1 := by
  refine Eq.trans (b :=
      rounds [0, 1, 2, 3, 9, 10] [] (evC gl R N law04PlainWords_c3) (Kblock 0 (Kthen gl R N law04PlainWords_c4 (Kret law04PlainWords.rets []))) N ⟨[(0, .imm (AV.row 1 l1)), (1, .imm (AV.str s1)), (2, .imm (AV.int .i64 i1)), (3, .imm (AV.bool b1)), (9, .imm (AV.str ([119] : List UInt8))), (10, .imm (AV.int .i64 0))], []⟩) (by kernel_rfl) ?_
  simp (config := { maxSteps := 100000000 }) only [law04PlainWords_L1_eq]
  kernel_rfl
theorem law04PlainWords_fit : fitF Tryd.prog law04PlainWords Tryd.f3 = true := by
  kernel_rfl

def law04PlainSigns_L1s (R : Nat → List AV → Option Res) (N : Nat) (go : Bool → Bool → Bool → List AV → Int → Int → Option Res) (k0 : Bool → Option Res) (k1 : Bool → Bool → Bool → Option Res) (b4 : Bool) (b5 : Bool) (b6 : Bool) (l1 : List AV) (i4 : Int) (i5 : Int) : Option Res :=
  bif decide ((i5 : Int) < i4) then
    (need (decide (0 ≤ (i5 : Int))) <|
    (l1[Int.toNat i5]?).bind fun e1 =>
    asS e1 fun s1 =>
    need (decide (s1.length + (([97] : List UInt8) : List UInt8).length ≤ 9223372036854775807)) <|
    (R id_plainStarts [AV.bytes (s1 ++ ([97] : List UInt8)), AV.bool b4]).bind fun r5 =>
    asB r5.v fun b7 =>
    bif !b7 then
      (k0 false)
    else
      need (decide (s1.length + (([32, 97] : List UInt8) : List UInt8).length ≤ 9223372036854775807)) <|
      (R id_plainStarts [AV.bytes (s1 ++ ([32, 97] : List UInt8)), AV.bool b4]).bind fun r6 =>
      asB r6.v fun b8 =>
      bif b8 then
        (k0 false)
      else
        (R id_plainStarts [AV.bytes s1, AV.bool b4]).bind fun r7 =>
        asB r7.v fun b9 =>
        bif b9 then
          (k0 false)
        else
          need (decide (s1.length + (([44] : List UInt8) : List UInt8).length ≤ 9223372036854775807)) <|
          (R id_plainStarts [AV.bytes (s1 ++ ([44] : List UInt8)), AV.bool b4]).bind fun r8 =>
          asB r8.v fun b10 =>
          bif !(b10 == (!b4)) then
            (k0 false)
          else
            go b4 b5 b6 l1 i4 (IntKind.i64.wrap (i5 + 1)))
  else
    k1 b4 b5 b6
def law04PlainSigns_L1 (R : Nat → List AV → Option Res) (N : Nat) (k0 : Bool → Option Res) (k1 : Bool → Bool → Bool → Option Res) : Nat → Bool → Bool → Bool → List AV → Int → Int → Option Res
  | 0, _, _, _, _, _, _ => none
  | n + 1, b4, b5, b6, l1, i4, i5 => law04PlainSigns_L1s R N (law04PlainSigns_L1 R N k0 k1 n) k0 k1 b4 b5 b6 l1 i4 i5
def law04PlainSigns_c0 : AC := .seq (.region [.op (some 60) none (.bin .lss (.t 59) (.t 58))]) (.seq (.cond (.t 60) (.skip) (.exit 0 [1, 7, 8] [])) (.seq (.block 1 (.seq (.region [.op (some 61) none (.iaddr (.t 57) (.t 59) 1 (.str)), .op (some 62) none (.load (.t 61) none (.str)), .op (some 10) none (.mv (.t 62))]) (.seq (.region [.op (some 63) none (.mv (.t 10)), .op (some 64) none (.bin .add (.t 63) (.k (AV.str ([97] : List UInt8)))), .op (some 65) none (.cvBytes (.t 64)), .op (some 66) none (.mv (.t 1)), .op (some 67) none (.call id_plainStarts [.t 65, .t 66] (.bool)), .op (some 68) none (.un .not (.t 67)), .op (some 69) none (.mv (.t 68)), .split 69, .op (some 70) (some (69, false)) (.mv (.t 10)), .op (some 71) (some (69, false)) (.bin .add (.t 70) (.k (AV.str ([32, 97] : List UInt8)))), .op (some 72) (some (69, false)) (.cvBytes (.t 71)), .op (some 73) (some (69, false)) (.mv (.t 1)), .op (some 74) (some (69, false)) (.call id_plainStarts [.t 72, .t 73] (.bool)), .op (some 75) none (.pick (.t 69) (.k (AV.bool true)) (.t 74)), .op (some 76) none (.mv (.t 75)), .split 76, .op (some 77) (some (76, false)) (.mv (.t 10)), .op (some 78) (some (76, false)) (.cvBytes (.t 77)), .op (some 79) (some (76, false)) (.mv (.t 1)), .op (some 80) (some (76, false)) (.call id_plainStarts [.t 78, .t 79] (.bool)), .op (some 81) none (.pick (.t 76) (.k (AV.bool true)) (.t 80)), .op (some 82) none (.mv (.t 81)), .split 82, .op (some 83) (some (82, false)) (.mv (.t 10)), .op (some 84) (some (82, false)) (.bin .add (.t 83) (.k (AV.str ([44] : List UInt8)))), .op (some 85) (some (82, false)) (.cvBytes (.t 84)), .op (some 86) (some (82, false)) (.mv (.t 1)), .op (some 87) (some (82, false)) (.call id_plainStarts [.t 85, .t 86] (.bool)), .op (some 88) (some (82, false)) (.mv (.t 1)), .op (some 89) (some (82, false)) (.un .not (.t 88)), .op (some 90) (some (82, false)) (.binB .neq (.t 87) (.t 89)), .op (some 91) none (.pick (.t 82) (.k (AV.bool true)) (.t 90))]) (.cond (.t 91) (.seq (.region [.op (some 4) none (.mv (.k (AV.bool false)))]) (.ret [4] [])) (.skip))))) (.region [.op (some 92) none (.bin .add (.t 59) (.k (AV.int .i64 1))), .op (some 59) none (.mv (.t 92))])))
theorem law04PlainSigns_L1s_eq (R : Nat → List AV → Option Res) (N : Nat) (K : Ex → St → Option Res) (W : St → Option Res) (b4 : Bool) (b5 : Bool) (b6 : Bool) (l1 : List AV) (i4 : Int) (i5 : Int) :
    evC gl R N law04PlainSigns_c0 (Kseq (fun st' => W (prune [1, 7, 8, 57, 58, 59] [] st')) K) ⟨[(1, .imm (AV.bool b4)), (7, .imm (AV.bool b5)), (8, .imm (AV.bool b6)), (57, .imm (AV.row 1 l1)), (58, .imm (AV.int .i64 i4)), (59, .imm (AV.int .i64 i5))], []⟩ =
    law04PlainSigns_L1s R N (fun (b4 : Bool) (b5 : Bool) (b6 : Bool) (l1 : List AV) (i4 : Int) (i5 : Int) => W ⟨[(1, .imm (AV.bool b4)), (7, .imm (AV.bool b5)), (8, .imm (AV.bool b6)), (57, .imm (AV.row 1 l1)), (58, .imm (AV.int .i64 i4)), (59, .imm (AV.int .i64 i5))], []⟩) (fun (b11 : Bool) => K .ret ⟨[(4, .imm (AV.bool b11))], []⟩) (fun (b12 : Bool) (b13 : Bool) (b14 : Bool) => K (.exit 0) ⟨[(1, .imm (AV.bool b12)), (7, .imm (AV.bool b13)), (8, .imm (AV.bool b14))], []⟩) b4 b5 b6 l1 i4 i5 := by
  kernel_rfl
theorem law04PlainSigns_L1_eq (R : Nat → List AV → Option Res) (N : Nat) (K : Ex → St → Option Res) : ∀ (n : Nat) (b4 : Bool) (b5 : Bool) (b6 : Bool) (l1 : List AV) (i4 : Int) (i5 : Int),
    rounds [1, 7, 8, 57, 58, 59] [] (evC gl R N law04PlainSigns_c0) K n ⟨[(1, .imm (AV.bool b4)), (7, .imm (AV.bool b5)), (8, .imm (AV.bool b6)), (57, .imm (AV.row 1 l1)), (58, .imm (AV.int .i64 i4)), (59, .imm (AV.int .i64 i5))], []⟩ = law04PlainSigns_L1 R N (fun (b11 : Bool) => K .ret ⟨[(4, .imm (AV.bool b11))], []⟩) (fun (b12 : Bool) (b13 : Bool) (b14 : Bool) => K (.exit 0) ⟨[(1, .imm (AV.bool b12)), (7, .imm (AV.bool b13)), (8, .imm (AV.bool b14))], []⟩) n b4 b5 b6 l1 i4 i5
  | 0, _, _, _, _, _, _ => rfl
  | n + 1, b4, b5, b6, l1, i4, i5 => (law04PlainSigns_L1s_eq R N K (rounds [1, 7, 8, 57, 58, 59] [] (evC gl R N law04PlainSigns_c0) K n) b4 b5 b6 l1 i4 i5).trans
      (congrArg (fun go => law04PlainSigns_L1s R N go (fun (b11 : Bool) => K .ret ⟨[(4, .imm (AV.bool b11))], []⟩) (fun (b12 : Bool) (b13 : Bool) (b14 : Bool) => K (.exit 0) ⟨[(1, .imm (AV.bool b12)), (7, .imm (AV.bool b13)), (8, .imm (AV.bool b14))], []⟩) b4 b5 b6 l1 i4 i5) (funext fun b4 => funext fun b5 => funext fun b6 => funext fun l1 => funext fun i4 => funext fun i5 => law04PlainSigns_L1_eq R N K n b4 b5 b6 l1 i4 i5))
def law04PlainSigns_c1 : AC := .seq (.region [.op (some 93) none (.mv (.t 7)), .op (some 94) none (.mv (.t 8)), .op (some 95) none (.binB .neq (.t 93) (.t 94)), .op (some 96) none (.mv (.t 95)), .split 96, .op (some 97) (some (96, true)) (.mv (.t 1)), .op (some 98) (some (96, true)) (.call id_plainStarts [.k (AV.bytes []), .t 97] (.bool)), .op (some 99) (some (96, true)) (.un .not (.t 98)), .op (some 100) none (.pick (.t 96) (.t 99) (.k (AV.bool false))), .op (some 101) none (.mv (.t 100)), .split 101, .op (some 102) (some (101, true)) (.bsliceOwn 102 [.k (AV.int .u8 32), .k (AV.int .u8 97)] 1 .any true), .op (some 103) (some (101, true)) (.cvSame (.t 102)), .op (some 104) (some (101, true)) (.mv (.t 1)), .op (some 105) (some (101, true)) (.call id_plainStarts [.t 103, .t 104] (.bool)), .op (some 106) (some (101, true)) (.un .not (.t 105)), .op (some 107) none (.pick (.t 101) (.t 106) (.k (AV.bool false))), .op (some 108) none (.mv (.t 107)), .split 108, .op (some 109) (some (108, true)) (.bsliceOwn 109 [.k (AV.int .u8 45), .k (AV.int .u8 45), .k (AV.int .u8 45)] 1 .any true), .op (some 110) (some (108, true)) (.cvSame (.t 109)), .op (some 111) (some (108, true)) (.mv (.t 1)), .op (some 112) (some (108, true)) (.call id_plainStarts [.t 110, .t 111] (.bool)), .op (some 113) (some (108, true)) (.un .not (.t 112)), .op (some 114) none (.pick (.t 108) (.t 113) (.k (AV.bool false))), .op (some 115) none (.mv (.t 114)), .split 115, .op (some 116) (some (115, true)) (.bsliceOwn 116 [.k (AV.int .u8 46), .k (AV.int .u8 46), .k (AV.int .u8 46), .k (AV.int .u8 97)] 1 .any true), .op (some 117) (some (115, true)) (.cvSame (.t 116)), .op (some 118) (some (115, true)) (.mv (.t 1)), .op (some 119) (some (115, true)) (.call id_plainStarts [.t 117, .t 118] (.bool)), .op (some 120) (some (115, true)) (.un .not (.t 119)), .op (some 121) none (.pick (.t 115) (.t 120) (.k (AV.bool false))), .op (some 122) none (.mv (.t 121)), .split 122, .op (some 123) (some (122, true)) (.bsliceOwn 123 [.k (AV.int .u8 45), .k (AV.int .u8 45), .k (AV.int .u8 97)] 1 .any true), .op (some 124) (some (122, true)) (.cvSame (.t 123)), .op (some 125) (some (122, true)) (.mv (.t 1)), .op (some 126) (some (122, true)) (.call id_plainStarts [.t 124, .t 125] (.bool)), .op (some 127) none (.pick (.t 122) (.t 126) (.k (AV.bool false))), .op (some 128) none (.mv (.t 127)), .split 128, .op (some 129) (some (128, true)) (.call id_law04Wakes [] (.bool)), .op (some 130) none (.pick (.t 128) (.t 129) (.k (AV.bool false))), .op (some 4) none (.mv (.t 130))]) (.ret [4] [])
def law04PlainSigns_c2 : AC := .seq (.region [.op (some 4) none (.mv (.k (AV.bool false)))]) (.seq (.region [.op (some 5) none (.mv (.k (AV.str ([44, 91, 93, 123, 125, 35, 38, 42, 33, 124, 62, 39, 34, 37, 64, 96] : List UInt8))))]) (.seq (.region [.op (some 11) none (.mv (.t 5)), .op (some 12) none (.mv (.t 0)), .op (some 13) none (.mv (.t 5)), .op (some 14) none (.len (.t 13) true), .op (some 15) none (.call id_keepWithin [.t 12, .t 14] (.int .i64)), .op (some 16) none (.sliceS (.t 11) (some (.t 15)) none), .op (some 17) none (.sliceS (.t 16) none (some (.k (AV.int .i64 1)))), .op (some 6) none (.mv (.t 17))]) (.seq (.seq (.region [.op (some 18) none (.mv (.t 6)), .op (some 19) none (.bin .add (.t 18) (.k (AV.str ([97] : List UInt8)))), .op (some 20) none (.cvBytes (.t 19)), .op (some 21) none (.mv (.t 1)), .op (some 22) none (.call id_plainStarts [.t 20, .t 21] (.bool)), .op (some 23) none (.mv (.t 22)), .split 23, .op (some 24) (some (23, false)) (.mv (.t 6)), .op (some 25) (some (23, false)) (.bin .add (.t 24) (.k (AV.str ([97] : List UInt8)))), .op (some 26) (some (23, false)) (.cvBytes (.t 25)), .op (some 27) (some (23, false)) (.mv (.t 1)), .op (some 28) (some (23, false)) (.call id_plainLength [.t 26, .t 27] (.int .i64)), .op (some 29) (some (23, false)) (.bin .neq (.t 28) (.k (AV.int .i64 0))), .op (some 30) none (.pick (.t 23) (.k (AV.bool true)) (.t 29))]) (.cond (.t 30) (.seq (.region [.op (some 4) none (.mv (.k (AV.bool false)))]) (.ret [4] [])) (.skip))) (.seq (.region [.op (some 31) none (.mv (.t 6)), .op (some 32) none (.bin .add (.k (AV.str ([97] : List UInt8))) (.t 31)), .op (some 33) none (.bin .add (.t 32) (.k (AV.str ([98] : List UInt8)))), .op (some 34) none (.mv (.t 1)), .op (some 35) none (.call id_plainValid [.t 33, .t 34] (.bool)), .op (some 7) none (.mv (.t 35))]) (.seq (.region [.op (some 36) none (.mv (.t 1)), .op (some 37) none (.mv (.t 36)), .split 37, .op (some 38) (some (37, true)) (.mv (.t 6)), .op (some 39) (some (37, true)) (.bin .eql (.t 38) (.k (AV.str ([44] : List UInt8)))), .op (some 40) (some (37, true)) (.mv (.t 39)), .split 40, .op (some 41) (some (40, false)) (.mv (.t 6)), .op (some 42) (some (40, false)) (.bin .eql (.t 41) (.k (AV.str ([91] : List UInt8)))), .op (some 43) (some (37, true)) (.pick (.t 40) (.k (AV.bool true)) (.t 42)), .op (some 44) (some (37, true)) (.mv (.t 43)), .split 44, .op (some 45) (some (44, false)) (.mv (.t 6)), .op (some 46) (some (44, false)) (.bin .eql (.t 45) (.k (AV.str ([93] : List UInt8)))), .op (some 47) (some (37, true)) (.pick (.t 44) (.k (AV.bool true)) (.t 46)), .op (some 48) (some (37, true)) (.mv (.t 47)), .split 48, .op (some 49) (some (48, false)) (.mv (.t 6)), .op (some 50) (some (48, false)) (.bin .eql (.t 49) (.k (AV.str ([123] : List UInt8)))), .op (some 51) (some (37, true)) (.pick (.t 48) (.k (AV.bool true)) (.t 50)), .op (some 52) (some (37, true)) (.mv (.t 51)), .split 52, .op (some 53) (some (52, false)) (.mv (.t 6)), .op (some 54) (some (52, false)) (.bin .eql (.t 53) (.k (AV.str ([125] : List UInt8)))), .op (some 55) (some (37, true)) (.pick (.t 52) (.k (AV.bool true)) (.t 54)), .op (some 56) none (.pick (.t 37) (.t 55) (.k (AV.bool false))), .op (some 8) none (.mv (.t 56))]) (.seq (.seq (.region [.op (some 57) none (.bslice [.k (AV.str ([45] : List UInt8)), .k (AV.str ([63] : List UInt8)), .k (AV.str ([58] : List UInt8))] 1 false), .op (some 58) none (.len (.t 57) false), .op (some 59) none (.mv (.k (AV.int .i64 0)))]) (.block 0 (.loop [1, 7, 8, 57, 58, 59] [] (law04PlainSigns_c0)))) (law04PlainSigns_c1)))))))
def law04PlainSigns : AFunc := ⟨2, 131, [.tmp 4], law04PlainSigns_c2⟩
def law04PlainSignsr (R : Nat → List AV → Option Res) (N : Nat) (i1 : Int) (b1 : Bool) : Option Res :=
  (R id_keepWithin [AV.int .i64 i1, AV.int .i64 (((([44, 91, 93, 123, 125, 35, 38, 42, 33, 124, 62, 39, 34, 37, 64, 96] : List UInt8) : List UInt8).length : Nat) : Int)]).bind fun r1 =>
  asI .i64 r1.v fun i2 =>
  need (decide (0 ≤ (i2 : Int)) && decide ((i2 : Int) ≤ (((([44, 91, 93, 123, 125, 35, 38, 42, 33, 124, 62, 39, 34, 37, 64, 96] : List UInt8) : List UInt8).length : Nat) : Int))) <|
  need (decide (0 ≤ (1 : Int)) && decide ((1 : Int) ≤ ((((([44, 91, 93, 123, 125, 35, 38, 42, 33, 124, 62, 39, 34, 37, 64, 96] : List UInt8).take ((([44, 91, 93, 123, 125, 35, 38, 42, 33, 124, 62, 39, 34, 37, 64, 96] : List UInt8) : List UInt8).length)).drop (Int.toNat i2) : List UInt8).length : Nat) : Int))) <|
  need (decide (((((([44, 91, 93, 123, 125, 35, 38, 42, 33, 124, 62, 39, 34, 37, 64, 96] : List UInt8).take ((([44, 91, 93, 123, 125, 35, 38, 42, 33, 124, 62, 39, 34, 37, 64, 96] : List UInt8) : List UInt8).length)).drop (Int.toNat i2)).take (Int.toNat 1)).drop 0 : List UInt8).length + (([97] : List UInt8) : List UInt8).length ≤ 9223372036854775807)) <|
  (R id_plainStarts [AV.bytes (((((([44, 91, 93, 123, 125, 35, 38, 42, 33, 124, 62, 39, 34, 37, 64, 96] : List UInt8).take ((([44, 91, 93, 123, 125, 35, 38, 42, 33, 124, 62, 39, 34, 37, 64, 96] : List UInt8) : List UInt8).length)).drop (Int.toNat i2)).take (Int.toNat 1)).drop 0) ++ ([97] : List UInt8)), AV.bool b1]).bind fun r2 =>
  asB r2.v fun b2 =>
  bif b2 then
    (some ⟨AV.bool false, false, []⟩)
  else
    need (decide (((((([44, 91, 93, 123, 125, 35, 38, 42, 33, 124, 62, 39, 34, 37, 64, 96] : List UInt8).take ((([44, 91, 93, 123, 125, 35, 38, 42, 33, 124, 62, 39, 34, 37, 64, 96] : List UInt8) : List UInt8).length)).drop (Int.toNat i2)).take (Int.toNat 1)).drop 0 : List UInt8).length + (([97] : List UInt8) : List UInt8).length ≤ 9223372036854775807)) <|
    (R id_plainLength [AV.bytes (((((([44, 91, 93, 123, 125, 35, 38, 42, 33, 124, 62, 39, 34, 37, 64, 96] : List UInt8).take ((([44, 91, 93, 123, 125, 35, 38, 42, 33, 124, 62, 39, 34, 37, 64, 96] : List UInt8) : List UInt8).length)).drop (Int.toNat i2)).take (Int.toNat 1)).drop 0) ++ ([97] : List UInt8)), AV.bool b1]).bind fun r3 =>
    asI .i64 r3.v fun i3 =>
    bif (i3 : Int) != 0 then
      (some ⟨AV.bool false, false, []⟩)
    else
      need (decide ((([97] : List UInt8) : List UInt8).length + ((((([44, 91, 93, 123, 125, 35, 38, 42, 33, 124, 62, 39, 34, 37, 64, 96] : List UInt8).take ((([44, 91, 93, 123, 125, 35, 38, 42, 33, 124, 62, 39, 34, 37, 64, 96] : List UInt8) : List UInt8).length)).drop (Int.toNat i2)).take (Int.toNat 1)).drop 0 : List UInt8).length ≤ 9223372036854775807)) <|
      need (decide ((([97] : List UInt8) ++ ((((([44, 91, 93, 123, 125, 35, 38, 42, 33, 124, 62, 39, 34, 37, 64, 96] : List UInt8).take ((([44, 91, 93, 123, 125, 35, 38, 42, 33, 124, 62, 39, 34, 37, 64, 96] : List UInt8) : List UInt8).length)).drop (Int.toNat i2)).take (Int.toNat 1)).drop 0) : List UInt8).length + (([98] : List UInt8) : List UInt8).length ≤ 9223372036854775807)) <|
      (R id_plainValid [AV.str ((([97] : List UInt8) ++ ((((([44, 91, 93, 123, 125, 35, 38, 42, 33, 124, 62, 39, 34, 37, 64, 96] : List UInt8).take ((([44, 91, 93, 123, 125, 35, 38, 42, 33, 124, 62, 39, 34, 37, 64, 96] : List UInt8) : List UInt8).length)).drop (Int.toNat i2)).take (Int.toNat 1)).drop 0)) ++ ([98] : List UInt8)), AV.bool b1]).bind fun r4 =>
      asB r4.v fun b3 =>
      bif b1 then
        (bif ((((([44, 91, 93, 123, 125, 35, 38, 42, 33, 124, 62, 39, 34, 37, 64, 96] : List UInt8).take ((([44, 91, 93, 123, 125, 35, 38, 42, 33, 124, 62, 39, 34, 37, 64, 96] : List UInt8) : List UInt8).length)).drop (Int.toNat i2)).take (Int.toNat 1)).drop 0) == ([44] : List UInt8) then
          (law04PlainSigns_L1 R N
            (fun b19 =>
              some ⟨AV.bool b19, false, []⟩)
            (fun b20 b21 b22 =>
              bif !(b21 == b22) then
                ((R id_plainStarts [AV.bytes [], AV.bool b20]).bind fun r9 =>
                asB r9.v fun b23 =>
                bif !b23 then
                  ((R id_plainStarts [AV.bytes ((([32, 97] : List UInt8).drop 0).take 2), AV.bool b20]).bind fun r10 =>
                  asB r10.v fun b24 =>
                  bif !b24 then
                    ((R id_plainStarts [AV.bytes ((([45, 45, 45] : List UInt8).drop 0).take 3), AV.bool b20]).bind fun r11 =>
                    asB r11.v fun b25 =>
                    bif !b25 then
                      ((R id_plainStarts [AV.bytes ((([46, 46, 46, 97] : List UInt8).drop 0).take 4), AV.bool b20]).bind fun r12 =>
                      asB r12.v fun b26 =>
                      bif !b26 then
                        ((R id_plainStarts [AV.bytes ((([45, 45, 97] : List UInt8).drop 0).take 3), AV.bool b20]).bind fun r13 =>
                        asB r13.v fun b27 =>
                        bif b27 then
                          ((R id_law04Wakes []).bind fun r14 =>
                          asB r14.v fun b28 =>
                          some ⟨AV.bool b28, false, []⟩)
                        else
                          some ⟨AV.bool false, false, []⟩)
                      else
                        some ⟨AV.bool false, false, []⟩)
                    else
                      some ⟨AV.bool false, false, []⟩)
                  else
                    some ⟨AV.bool false, false, []⟩)
                else
                  some ⟨AV.bool false, false, []⟩)
              else
                some ⟨AV.bool false, false, []⟩)
            N b1 b3 true [AV.str ([45] : List UInt8), AV.str ([63] : List UInt8), AV.str ([58] : List UInt8)] (([AV.str ([45] : List UInt8), AV.str ([63] : List UInt8), AV.str ([58] : List UInt8)].length : Nat) : Int) 0)
        else
          bif ((((([44, 91, 93, 123, 125, 35, 38, 42, 33, 124, 62, 39, 34, 37, 64, 96] : List UInt8).take ((([44, 91, 93, 123, 125, 35, 38, 42, 33, 124, 62, 39, 34, 37, 64, 96] : List UInt8) : List UInt8).length)).drop (Int.toNat i2)).take (Int.toNat 1)).drop 0) == ([91] : List UInt8) then
            (law04PlainSigns_L1 R N
              (fun b29 =>
                some ⟨AV.bool b29, false, []⟩)
              (fun b30 b31 b32 =>
                bif !(b31 == b32) then
                  ((R id_plainStarts [AV.bytes [], AV.bool b30]).bind fun r15 =>
                  asB r15.v fun b33 =>
                  bif !b33 then
                    ((R id_plainStarts [AV.bytes ((([32, 97] : List UInt8).drop 0).take 2), AV.bool b30]).bind fun r16 =>
                    asB r16.v fun b34 =>
                    bif !b34 then
                      ((R id_plainStarts [AV.bytes ((([45, 45, 45] : List UInt8).drop 0).take 3), AV.bool b30]).bind fun r17 =>
                      asB r17.v fun b35 =>
                      bif !b35 then
                        ((R id_plainStarts [AV.bytes ((([46, 46, 46, 97] : List UInt8).drop 0).take 4), AV.bool b30]).bind fun r18 =>
                        asB r18.v fun b36 =>
                        bif !b36 then
                          ((R id_plainStarts [AV.bytes ((([45, 45, 97] : List UInt8).drop 0).take 3), AV.bool b30]).bind fun r19 =>
                          asB r19.v fun b37 =>
                          bif b37 then
                            ((R id_law04Wakes []).bind fun r20 =>
                            asB r20.v fun b38 =>
                            some ⟨AV.bool b38, false, []⟩)
                          else
                            some ⟨AV.bool false, false, []⟩)
                        else
                          some ⟨AV.bool false, false, []⟩)
                      else
                        some ⟨AV.bool false, false, []⟩)
                    else
                      some ⟨AV.bool false, false, []⟩)
                  else
                    some ⟨AV.bool false, false, []⟩)
                else
                  some ⟨AV.bool false, false, []⟩)
              N b1 b3 true [AV.str ([45] : List UInt8), AV.str ([63] : List UInt8), AV.str ([58] : List UInt8)] (([AV.str ([45] : List UInt8), AV.str ([63] : List UInt8), AV.str ([58] : List UInt8)].length : Nat) : Int) 0)
          else
            bif ((((([44, 91, 93, 123, 125, 35, 38, 42, 33, 124, 62, 39, 34, 37, 64, 96] : List UInt8).take ((([44, 91, 93, 123, 125, 35, 38, 42, 33, 124, 62, 39, 34, 37, 64, 96] : List UInt8) : List UInt8).length)).drop (Int.toNat i2)).take (Int.toNat 1)).drop 0) == ([93] : List UInt8) then
              (law04PlainSigns_L1 R N
                (fun b39 =>
                  some ⟨AV.bool b39, false, []⟩)
                (fun b40 b41 b42 =>
                  bif !(b41 == b42) then
                    ((R id_plainStarts [AV.bytes [], AV.bool b40]).bind fun r21 =>
                    asB r21.v fun b43 =>
                    bif !b43 then
                      ((R id_plainStarts [AV.bytes ((([32, 97] : List UInt8).drop 0).take 2), AV.bool b40]).bind fun r22 =>
                      asB r22.v fun b44 =>
                      bif !b44 then
                        ((R id_plainStarts [AV.bytes ((([45, 45, 45] : List UInt8).drop 0).take 3), AV.bool b40]).bind fun r23 =>
                        asB r23.v fun b45 =>
                        bif !b45 then
                          ((R id_plainStarts [AV.bytes ((([46, 46, 46, 97] : List UInt8).drop 0).take 4), AV.bool b40]).bind fun r24 =>
                          asB r24.v fun b46 =>
                          bif !b46 then
                            ((R id_plainStarts [AV.bytes ((([45, 45, 97] : List UInt8).drop 0).take 3), AV.bool b40]).bind fun r25 =>
                            asB r25.v fun b47 =>
                            bif b47 then
                              ((R id_law04Wakes []).bind fun r26 =>
                              asB r26.v fun b48 =>
                              some ⟨AV.bool b48, false, []⟩)
                            else
                              some ⟨AV.bool false, false, []⟩)
                          else
                            some ⟨AV.bool false, false, []⟩)
                        else
                          some ⟨AV.bool false, false, []⟩)
                      else
                        some ⟨AV.bool false, false, []⟩)
                    else
                      some ⟨AV.bool false, false, []⟩)
                  else
                    some ⟨AV.bool false, false, []⟩)
                N b1 b3 true [AV.str ([45] : List UInt8), AV.str ([63] : List UInt8), AV.str ([58] : List UInt8)] (([AV.str ([45] : List UInt8), AV.str ([63] : List UInt8), AV.str ([58] : List UInt8)].length : Nat) : Int) 0)
            else
              bif ((((([44, 91, 93, 123, 125, 35, 38, 42, 33, 124, 62, 39, 34, 37, 64, 96] : List UInt8).take ((([44, 91, 93, 123, 125, 35, 38, 42, 33, 124, 62, 39, 34, 37, 64, 96] : List UInt8) : List UInt8).length)).drop (Int.toNat i2)).take (Int.toNat 1)).drop 0) == ([123] : List UInt8) then
                (law04PlainSigns_L1 R N
                  (fun b49 =>
                    some ⟨AV.bool b49, false, []⟩)
                  (fun b50 b51 b52 =>
                    bif !(b51 == b52) then
                      ((R id_plainStarts [AV.bytes [], AV.bool b50]).bind fun r27 =>
                      asB r27.v fun b53 =>
                      bif !b53 then
                        ((R id_plainStarts [AV.bytes ((([32, 97] : List UInt8).drop 0).take 2), AV.bool b50]).bind fun r28 =>
                        asB r28.v fun b54 =>
                        bif !b54 then
                          ((R id_plainStarts [AV.bytes ((([45, 45, 45] : List UInt8).drop 0).take 3), AV.bool b50]).bind fun r29 =>
                          asB r29.v fun b55 =>
                          bif !b55 then
                            ((R id_plainStarts [AV.bytes ((([46, 46, 46, 97] : List UInt8).drop 0).take 4), AV.bool b50]).bind fun r30 =>
                            asB r30.v fun b56 =>
                            bif !b56 then
                              ((R id_plainStarts [AV.bytes ((([45, 45, 97] : List UInt8).drop 0).take 3), AV.bool b50]).bind fun r31 =>
                              asB r31.v fun b57 =>
                              bif b57 then
                                ((R id_law04Wakes []).bind fun r32 =>
                                asB r32.v fun b58 =>
                                some ⟨AV.bool b58, false, []⟩)
                              else
                                some ⟨AV.bool false, false, []⟩)
                            else
                              some ⟨AV.bool false, false, []⟩)
                          else
                            some ⟨AV.bool false, false, []⟩)
                        else
                          some ⟨AV.bool false, false, []⟩)
                      else
                        some ⟨AV.bool false, false, []⟩)
                    else
                      some ⟨AV.bool false, false, []⟩)
                  N b1 b3 true [AV.str ([45] : List UInt8), AV.str ([63] : List UInt8), AV.str ([58] : List UInt8)] (([AV.str ([45] : List UInt8), AV.str ([63] : List UInt8), AV.str ([58] : List UInt8)].length : Nat) : Int) 0)
              else
                law04PlainSigns_L1 R N
                  (fun b59 =>
                    some ⟨AV.bool b59, false, []⟩)
                  (fun b60 b61 b62 =>
                    bif !(b61 == b62) then
                      ((R id_plainStarts [AV.bytes [], AV.bool b60]).bind fun r33 =>
                      asB r33.v fun b63 =>
                      bif !b63 then
                        ((R id_plainStarts [AV.bytes ((([32, 97] : List UInt8).drop 0).take 2), AV.bool b60]).bind fun r34 =>
                        asB r34.v fun b64 =>
                        bif !b64 then
                          ((R id_plainStarts [AV.bytes ((([45, 45, 45] : List UInt8).drop 0).take 3), AV.bool b60]).bind fun r35 =>
                          asB r35.v fun b65 =>
                          bif !b65 then
                            ((R id_plainStarts [AV.bytes ((([46, 46, 46, 97] : List UInt8).drop 0).take 4), AV.bool b60]).bind fun r36 =>
                            asB r36.v fun b66 =>
                            bif !b66 then
                              ((R id_plainStarts [AV.bytes ((([45, 45, 97] : List UInt8).drop 0).take 3), AV.bool b60]).bind fun r37 =>
                              asB r37.v fun b67 =>
                              bif b67 then
                                ((R id_law04Wakes []).bind fun r38 =>
                                asB r38.v fun b68 =>
                                some ⟨AV.bool b68, false, []⟩)
                              else
                                some ⟨AV.bool false, false, []⟩)
                            else
                              some ⟨AV.bool false, false, []⟩)
                          else
                            some ⟨AV.bool false, false, []⟩)
                        else
                          some ⟨AV.bool false, false, []⟩)
                      else
                        some ⟨AV.bool false, false, []⟩)
                    else
                      some ⟨AV.bool false, false, []⟩)
                  N b1 b3 (((((([44, 91, 93, 123, 125, 35, 38, 42, 33, 124, 62, 39, 34, 37, 64, 96] : List UInt8).take ((([44, 91, 93, 123, 125, 35, 38, 42, 33, 124, 62, 39, 34, 37, 64, 96] : List UInt8) : List UInt8).length)).drop (Int.toNat i2)).take (Int.toNat 1)).drop 0) == ([125] : List UInt8)) [AV.str ([45] : List UInt8), AV.str ([63] : List UInt8), AV.str ([58] : List UInt8)] (([AV.str ([45] : List UInt8), AV.str ([63] : List UInt8), AV.str ([58] : List UInt8)].length : Nat) : Int) 0)
      else
        law04PlainSigns_L1 R N
          (fun b69 =>
            some ⟨AV.bool b69, false, []⟩)
          (fun b70 b71 b72 =>
            bif !(b71 == b72) then
              ((R id_plainStarts [AV.bytes [], AV.bool b70]).bind fun r39 =>
              asB r39.v fun b73 =>
              bif !b73 then
                ((R id_plainStarts [AV.bytes ((([32, 97] : List UInt8).drop 0).take 2), AV.bool b70]).bind fun r40 =>
                asB r40.v fun b74 =>
                bif !b74 then
                  ((R id_plainStarts [AV.bytes ((([45, 45, 45] : List UInt8).drop 0).take 3), AV.bool b70]).bind fun r41 =>
                  asB r41.v fun b75 =>
                  bif !b75 then
                    ((R id_plainStarts [AV.bytes ((([46, 46, 46, 97] : List UInt8).drop 0).take 4), AV.bool b70]).bind fun r42 =>
                    asB r42.v fun b76 =>
                    bif !b76 then
                      ((R id_plainStarts [AV.bytes ((([45, 45, 97] : List UInt8).drop 0).take 3), AV.bool b70]).bind fun r43 =>
                      asB r43.v fun b77 =>
                      bif b77 then
                        ((R id_law04Wakes []).bind fun r44 =>
                        asB r44.v fun b78 =>
                        some ⟨AV.bool b78, false, []⟩)
                      else
                        some ⟨AV.bool false, false, []⟩)
                    else
                      some ⟨AV.bool false, false, []⟩)
                  else
                    some ⟨AV.bool false, false, []⟩)
                else
                  some ⟨AV.bool false, false, []⟩)
              else
                some ⟨AV.bool false, false, []⟩)
            else
              some ⟨AV.bool false, false, []⟩)
          N b1 b3 false [AV.str ([45] : List UInt8), AV.str ([63] : List UInt8), AV.str ([58] : List UInt8)] (([AV.str ([45] : List UInt8), AV.str ([63] : List UInt8), AV.str ([58] : List UInt8)].length : Nat) : Int) 0
theorem law04PlainSigns_eq (R : Nat → List AV → Option Res) (N : Nat) (i1 : Int) (b1 : Bool) : runF gl R N law04PlainSigns [AV.int .i64 i1, AV.bool b1] = law04PlainSignsr R N i1 b1 := by
  refine Eq.trans (b :=
      (R id_keepWithin [AV.int .i64 i1, AV.int .i64 (((([44, 91, 93, 123, 125, 35, 38, 42, 33, 124, 62, 39, 34, 37, 64, 96] : List UInt8) : List UInt8).length : Nat) : Int)]).bind fun r1 =>
      asI .i64 r1.v fun i2 =>
      need (decide (0 ≤ (i2 : Int)) && decide ((i2 : Int) ≤ (((([44, 91, 93, 123, 125, 35, 38, 42, 33, 124, 62, 39, 34, 37, 64, 96] : List UInt8) : List UInt8).length : Nat) : Int))) <|
      need (decide (0 ≤ (1 : Int)) && decide ((1 : Int) ≤ ((((([44, 91, 93, 123, 125, 35, 38, 42, 33, 124, 62, 39, 34, 37, 64, 96] : List UInt8).take ((([44, 91, 93, 123, 125, 35, 38, 42, 33, 124, 62, 39, 34, 37, 64, 96] : List UInt8) : List UInt8).length)).drop (Int.toNat i2) : List UInt8).length : Nat) : Int))) <|
      need (decide (((((([44, 91, 93, 123, 125, 35, 38, 42, 33, 124, 62, 39, 34, 37, 64, 96] : List UInt8).take ((([44, 91, 93, 123, 125, 35, 38, 42, 33, 124, 62, 39, 34, 37, 64, 96] : List UInt8) : List UInt8).length)).drop (Int.toNat i2)).take (Int.toNat 1)).drop 0 : List UInt8).length + (([97] : List UInt8) : List UInt8).length ≤ 9223372036854775807)) <|
      (R id_plainStarts [AV.bytes (((((([44, 91, 93, 123, 125, 35, 38, 42, 33, 124, 62, 39, 34, 37, 64, 96] : List UInt8).take ((([44, 91, 93, 123, 125, 35, 38, 42, 33, 124, 62, 39, 34, 37, 64, 96] : List UInt8) : List UInt8).length)).drop (Int.toNat i2)).take (Int.toNat 1)).drop 0) ++ ([97] : List UInt8)), AV.bool b1]).bind fun r2 =>
      asB r2.v fun b2 =>
      bif b2 then
        (some ⟨AV.bool false, false, []⟩)
      else
        need (decide (((((([44, 91, 93, 123, 125, 35, 38, 42, 33, 124, 62, 39, 34, 37, 64, 96] : List UInt8).take ((([44, 91, 93, 123, 125, 35, 38, 42, 33, 124, 62, 39, 34, 37, 64, 96] : List UInt8) : List UInt8).length)).drop (Int.toNat i2)).take (Int.toNat 1)).drop 0 : List UInt8).length + (([97] : List UInt8) : List UInt8).length ≤ 9223372036854775807)) <|
        (R id_plainLength [AV.bytes (((((([44, 91, 93, 123, 125, 35, 38, 42, 33, 124, 62, 39, 34, 37, 64, 96] : List UInt8).take ((([44, 91, 93, 123, 125, 35, 38, 42, 33, 124, 62, 39, 34, 37, 64, 96] : List UInt8) : List UInt8).length)).drop (Int.toNat i2)).take (Int.toNat 1)).drop 0) ++ ([97] : List UInt8)), AV.bool b1]).bind fun r3 =>
        asI .i64 r3.v fun i3 =>
        bif (i3 : Int) != 0 then
          (some ⟨AV.bool false, false, []⟩)
        else
          need (decide ((([97] : List UInt8) : List UInt8).length + ((((([44, 91, 93, 123, 125, 35, 38, 42, 33, 124, 62, 39, 34, 37, 64, 96] : List UInt8).take ((([44, 91, 93, 123, 125, 35, 38, 42, 33, 124, 62, 39, 34, 37, 64, 96] : List UInt8) : List UInt8).length)).drop (Int.toNat i2)).take (Int.toNat 1)).drop 0 : List UInt8).length ≤ 9223372036854775807)) <|
          need (decide ((([97] : List UInt8) ++ ((((([44, 91, 93, 123, 125, 35, 38, 42, 33, 124, 62, 39, 34, 37, 64, 96] : List UInt8).take ((([44, 91, 93, 123, 125, 35, 38, 42, 33, 124, 62, 39, 34, 37, 64, 96] : List UInt8) : List UInt8).length)).drop (Int.toNat i2)).take (Int.toNat 1)).drop 0) : List UInt8).length + (([98] : List UInt8) : List UInt8).length ≤ 9223372036854775807)) <|
          (R id_plainValid [AV.str ((([97] : List UInt8) ++ ((((([44, 91, 93, 123, 125, 35, 38, 42, 33, 124, 62, 39, 34, 37, 64, 96] : List UInt8).take ((([44, 91, 93, 123, 125, 35, 38, 42, 33, 124, 62, 39, 34, 37, 64, 96] : List UInt8) : List UInt8).length)).drop (Int.toNat i2)).take (Int.toNat 1)).drop 0)) ++ ([98] : List UInt8)), AV.bool b1]).bind fun r4 =>
          asB r4.v fun b3 =>
          bif b1 then
            (bif ((((([44, 91, 93, 123, 125, 35, 38, 42, 33, 124, 62, 39, 34, 37, 64, 96] : List UInt8).take ((([44, 91, 93, 123, 125, 35, 38, 42, 33, 124, 62, 39, 34, 37, 64, 96] : List UInt8) : List UInt8).length)).drop (Int.toNat i2)).take (Int.toNat 1)).drop 0) == ([44] : List UInt8) then
              (rounds [1, 7, 8, 57, 58, 59] [] (evC gl R N law04PlainSigns_c0) (Kblock 0 (Kthen gl R N law04PlainSigns_c1 (Kret law04PlainSigns.rets []))) N ⟨[(1, .imm (AV.bool b1)), (7, .imm (AV.bool b3)), (8, .imm (AV.bool true)), (57, .imm (AV.row 1 [AV.str ([45] : List UInt8), AV.str ([63] : List UInt8), AV.str ([58] : List UInt8)])), (58, .imm (AV.int .i64 (([AV.str ([45] : List UInt8), AV.str ([63] : List UInt8), AV.str ([58] : List UInt8)].length : Nat) : Int))), (59, .imm (AV.int .i64 0))], []⟩)
            else
              bif ((((([44, 91, 93, 123, 125, 35, 38, 42, 33, 124, 62, 39, 34, 37, 64, 96] : List UInt8).take ((([44, 91, 93, 123, 125, 35, 38, 42, 33, 124, 62, 39, 34, 37, 64, 96] : List UInt8) : List UInt8).length)).drop (Int.toNat i2)).take (Int.toNat 1)).drop 0) == ([91] : List UInt8) then
                (rounds [1, 7, 8, 57, 58, 59] [] (evC gl R N law04PlainSigns_c0) (Kblock 0 (Kthen gl R N law04PlainSigns_c1 (Kret law04PlainSigns.rets []))) N ⟨[(1, .imm (AV.bool b1)), (7, .imm (AV.bool b3)), (8, .imm (AV.bool true)), (57, .imm (AV.row 1 [AV.str ([45] : List UInt8), AV.str ([63] : List UInt8), AV.str ([58] : List UInt8)])), (58, .imm (AV.int .i64 (([AV.str ([45] : List UInt8), AV.str ([63] : List UInt8), AV.str ([58] : List UInt8)].length : Nat) : Int))), (59, .imm (AV.int .i64 0))], []⟩)
              else
                bif ((((([44, 91, 93, 123, 125, 35, 38, 42, 33, 124, 62, 39, 34, 37, 64, 96] : List UInt8).take ((([44, 91, 93, 123, 125, 35, 38, 42, 33, 124, 62, 39, 34, 37, 64, 96] : List UInt8) : List UInt8).length)).drop (Int.toNat i2)).take (Int.toNat 1)).drop 0) == ([93] : List UInt8) then
                  (rounds [1, 7, 8, 57, 58, 59] [] (evC gl R N law04PlainSigns_c0) (Kblock 0 (Kthen gl R N law04PlainSigns_c1 (Kret law04PlainSigns.rets []))) N ⟨[(1, .imm (AV.bool b1)), (7, .imm (AV.bool b3)), (8, .imm (AV.bool true)), (57, .imm (AV.row 1 [AV.str ([45] : List UInt8), AV.str ([63] : List UInt8), AV.str ([58] : List UInt8)])), (58, .imm (AV.int .i64 (([AV.str ([45] : List UInt8), AV.str ([63] : List UInt8), AV.str ([58] : List UInt8)].length : Nat) : Int))), (59, .imm (AV.int .i64 0))], []⟩)
                else
                  bif ((((([44, 91, 93, 123, 125, 35, 38, 42, 33, 124, 62, 39, 34, 37, 64, 96] : List UInt8).take ((([44, 91, 93, 123, 125, 35, 38, 42, 33, 124, 62, 39, 34, 37, 64, 96] : List UInt8) : List UInt8).length)).drop (Int.toNat i2)).take (Int.toNat 1)).drop 0) == ([123] : List UInt8) then
                    (rounds [1, 7, 8, 57, 58, 59] [] (evC gl R N law04PlainSigns_c0) (Kblock 0 (Kthen gl R N law04PlainSigns_c1 (Kret law04PlainSigns.rets []))) N ⟨[(1, .imm (AV.bool b1)), (7, .imm (AV.bool b3)), (8, .imm (AV.bool true)), (57, .imm (AV.row 1 [AV.str ([45] : List UInt8), AV.str ([63] : List UInt8), AV.str ([58] : List UInt8)])), (58, .imm (AV.int .i64 (([AV.str ([45] : List UInt8), AV.str ([63] : List UInt8), AV.str ([58] : List UInt8)].length : Nat) : Int))), (59, .imm (AV.int .i64 0))], []⟩)
                  else
                    rounds [1, 7, 8, 57, 58, 59] [] (evC gl R N law04PlainSigns_c0) (Kblock 0 (Kthen gl R N law04PlainSigns_c1 (Kret law04PlainSigns.rets []))) N ⟨[(1, .imm (AV.bool b1)), (7, .imm (AV.bool b3)), (8, .imm (AV.bool (((((([44, 91, 93, 123, 125, 35, 38, 42, 33, 124, 62, 39, 34, 37, 64, 96] : List UInt8).take ((([44, 91, 93, 123, 125, 35, 38, 42, 33, 124, 62, 39, 34, 37, 64, 96] : List UInt8) : List UInt8).length)).drop (Int.toNat i2)).take (Int.toNat 1)).drop 0) == ([125] : List UInt8)))), (57, .imm (AV.row 1 [AV.str ([45] : List UInt8), AV.str ([63] : List UInt8), AV.str ([58] : List UInt8)])), (58, .imm (AV.int .i64 (([AV.str ([45] : List UInt8), AV.str ([63] : List UInt8), AV.str ([58] : List UInt8)].length : Nat) : Int))), (59, .imm (AV.int .i64 0))], []⟩)
          else
            rounds [1, 7, 8, 57, 58, 59] [] (evC gl R N law04PlainSigns_c0) (Kblock 0 (Kthen gl R N law04PlainSigns_c1 (Kret law04PlainSigns.rets []))) N ⟨[(1, .imm (AV.bool b1)), (7, .imm (AV.bool b3)), (8, .imm (AV.bool false)), (57, .imm (AV.row 1 [AV.str ([45] : List UInt8), AV.str ([63] : List UInt8), AV.str ([58] : List UInt8)])), (58, .imm (AV.int .i64 (([AV.str ([45] : List UInt8), AV.str ([63] : List UInt8), AV.str ([58] : List UInt8)].length : Nat) : Int))), (59, .imm (AV.int .i64 0))], []⟩) (by kernel_rfl) ?_
  simp (config := { maxSteps := 100000000 }) only [law04PlainSigns_L1_eq]
  kernel_rfl
theorem law04PlainSigns_fit : fitF Tryd.prog law04PlainSigns Tryd.f4 = true := by
  kernel_rfl

def keepLend_c1 : AC := .seq (.region [.op (some 2) none (.nilOwn 11 none)]) (.stuck)
def keepLend : AFunc := ⟨1, 32, [.tmp 2], keepLend_c1⟩
def keepLendr (R : Nat → List AV → Option Res) (N : Nat) (s1 : List UInt8) : Option Res :=
  none
theorem keepLend_eq (R : Nat → List AV → Option Res) (N : Nat) (s1 : List UInt8) : runF gl R N keepLend [AV.bytes s1] = keepLendr R N s1 := by
  kernel_rfl
theorem keepLend_fit : fitF Tryd.prog keepLend Tryd.f17 = true := by
  kernel_rfl

def ref01In_L1s (R : Nat → List AV → Option Res) (N : Nat) (go : Int → List UInt8 → Int → Option Res) (k0 : Bool → Option Res) (k1 : Option Res) (i2 : Int) (s2 : List UInt8) (i3 : Int) : Option Res :=
  bif decide ((i3 : Int) < ((s2.length : Nat) : Int)) then
    (need (decide (0 ≤ (i3 : Int))) <|
    (s2[Int.toNat i3]?).bind fun c1 =>
    bif ((c1.toNat : Int) : Int) == i2 then
      (k0 true)
    else
      go i2 s2 (IntKind.i64.wrap (i3 + 1)))
  else
    k1
def ref01In_L1 (R : Nat → List AV → Option Res) (N : Nat) (k0 : Bool → Option Res) (k1 : Option Res) : Nat → Int → List UInt8 → Int → Option Res
  | 0, _, _, _ => none
  | n + 1, i2, s2, i3 => ref01In_L1s R N (ref01In_L1 R N k0 k1 n) k0 k1 i2 s2 i3
def ref01In_c0 : AC := .seq (.seq (.region [.op (some 6) none (.mv (.t 5)), .op (some 7) none (.mv (.t 1)), .op (some 8) none (.len (.t 7) true), .op (some 9) none (.bin .lss (.t 6) (.t 8))]) (.cond (.t 9) (.skip) (.exit 0 [] []))) (.seq (.block 1 (.seq (.region [.op (some 12) none (.mv (.t 1)), .op (some 13) none (.mv (.t 5)), .op (some 14) none (.index (.t 12) (.t 13)), .op (some 15) none (.mv (.t 0)), .op (some 16) none (.bin .eql (.t 14) (.t 15))]) (.cond (.t 16) (.seq (.region [.op (some 4) none (.mv (.k (AV.bool true)))]) (.ret [4] [])) (.skip)))) (.region [.op (some 10) none (.mv (.t 5)), .op (some 11) none (.bin .add (.t 10) (.k (AV.int .i64 1))), .op (some 5) none (.mv (.t 11))]))
theorem ref01In_L1s_eq (R : Nat → List AV → Option Res) (N : Nat) (K : Ex → St → Option Res) (W : St → Option Res) (i2 : Int) (s2 : List UInt8) (i3 : Int) :
    evC gl R N ref01In_c0 (Kseq (fun st' => W (prune [0, 1, 5] [] st')) K) ⟨[(0, .imm (AV.int .u8 i2)), (1, .imm (AV.str s2)), (5, .imm (AV.int .i64 i3))], []⟩ =
    ref01In_L1s R N (fun (i2 : Int) (s2 : List UInt8) (i3 : Int) => W ⟨[(0, .imm (AV.int .u8 i2)), (1, .imm (AV.str s2)), (5, .imm (AV.int .i64 i3))], []⟩) (fun (b1 : Bool) => K .ret ⟨[(4, .imm (AV.bool b1))], []⟩) (K (.exit 0) ⟨[], []⟩) i2 s2 i3 := by
  kernel_rfl
theorem ref01In_L1_eq (R : Nat → List AV → Option Res) (N : Nat) (K : Ex → St → Option Res) : ∀ (n : Nat) (i2 : Int) (s2 : List UInt8) (i3 : Int),
    rounds [0, 1, 5] [] (evC gl R N ref01In_c0) K n ⟨[(0, .imm (AV.int .u8 i2)), (1, .imm (AV.str s2)), (5, .imm (AV.int .i64 i3))], []⟩ = ref01In_L1 R N (fun (b1 : Bool) => K .ret ⟨[(4, .imm (AV.bool b1))], []⟩) (K (.exit 0) ⟨[], []⟩) n i2 s2 i3
  | 0, _, _, _ => rfl
  | n + 1, i2, s2, i3 => (ref01In_L1s_eq R N K (rounds [0, 1, 5] [] (evC gl R N ref01In_c0) K n) i2 s2 i3).trans
      (congrArg (fun go => ref01In_L1s R N go (fun (b1 : Bool) => K .ret ⟨[(4, .imm (AV.bool b1))], []⟩) (K (.exit 0) ⟨[], []⟩) i2 s2 i3) (funext fun i2 => funext fun s2 => funext fun i3 => ref01In_L1_eq R N K n i2 s2 i3))
def ref01In_c1 : AC := .seq (.region [.op (some 4) none (.mv (.k (AV.bool false)))]) (.ret [4] [])
def ref01In_c2 : AC := .seq (.region [.op (some 4) none (.mv (.k (AV.bool false)))]) (.seq (.seq (.region [.op (some 5) none (.mv (.k (AV.int .i64 0)))]) (.block 0 (.loop [0, 1, 5] [] (ref01In_c0)))) (ref01In_c1))
def ref01In : AFunc := ⟨2, 17, [.tmp 4], ref01In_c2⟩
def ref01Inr (R : Nat → List AV → Option Res) (N : Nat) (i1 : Int) (s1 : List UInt8) : Option Res :=
  ref01In_L1 R N
    (fun b3 =>
      some ⟨AV.bool b3, false, []⟩)
    (
      some ⟨AV.bool false, false, []⟩)
    N i1 s1 0
theorem ref01In_eq (R : Nat → List AV → Option Res) (N : Nat) (i1 : Int) (s1 : List UInt8) : runF gl R N ref01In [AV.int .u8 i1, AV.str s1] = ref01Inr R N i1 s1 := by
  refine Eq.trans (b :=
      rounds [0, 1, 5] [] (evC gl R N ref01In_c0) (Kblock 0 (Kthen gl R N ref01In_c1 (Kret ref01In.rets []))) N ⟨[(0, .imm (AV.int .u8 i1)), (1, .imm (AV.str s1)), (5, .imm (AV.int .i64 0))], []⟩) (by kernel_rfl) ?_
  simp (config := { maxSteps := 100000000 }) only [ref01In_L1_eq]
  kernel_rfl
theorem ref01In_fit : fitF Tryd.prog ref01In Tryd.f38 = true := by
  kernel_rfl

def ref01PlainStarts_c0 : AC := .seq (.region [.op (some 4) none (.mv (.k (AV.bool false)))]) (.seq (.seq (.region [.op (some 5) none (.mv (.t 0)), .op (some 6) none (.len (.t 5) false), .op (some 7) none (.bin .eql (.t 6) (.k (AV.int .i64 0))), .op (some 8) none (.mv (.t 7)), .split 8, .op (some 9) (some (8, false)) (.mv (.t 0)), .op (some 10) (some (8, false)) (.iaddr (.t 9) (.k (AV.int .i64 0)) 1 (.int .u8)), .op (some 11) (some (8, false)) (.load (.t 10) none (.int .u8)), .op (some 12) (some (8, false)) (.bin .eql (.t 11) (.k (AV.int .u8 9))), .op (some 13) none (.pick (.t 8) (.k (AV.bool true)) (.t 12)), .op (some 14) none (.mv (.t 13)), .split 14, .op (some 15) (some (14, false)) (.mv (.t 0)), .op (some 16) (some (14, false)) (.iaddr (.t 15) (.k (AV.int .i64 0)) 1 (.int .u8)), .op (some 17) (some (14, false)) (.load (.t 16) none (.int .u8)), .op (some 18) (some (14, false)) (.bin .eql (.t 17) (.k (AV.int .u8 32))), .op (some 19) none (.pick (.t 14) (.k (AV.bool true)) (.t 18)), .op (some 20) none (.mv (.t 19)), .split 20, .op (some 21) (some (20, false)) (.mv (.t 0)), .op (some 22) (some (20, false)) (.len (.t 21) false), .op (some 23) (some (20, false)) (.bin .geq (.t 22) (.k (AV.int .i64 3))), .op (some 24) (some (20, false)) (.mv (.t 23)), .split 24, .op (some 25) (some (24, true)) (.mv (.t 0)), .op (some 26) (some (24, true)) (.slice (.t 25) none (some (.k (AV.int .i64 3))) 1), .op (some 27) (some (24, true)) (.cvStr (.t 26)), .op (some 28) (some (24, true)) (.bin .eql (.t 27) (.k (AV.str ([45, 45, 45] : List UInt8)))), .op (some 29) (some (24, true)) (.mv (.t 28)), .split 29, .op (some 30) (some (29, false)) (.mv (.t 0)), .op (some 31) (some (29, false)) (.slice (.t 30) none (some (.k (AV.int .i64 3))) 1), .op (some 32) (some (29, false)) (.cvStr (.t 31)), .op (some 33) (some (29, false)) (.bin .eql (.t 32) (.k (AV.str ([46, 46, 46] : List UInt8)))), .op (some 34) (some (24, true)) (.pick (.t 29) (.k (AV.bool true)) (.t 33)), .op (some 35) (some (20, false)) (.pick (.t 24) (.t 34) (.k (AV.bool false))), .op (some 36) none (.pick (.t 20) (.k (AV.bool true)) (.t 35)), .op (some 37) none (.mv (.t 36)), .split 37, .op (some 38) (some (37, false)) (.mv (.t 0)), .op (some 39) (some (37, false)) (.iaddr (.t 38) (.k (AV.int .i64 0)) 1 (.int .u8)), .op (some 40) (some (37, false)) (.load (.t 39) none (.int .u8)), .op (some 41) (some (37, false)) (.call id_ref01In [.t 40, .k (AV.str ([44, 91, 93, 123, 125, 35, 38, 42, 33, 124, 62, 39, 34, 37, 64, 96] : List UInt8))] (.bool)), .op (some 42) none (.pick (.t 37) (.k (AV.bool true)) (.t 41))]) (.cond (.t 42) (.seq (.region [.op (some 4) none (.mv (.k (AV.bool false)))]) (.ret [4] [])) (.skip))) (.seq (.seq (.region [.op (some 43) none (.mv (.t 0)), .op (some 44) none (.iaddr (.t 43) (.k (AV.int .i64 0)) 1 (.int .u8)), .op (some 45) none (.load (.t 44) none (.int .u8)), .op (some 46) none (.call id_ref01In [.t 45, .k (AV.str ([45, 63, 58] : List UInt8))] (.bool)), .op (some 47) none (.un .not (.t 46))]) (.cond (.t 47) (.seq (.region [.op (some 4) none (.mv (.k (AV.bool true)))]) (.ret [4] [])) (.skip))) (.seq (.region [.op (some 48) none (.mv (.t 0)), .op (some 49) none (.len (.t 48) false), .op (some 50) none (.bin .gtr (.t 49) (.k (AV.int .i64 1))), .op (some 51) none (.mv (.t 50)), .split 51, .op (some 52) (some (51, true)) (.mv (.t 0)), .op (some 53) (some (51, true)) (.iaddr (.t 52) (.k (AV.int .i64 1)) 1 (.int .u8)), .op (some 54) (some (51, true)) (.load (.t 53) none (.int .u8)), .op (some 55) (some (51, true)) (.bin .neq (.t 54) (.k (AV.int .u8 9))), .op (some 56) none (.pick (.t 51) (.t 55) (.k (AV.bool false))), .op (some 57) none (.mv (.t 56)), .split 57, .op (some 58) (some (57, true)) (.mv (.t 0)), .op (some 59) (some (57, true)) (.iaddr (.t 58) (.k (AV.int .i64 1)) 1 (.int .u8)), .op (some 60) (some (57, true)) (.load (.t 59) none (.int .u8)), .op (some 61) (some (57, true)) (.bin .neq (.t 60) (.k (AV.int .u8 32))), .op (some 62) none (.pick (.t 57) (.t 61) (.k (AV.bool false))), .op (some 63) none (.mv (.t 62)), .split 63, .op (some 64) (some (63, true)) (.mv (.t 1)), .op (some 65) (some (63, true)) (.mv (.t 64)), .split 65, .op (some 66) (some (65, true)) (.mv (.t 0)), .op (some 67) (some (65, true)) (.iaddr (.t 66) (.k (AV.int .i64 1)) 1 (.int .u8)), .op (some 68) (some (65, true)) (.load (.t 67) none (.int .u8)), .op (some 69) (some (65, true)) (.call id_ref01In [.t 68, .k (AV.str ([44, 91, 93, 123, 125] : List UInt8))] (.bool)), .op (some 70) (some (63, true)) (.pick (.t 65) (.t 69) (.k (AV.bool false))), .op (some 71) (some (63, true)) (.un .not (.t 70)), .op (some 72) none (.pick (.t 63) (.t 71) (.k (AV.bool false))), .op (some 4) none (.mv (.t 72))]) (.ret [4] []))))
def ref01PlainStarts : AFunc := ⟨2, 73, [.tmp 4], ref01PlainStarts_c0⟩
def ref01PlainStartsr (R : Nat → List AV → Option Res) (N : Nat) (s1 : List UInt8) (b1 : Bool) : Option Res :=
  bif (((s1.length : Nat) : Int) : Int) == 0 then
    (some ⟨AV.bool false, false, []⟩)
  else
    need (decide (0 ≤ (0 : Int))) <|
    (s1[Int.toNat 0]?).bind fun c1 =>
    bif ((c1.toNat : Int) : Int) == 9 then
      (some ⟨AV.bool false, false, []⟩)
    else
      need (decide (0 ≤ (0 : Int))) <|
      (s1[Int.toNat 0]?).bind fun c2 =>
      bif ((c2.toNat : Int) : Int) == 32 then
        (some ⟨AV.bool false, false, []⟩)
      else
        bif decide ((((s1.length : Nat) : Int) : Int) ≥ 3) then
          (need (decide (0 ≤ (3 : Int)) && decide ((3 : Int) ≤ ((s1.length : Nat) : Int))) <|
          bif ((s1.take (Int.toNat 3)).drop 0) == ([45, 45, 45] : List UInt8) then
            (some ⟨AV.bool false, false, []⟩)
          else
            need (decide (0 ≤ (3 : Int)) && decide ((3 : Int) ≤ ((s1.length : Nat) : Int))) <|
            bif ((s1.take (Int.toNat 3)).drop 0) == ([46, 46, 46] : List UInt8) then
              (some ⟨AV.bool false, false, []⟩)
            else
              need (decide (0 ≤ (0 : Int))) <|
              (s1[Int.toNat 0]?).bind fun c3 =>
              (R id_ref01In [AV.int .u8 (c3.toNat : Int), AV.str ([44, 91, 93, 123, 125, 35, 38, 42, 33, 124, 62, 39, 34, 37, 64, 96] : List UInt8)]).bind fun r1 =>
              asB r1.v fun b2 =>
              bif b2 then
                (some ⟨AV.bool false, false, []⟩)
              else
                need (decide (0 ≤ (0 : Int))) <|
                (s1[Int.toNat 0]?).bind fun c4 =>
                (R id_ref01In [AV.int .u8 (c4.toNat : Int), AV.str ([45, 63, 58] : List UInt8)]).bind fun r2 =>
                asB r2.v fun b3 =>
                bif !b3 then
                  (some ⟨AV.bool true, false, []⟩)
                else
                  bif decide ((((s1.length : Nat) : Int) : Int) > 1) then
                    (need (decide (0 ≤ (1 : Int))) <|
                    (s1[Int.toNat 1]?).bind fun c5 =>
                    bif ((c5.toNat : Int) : Int) != 9 then
                      (need (decide (0 ≤ (1 : Int))) <|
                      (s1[Int.toNat 1]?).bind fun c6 =>
                      bif ((c6.toNat : Int) : Int) != 32 then
                        (bif b1 then
                          (need (decide (0 ≤ (1 : Int))) <|
                          (s1[Int.toNat 1]?).bind fun c7 =>
                          (R id_ref01In [AV.int .u8 (c7.toNat : Int), AV.str ([44, 91, 93, 123, 125] : List UInt8)]).bind fun r3 =>
                          asB r3.v fun b4 =>
                          some ⟨AV.bool (!b4), false, []⟩)
                        else
                          some ⟨AV.bool true, false, []⟩)
                      else
                        some ⟨AV.bool false, false, []⟩)
                    else
                      some ⟨AV.bool false, false, []⟩)
                  else
                    some ⟨AV.bool false, false, []⟩)
        else
          need (decide (0 ≤ (0 : Int))) <|
          (s1[Int.toNat 0]?).bind fun c8 =>
          (R id_ref01In [AV.int .u8 (c8.toNat : Int), AV.str ([44, 91, 93, 123, 125, 35, 38, 42, 33, 124, 62, 39, 34, 37, 64, 96] : List UInt8)]).bind fun r4 =>
          asB r4.v fun b5 =>
          bif b5 then
            (some ⟨AV.bool false, false, []⟩)
          else
            need (decide (0 ≤ (0 : Int))) <|
            (s1[Int.toNat 0]?).bind fun c9 =>
            (R id_ref01In [AV.int .u8 (c9.toNat : Int), AV.str ([45, 63, 58] : List UInt8)]).bind fun r5 =>
            asB r5.v fun b6 =>
            bif !b6 then
              (some ⟨AV.bool true, false, []⟩)
            else
              bif decide ((((s1.length : Nat) : Int) : Int) > 1) then
                (need (decide (0 ≤ (1 : Int))) <|
                (s1[Int.toNat 1]?).bind fun c10 =>
                bif ((c10.toNat : Int) : Int) != 9 then
                  (need (decide (0 ≤ (1 : Int))) <|
                  (s1[Int.toNat 1]?).bind fun c11 =>
                  bif ((c11.toNat : Int) : Int) != 32 then
                    (bif b1 then
                      (need (decide (0 ≤ (1 : Int))) <|
                      (s1[Int.toNat 1]?).bind fun c12 =>
                      (R id_ref01In [AV.int .u8 (c12.toNat : Int), AV.str ([44, 91, 93, 123, 125] : List UInt8)]).bind fun r6 =>
                      asB r6.v fun b7 =>
                      some ⟨AV.bool (!b7), false, []⟩)
                    else
                      some ⟨AV.bool true, false, []⟩)
                  else
                    some ⟨AV.bool false, false, []⟩)
                else
                  some ⟨AV.bool false, false, []⟩)
              else
                some ⟨AV.bool false, false, []⟩
theorem ref01PlainStarts_eq (R : Nat → List AV → Option Res) (N : Nat) (s1 : List UInt8) (b1 : Bool) : runF gl R N ref01PlainStarts [AV.bytes s1, AV.bool b1] = ref01PlainStartsr R N s1 b1 := by
  kernel_rfl
theorem ref01PlainStarts_fit : fitF Tryd.prog ref01PlainStarts Tryd.f18 = true := by
  kernel_rfl

def ref01PlainLength_L1s (R : Nat → List AV → Option Res) (N : Nat) (go : List UInt8 → Bool → Int → Option Res) (k0 : List UInt8 → Int → Option Res) (s2 : List UInt8) (b3 : Bool) (i1 : Int) : Option Res :=
  bif decide ((i1 : Int) < ((s2.length : Nat) : Int)) then
    (need (decide (0 ≤ (i1 : Int))) <|
    (s2[Int.toNat i1]?).bind fun c1 =>
    bif ((c1.toNat : Int) : Int) == 9 then
      (k0 s2 i1)
    else
      bif ((c1.toNat : Int) : Int) == 58 then
        (bif ((IntKind.i64.wrap (i1 + 1)) : Int) == ((s2.length : Nat) : Int) then
          (k0 s2 i1)
        else
          need (decide (0 ≤ (IntKind.i64.wrap (i1 + 1) : Int))) <|
          (s2[Int.toNat (IntKind.i64.wrap (i1 + 1))]?).bind fun c2 =>
          bif ((c2.toNat : Int) : Int) == 9 then
            (k0 s2 i1)
          else
            need (decide (0 ≤ (IntKind.i64.wrap (i1 + 1) : Int))) <|
            (s2[Int.toNat (IntKind.i64.wrap (i1 + 1))]?).bind fun c3 =>
            bif ((c3.toNat : Int) : Int) == 32 then
              (k0 s2 i1)
            else
              bif b3 then
                (need (decide (0 ≤ (IntKind.i64.wrap (i1 + 1) : Int))) <|
                (s2[Int.toNat (IntKind.i64.wrap (i1 + 1))]?).bind fun c4 =>
                (R id_ref01In [AV.int .u8 (c4.toNat : Int), AV.str ([44, 91, 93, 123, 125] : List UInt8)]).bind fun r2 =>
                asB r2.v fun b4 =>
                bif b4 then
                  (k0 s2 i1)
                else
                  bif ((c1.toNat : Int) : Int) == 35 then
                    (bif decide ((i1 : Int) > 0) then
                      (need (decide (0 ≤ (IntKind.i64.wrap (i1 - 1) : Int))) <|
                      (s2[Int.toNat (IntKind.i64.wrap (i1 - 1))]?).bind fun c5 =>
                      bif ((c5.toNat : Int) : Int) == 32 then
                        (k0 s2 i1)
                      else
                        bif b3 then
                          ((R id_ref01In [AV.int .u8 (c1.toNat : Int), AV.str ([44, 91, 93, 123, 125] : List UInt8)]).bind fun r3 =>
                          asB r3.v fun b5 =>
                          bif b5 then
                            (k0 s2 i1)
                          else
                            go s2 b3 (IntKind.i64.wrap (i1 + 1)))
                        else
                          go s2 b3 (IntKind.i64.wrap (i1 + 1)))
                    else
                      bif b3 then
                        ((R id_ref01In [AV.int .u8 (c1.toNat : Int), AV.str ([44, 91, 93, 123, 125] : List UInt8)]).bind fun r4 =>
                        asB r4.v fun b6 =>
                        bif b6 then
                          (k0 s2 i1)
                        else
                          go s2 b3 (IntKind.i64.wrap (i1 + 1)))
                      else
                        go s2 b3 (IntKind.i64.wrap (i1 + 1)))
                  else
                    bif b3 then
                      ((R id_ref01In [AV.int .u8 (c1.toNat : Int), AV.str ([44, 91, 93, 123, 125] : List UInt8)]).bind fun r5 =>
                      asB r5.v fun b7 =>
                      bif b7 then
                        (k0 s2 i1)
                      else
                        go s2 b3 (IntKind.i64.wrap (i1 + 1)))
                    else
                      go s2 b3 (IntKind.i64.wrap (i1 + 1)))
              else
                bif ((c1.toNat : Int) : Int) == 35 then
                  (bif decide ((i1 : Int) > 0) then
                    (need (decide (0 ≤ (IntKind.i64.wrap (i1 - 1) : Int))) <|
                    (s2[Int.toNat (IntKind.i64.wrap (i1 - 1))]?).bind fun c6 =>
                    bif ((c6.toNat : Int) : Int) == 32 then
                      (k0 s2 i1)
                    else
                      bif b3 then
                        ((R id_ref01In [AV.int .u8 (c1.toNat : Int), AV.str ([44, 91, 93, 123, 125] : List UInt8)]).bind fun r6 =>
                        asB r6.v fun b8 =>
                        bif b8 then
                          (k0 s2 i1)
                        else
                          go s2 b3 (IntKind.i64.wrap (i1 + 1)))
                      else
                        go s2 b3 (IntKind.i64.wrap (i1 + 1)))
                  else
                    bif b3 then
                      ((R id_ref01In [AV.int .u8 (c1.toNat : Int), AV.str ([44, 91, 93, 123, 125] : List UInt8)]).bind fun r7 =>
                      asB r7.v fun b9 =>
                      bif b9 then
                        (k0 s2 i1)
                      else
                        go s2 b3 (IntKind.i64.wrap (i1 + 1)))
                    else
                      go s2 b3 (IntKind.i64.wrap (i1 + 1)))
                else
                  bif b3 then
                    ((R id_ref01In [AV.int .u8 (c1.toNat : Int), AV.str ([44, 91, 93, 123, 125] : List UInt8)]).bind fun r8 =>
                    asB r8.v fun b10 =>
                    bif b10 then
                      (k0 s2 i1)
                    else
                      go s2 b3 (IntKind.i64.wrap (i1 + 1)))
                  else
                    go s2 b3 (IntKind.i64.wrap (i1 + 1)))
      else
        bif ((c1.toNat : Int) : Int) == 35 then
          (bif decide ((i1 : Int) > 0) then
            (need (decide (0 ≤ (IntKind.i64.wrap (i1 - 1) : Int))) <|
            (s2[Int.toNat (IntKind.i64.wrap (i1 - 1))]?).bind fun c7 =>
            bif ((c7.toNat : Int) : Int) == 32 then
              (k0 s2 i1)
            else
              bif b3 then
                ((R id_ref01In [AV.int .u8 (c1.toNat : Int), AV.str ([44, 91, 93, 123, 125] : List UInt8)]).bind fun r9 =>
                asB r9.v fun b11 =>
                bif b11 then
                  (k0 s2 i1)
                else
                  go s2 b3 (IntKind.i64.wrap (i1 + 1)))
              else
                go s2 b3 (IntKind.i64.wrap (i1 + 1)))
          else
            bif b3 then
              ((R id_ref01In [AV.int .u8 (c1.toNat : Int), AV.str ([44, 91, 93, 123, 125] : List UInt8)]).bind fun r10 =>
              asB r10.v fun b12 =>
              bif b12 then
                (k0 s2 i1)
              else
                go s2 b3 (IntKind.i64.wrap (i1 + 1)))
            else
              go s2 b3 (IntKind.i64.wrap (i1 + 1)))
        else
          bif b3 then
            ((R id_ref01In [AV.int .u8 (c1.toNat : Int), AV.str ([44, 91, 93, 123, 125] : List UInt8)]).bind fun r11 =>
            asB r11.v fun b13 =>
            bif b13 then
              (k0 s2 i1)
            else
              go s2 b3 (IntKind.i64.wrap (i1 + 1)))
          else
            go s2 b3 (IntKind.i64.wrap (i1 + 1)))
  else
    k0 s2 i1
def ref01PlainLength_L1 (R : Nat → List AV → Option Res) (N : Nat) (k0 : List UInt8 → Int → Option Res) : Nat → List UInt8 → Bool → Int → Option Res
  | 0, _, _, _ => none
  | n + 1, s2, b3, i1 => ref01PlainLength_L1s R N (ref01PlainLength_L1 R N k0 n) k0 s2 b3 i1
def ref01PlainLength_c0 : AC := .seq (.seq (.region [.op (some 11) none (.mv (.t 5)), .op (some 12) none (.mv (.t 0)), .op (some 13) none (.len (.t 12) false), .op (some 14) none (.bin .lss (.t 11) (.t 13))]) (.cond (.t 14) (.skip) (.exit 0 [0, 5] []))) (.block 1 (.seq (.region [.op (some 15) none (.mv (.t 0)), .op (some 16) none (.mv (.t 5)), .op (some 17) none (.iaddr (.t 15) (.t 16) 1 (.int .u8)), .op (some 18) none (.load (.t 17) none (.int .u8)), .op (some 6) none (.mv (.t 18))]) (.seq (.seq (.region [.op (some 19) none (.mv (.t 6)), .op (some 20) none (.bin .eql (.t 19) (.k (AV.int .u8 9))), .op (some 21) none (.mv (.t 20)), .split 21, .op (some 22) (some (21, false)) (.mv (.t 6)), .op (some 23) (some (21, false)) (.bin .eql (.t 22) (.k (AV.int .u8 58))), .op (some 24) (some (21, false)) (.mv (.t 23)), .split 24, .op (some 25) (some (24, true)) (.mv (.t 5)), .op (some 26) (some (24, true)) (.bin .add (.t 25) (.k (AV.int .i64 1))), .op (some 27) (some (24, true)) (.mv (.t 0)), .op (some 28) (some (24, true)) (.len (.t 27) false), .op (some 29) (some (24, true)) (.bin .eql (.t 26) (.t 28)), .op (some 30) (some (24, true)) (.mv (.t 29)), .split 30, .op (some 31) (some (30, false)) (.mv (.t 0)), .op (some 32) (some (30, false)) (.mv (.t 5)), .op (some 33) (some (30, false)) (.bin .add (.t 32) (.k (AV.int .i64 1))), .op (some 34) (some (30, false)) (.iaddr (.t 31) (.t 33) 1 (.int .u8)), .op (some 35) (some (30, false)) (.load (.t 34) none (.int .u8)), .op (some 36) (some (30, false)) (.bin .eql (.t 35) (.k (AV.int .u8 9))), .op (some 37) (some (24, true)) (.pick (.t 30) (.k (AV.bool true)) (.t 36)), .op (some 38) (some (24, true)) (.mv (.t 37)), .split 38, .op (some 39) (some (38, false)) (.mv (.t 0)), .op (some 40) (some (38, false)) (.mv (.t 5)), .op (some 41) (some (38, false)) (.bin .add (.t 40) (.k (AV.int .i64 1))), .op (some 42) (some (38, false)) (.iaddr (.t 39) (.t 41) 1 (.int .u8)), .op (some 43) (some (38, false)) (.load (.t 42) none (.int .u8)), .op (some 44) (some (38, false)) (.bin .eql (.t 43) (.k (AV.int .u8 32))), .op (some 45) (some (24, true)) (.pick (.t 38) (.k (AV.bool true)) (.t 44)), .op (some 46) (some (24, true)) (.mv (.t 45)), .split 46, .op (some 47) (some (46, false)) (.mv (.t 1)), .op (some 48) (some (46, false)) (.mv (.t 47)), .split 48, .op (some 49) (some (48, true)) (.mv (.t 0)), .op (some 50) (some (48, true)) (.mv (.t 5)), .op (some 51) (some (48, true)) (.bin .add (.t 50) (.k (AV.int .i64 1))), .op (some 52) (some (48, true)) (.iaddr (.t 49) (.t 51) 1 (.int .u8)), .op (some 53) (some (48, true)) (.load (.t 52) none (.int .u8)), .op (some 54) (some (48, true)) (.call id_ref01In [.t 53, .k (AV.str ([44, 91, 93, 123, 125] : List UInt8))] (.bool)), .op (some 55) (some (46, false)) (.pick (.t 48) (.t 54) (.k (AV.bool false))), .op (some 56) (some (24, true)) (.pick (.t 46) (.k (AV.bool true)) (.t 55)), .op (some 57) (some (21, false)) (.pick (.t 24) (.t 56) (.k (AV.bool false))), .op (some 58) none (.pick (.t 21) (.k (AV.bool true)) (.t 57)), .op (some 59) none (.mv (.t 58)), .split 59, .op (some 60) (some (59, false)) (.mv (.t 6)), .op (some 61) (some (59, false)) (.bin .eql (.t 60) (.k (AV.int .u8 35))), .op (some 62) (some (59, false)) (.mv (.t 61)), .split 62, .op (some 63) (some (62, true)) (.mv (.t 5)), .op (some 64) (some (62, true)) (.bin .gtr (.t 63) (.k (AV.int .i64 0))), .op (some 65) (some (59, false)) (.pick (.t 62) (.t 64) (.k (AV.bool false))), .op (some 66) (some (59, false)) (.mv (.t 65)), .split 66, .op (some 67) (some (66, true)) (.mv (.t 0)), .op (some 68) (some (66, true)) (.mv (.t 5)), .op (some 69) (some (66, true)) (.bin .sub (.t 68) (.k (AV.int .i64 1))), .op (some 70) (some (66, true)) (.iaddr (.t 67) (.t 69) 1 (.int .u8)), .op (some 71) (some (66, true)) (.load (.t 70) none (.int .u8)), .op (some 72) (some (66, true)) (.bin .eql (.t 71) (.k (AV.int .u8 32))), .op (some 73) (some (59, false)) (.pick (.t 66) (.t 72) (.k (AV.bool false))), .op (some 74) none (.pick (.t 59) (.k (AV.bool true)) (.t 73)), .op (some 75) none (.mv (.t 74)), .split 75, .op (some 76) (some (75, false)) (.mv (.t 1)), .op (some 77) (some (75, false)) (.mv (.t 76)), .split 77, .op (some 78) (some (77, true)) (.mv (.t 6)), .op (some 79) (some (77, true)) (.call id_ref01In [.t 78, .k (AV.str ([44, 91, 93, 123, 125] : List UInt8))] (.bool)), .op (some 80) (some (75, false)) (.pick (.t 77) (.t 79) (.k (AV.bool false))), .op (some 81) none (.pick (.t 75) (.k (AV.bool true)) (.t 80))]) (.cond (.t 81) (.exit 0 [0, 5] []) (.skip))) (.region [.op (some 82) none (.mv (.t 5)), .op (some 83) none (.bin .add (.t 82) (.k (AV.int .i64 1))), .op (some 5) none (.mv (.t 83))]))))
theorem ref01PlainLength_L1s_eq (R : Nat → List AV → Option Res) (N : Nat) (K : Ex → St → Option Res) (W : St → Option Res) (s2 : List UInt8) (b3 : Bool) (i1 : Int) :
    evC gl R N ref01PlainLength_c0 (Kseq (fun st' => W (prune [0, 1, 5] [] st')) K) ⟨[(0, .imm (AV.bytes s2)), (1, .imm (AV.bool b3)), (5, .imm (AV.int .i64 i1))], []⟩ =
    ref01PlainLength_L1s R N (fun (s2 : List UInt8) (b3 : Bool) (i1 : Int) => W ⟨[(0, .imm (AV.bytes s2)), (1, .imm (AV.bool b3)), (5, .imm (AV.int .i64 i1))], []⟩) (fun (s3 : List UInt8) (i2 : Int) => K (.exit 0) ⟨[(0, .imm (AV.bytes s3)), (5, .imm (AV.int .i64 i2))], []⟩) s2 b3 i1 := by
  kernel_rfl
theorem ref01PlainLength_L1_eq (R : Nat → List AV → Option Res) (N : Nat) (K : Ex → St → Option Res) : ∀ (n : Nat) (s2 : List UInt8) (b3 : Bool) (i1 : Int),
    rounds [0, 1, 5] [] (evC gl R N ref01PlainLength_c0) K n ⟨[(0, .imm (AV.bytes s2)), (1, .imm (AV.bool b3)), (5, .imm (AV.int .i64 i1))], []⟩ = ref01PlainLength_L1 R N (fun (s3 : List UInt8) (i2 : Int) => K (.exit 0) ⟨[(0, .imm (AV.bytes s3)), (5, .imm (AV.int .i64 i2))], []⟩) n s2 b3 i1
  | 0, _, _, _ => rfl
  | n + 1, s2, b3, i1 => (ref01PlainLength_L1s_eq R N K (rounds [0, 1, 5] [] (evC gl R N ref01PlainLength_c0) K n) s2 b3 i1).trans
      (congrArg (fun go => ref01PlainLength_L1s R N go (fun (s3 : List UInt8) (i2 : Int) => K (.exit 0) ⟨[(0, .imm (AV.bytes s3)), (5, .imm (AV.int .i64 i2))], []⟩) s2 b3 i1) (funext fun s2 => funext fun b3 => funext fun i1 => ref01PlainLength_L1_eq R N K n s2 b3 i1))
def ref01PlainLength_L2s (R : Nat → List AV → Option Res) (N : Nat) (go : List UInt8 → Int → Option Res) (k0 : Int → Option Res) (s6 : List UInt8) (i5 : Int) : Option Res :=
  bif decide ((i5 : Int) > 0) then
    (need (decide (0 ≤ (IntKind.i64.wrap (i5 - 1) : Int))) <|
    (s6[Int.toNat (IntKind.i64.wrap (i5 - 1))]?).bind fun c8 =>
    bif ((c8.toNat : Int) : Int) == 32 then
      (go s6 (IntKind.i64.wrap (i5 - 1)))
    else
      k0 i5)
  else
    k0 i5
def ref01PlainLength_L2 (R : Nat → List AV → Option Res) (N : Nat) (k0 : Int → Option Res) : Nat → List UInt8 → Int → Option Res
  | 0, _, _ => none
  | n + 1, s6, i5 => ref01PlainLength_L2s R N (ref01PlainLength_L2 R N k0 n) k0 s6 i5
def ref01PlainLength_c1 : AC := .seq (.seq (.region [.op (some 84) none (.mv (.t 5)), .op (some 85) none (.bin .gtr (.t 84) (.k (AV.int .i64 0))), .op (some 86) none (.mv (.t 85)), .split 86, .op (some 87) (some (86, true)) (.mv (.t 0)), .op (some 88) (some (86, true)) (.mv (.t 5)), .op (some 89) (some (86, true)) (.bin .sub (.t 88) (.k (AV.int .i64 1))), .op (some 90) (some (86, true)) (.iaddr (.t 87) (.t 89) 1 (.int .u8)), .op (some 91) (some (86, true)) (.load (.t 90) none (.int .u8)), .op (some 92) (some (86, true)) (.bin .eql (.t 91) (.k (AV.int .u8 32))), .op (some 93) none (.pick (.t 86) (.t 92) (.k (AV.bool false)))]) (.cond (.t 93) (.skip) (.exit 2 [5] []))) (.block 3 (.region [.op (some 94) none (.mv (.t 5)), .op (some 95) none (.bin .sub (.t 94) (.k (AV.int .i64 1))), .op (some 5) none (.mv (.t 95))]))
theorem ref01PlainLength_L2s_eq (R : Nat → List AV → Option Res) (N : Nat) (K : Ex → St → Option Res) (W : St → Option Res) (s6 : List UInt8) (i5 : Int) :
    evC gl R N ref01PlainLength_c1 (Kseq (fun st' => W (prune [0, 5] [] st')) K) ⟨[(0, .imm (AV.bytes s6)), (5, .imm (AV.int .i64 i5))], []⟩ =
    ref01PlainLength_L2s R N (fun (s6 : List UInt8) (i5 : Int) => W ⟨[(0, .imm (AV.bytes s6)), (5, .imm (AV.int .i64 i5))], []⟩) (fun (i6 : Int) => K (.exit 2) ⟨[(5, .imm (AV.int .i64 i6))], []⟩) s6 i5 := by
  kernel_rfl
theorem ref01PlainLength_L2_eq (R : Nat → List AV → Option Res) (N : Nat) (K : Ex → St → Option Res) : ∀ (n : Nat) (s6 : List UInt8) (i5 : Int),
    rounds [0, 5] [] (evC gl R N ref01PlainLength_c1) K n ⟨[(0, .imm (AV.bytes s6)), (5, .imm (AV.int .i64 i5))], []⟩ = ref01PlainLength_L2 R N (fun (i6 : Int) => K (.exit 2) ⟨[(5, .imm (AV.int .i64 i6))], []⟩) n s6 i5
  | 0, _, _ => rfl
  | n + 1, s6, i5 => (ref01PlainLength_L2s_eq R N K (rounds [0, 5] [] (evC gl R N ref01PlainLength_c1) K n) s6 i5).trans
      (congrArg (fun go => ref01PlainLength_L2s R N go (fun (i6 : Int) => K (.exit 2) ⟨[(5, .imm (AV.int .i64 i6))], []⟩) s6 i5) (funext fun s6 => funext fun i5 => ref01PlainLength_L2_eq R N K n s6 i5))
def ref01PlainLength_c2 : AC := .seq (.region [.op (some 96) none (.mv (.t 5)), .op (some 4) none (.mv (.t 96))]) (.ret [4] [])
def ref01PlainLength_c3 : AC := .seq (.block 2 (.loop [0, 5] [] (ref01PlainLength_c1))) (ref01PlainLength_c2)
def ref01PlainLength_c4 : AC := .seq (.region [.op (some 4) none (.mv (.k (AV.int .i64 0)))]) (.seq (.seq (.region [.op (some 7) none (.mv (.t 0)), .op (some 8) none (.mv (.t 1)), .op (some 9) none (.call id_ref01PlainStarts [.t 7, .t 8] (.bool)), .op (some 10) none (.un .not (.t 9))]) (.cond (.t 10) (.seq (.region [.op (some 4) none (.mv (.k (AV.int .i64 0)))]) (.ret [4] [])) (.skip))) (.seq (.region [.op (some 5) none (.mv (.k (AV.int .i64 0)))]) (.seq (.block 0 (.loop [0, 1, 5] [] (ref01PlainLength_c0))) (ref01PlainLength_c3))))
def ref01PlainLength : AFunc := ⟨2, 97, [.tmp 4], ref01PlainLength_c4⟩
def ref01PlainLengthr (R : Nat → List AV → Option Res) (N : Nat) (s1 : List UInt8) (b1 : Bool) : Option Res :=
  (R id_ref01PlainStarts [AV.bytes s1, AV.bool b1]).bind fun r1 =>
  asB r1.v fun b2 =>
  bif !b2 then
    (some ⟨AV.int .i64 0, false, []⟩)
  else
    ref01PlainLength_L1 R N
      (fun s5 i4 =>
        ref01PlainLength_L2 R N
          (fun i8 =>
            some ⟨AV.int .i64 i8, false, []⟩)
          N s5 i4)
      N s1 b1 0
theorem ref01PlainLength_eq (R : Nat → List AV → Option Res) (N : Nat) (s1 : List UInt8) (b1 : Bool) : runF gl R N ref01PlainLength [AV.bytes s1, AV.bool b1] = ref01PlainLengthr R N s1 b1 := by
  refine Eq.trans (b :=
      (R id_ref01PlainStarts [AV.bytes s1, AV.bool b1]).bind fun r1 =>
      asB r1.v fun b2 =>
      bif !b2 then
        (some ⟨AV.int .i64 0, false, []⟩)
      else
        rounds [0, 1, 5] [] (evC gl R N ref01PlainLength_c0) (Kblock 0 (Kthen gl R N ref01PlainLength_c3 (Kret ref01PlainLength.rets []))) N ⟨[(0, .imm (AV.bytes s1)), (1, .imm (AV.bool b1)), (5, .imm (AV.int .i64 0))], []⟩) (by kernel_rfl) ?_
  simp (config := { maxSteps := 100000000 }) only [ref01PlainLength_L1_eq, ref01PlainLength_L2_eq]
  refine Eq.trans (b :=
      (R id_ref01PlainStarts [AV.bytes s1, AV.bool b1]).bind fun r1 =>
      asB r1.v fun b2 =>
      bif !b2 then
        (some ⟨AV.int .i64 0, false, []⟩)
      else
        ref01PlainLength_L1 R N
          (fun s5 i4 =>
            rounds [0, 5] [] (evC gl R N ref01PlainLength_c1) (Kblock 2 (Kthen gl R N ref01PlainLength_c2 (Kret ref01PlainLength.rets []))) N ⟨[(0, .imm (AV.bytes s5)), (5, .imm (AV.int .i64 i4))], []⟩)
          N s1 b1 0) (by kernel_rfl) ?_
  simp (config := { maxSteps := 100000000 }) only [ref01PlainLength_L1_eq, ref01PlainLength_L2_eq]
  kernel_rfl
theorem ref01PlainLength_fit : fitF Tryd.prog ref01PlainLength Tryd.f19 = true := by
  kernel_rfl

def ref01Rune_L1s (R : Nat → List AV → Option Res) (N : Nat) (go : List UInt8 → Int → Int → Int → Int → Option Res) (k0 : Int → Int → Bool → Option Res) (k1 : Int → Int → Int → Option Res) (s2 : List UInt8) (i1 : Int) (i2 : Int) (i3 : Int) (i4 : Int) : Option Res :=
  bif decide ((i4 : Int) < i1) then
    (need (decide (0 ≤ (i4 : Int))) <|
    (s2[Int.toNat i4]?).bind fun c2 =>
    bif ((IntKind.u8.wrap (BitVec.ofInt IntKind.u8.bits (c2.toNat : Int) &&& BitVec.ofInt IntKind.u8.bits 192).toNat) : Int) != 128 then
      (k0 0 1 false)
    else
      need (!decide (6 < 0)) <|
      need (decide (0 ≤ (i4 : Int))) <|
      (s2[Int.toNat i4]?).bind fun c3 =>
      go s2 i1 i2 (IntKind.i32.wrap (BitVec.ofInt IntKind.i32.bits (IntKind.i32.wrap (i3 * 2 ^ (min (Int.toNat 6) IntKind.i32.bits))) ||| BitVec.ofInt IntKind.i32.bits (IntKind.i32.wrap (IntKind.u8.wrap (BitVec.ofInt IntKind.u8.bits (c3.toNat : Int) &&& BitVec.ofInt IntKind.u8.bits 63).toNat))).toNat) (IntKind.i64.wrap (i4 + 1)))
  else
    k1 i1 i2 i3
def ref01Rune_L1 (R : Nat → List AV → Option Res) (N : Nat) (k0 : Int → Int → Bool → Option Res) (k1 : Int → Int → Int → Option Res) : Nat → List UInt8 → Int → Int → Int → Int → Option Res
  | 0, _, _, _, _, _ => none
  | n + 1, s2, i1, i2, i3, i4 => ref01Rune_L1s R N (ref01Rune_L1 R N k0 k1 n) k0 k1 s2 i1 i2 i3 i4
def ref01Rune_c0 : AC := .seq (.seq (.region [.op (some 55) none (.mv (.t 9)), .op (some 56) none (.mv (.t 6)), .op (some 57) none (.bin .lss (.t 55) (.t 56))]) (.cond (.t 57) (.skip) (.exit 1 [6, 7, 8] []))) (.seq (.block 2 (.seq (.seq (.region [.op (some 60) none (.mv (.t 0)), .op (some 61) none (.mv (.t 9)), .op (some 62) none (.iaddr (.t 60) (.t 61) 1 (.int .u8)), .op (some 63) none (.load (.t 62) none (.int .u8)), .op (some 64) none (.bin .and (.t 63) (.k (AV.int .u8 192))), .op (some 65) none (.bin .neq (.t 64) (.k (AV.int .u8 128)))]) (.cond (.t 65) (.seq (.region [.op (some 2) none (.mv (.k (AV.int .i32 0))), .op (some 3) none (.mv (.k (AV.int .i64 1))), .op (some 4) none (.mv (.k (AV.bool false)))]) (.ret [2, 3, 4] [])) (.skip))) (.region [.op (some 66) none (.mv (.t 8)), .op (some 67) none (.bin .shl (.t 66) (.k (AV.int .u64 6))), .op (some 68) none (.mv (.t 0)), .op (some 69) none (.mv (.t 9)), .op (some 70) none (.iaddr (.t 68) (.t 69) 1 (.int .u8)), .op (some 71) none (.load (.t 70) none (.int .u8)), .op (some 72) none (.bin .and (.t 71) (.k (AV.int .u8 63))), .op (some 73) none (.cvInt .i32 (.t 72)), .op (some 74) none (.bin .or (.t 67) (.t 73)), .op (some 8) none (.mv (.t 74))]))) (.region [.op (some 58) none (.mv (.t 9)), .op (some 59) none (.bin .add (.t 58) (.k (AV.int .i64 1))), .op (some 9) none (.mv (.t 59))]))
theorem ref01Rune_L1s_eq (R : Nat → List AV → Option Res) (N : Nat) (K : Ex → St → Option Res) (W : St → Option Res) (s2 : List UInt8) (i1 : Int) (i2 : Int) (i3 : Int) (i4 : Int) :
    evC gl R N ref01Rune_c0 (Kseq (fun st' => W (prune [0, 6, 7, 8, 9] [] st')) K) ⟨[(0, .imm (AV.bytes s2)), (6, .imm (AV.int .i64 i1)), (7, .imm (AV.int .i32 i2)), (8, .imm (AV.int .i32 i3)), (9, .imm (AV.int .i64 i4))], []⟩ =
    ref01Rune_L1s R N (fun (s2 : List UInt8) (i1 : Int) (i2 : Int) (i3 : Int) (i4 : Int) => W ⟨[(0, .imm (AV.bytes s2)), (6, .imm (AV.int .i64 i1)), (7, .imm (AV.int .i32 i2)), (8, .imm (AV.int .i32 i3)), (9, .imm (AV.int .i64 i4))], []⟩) (fun (i5 : Int) (i6 : Int) (b1 : Bool) => K .ret ⟨[(2, .imm (AV.int .i32 i5)), (3, .imm (AV.int .i64 i6)), (4, .imm (AV.bool b1))], []⟩) (fun (i7 : Int) (i8 : Int) (i9 : Int) => K (.exit 1) ⟨[(6, .imm (AV.int .i64 i7)), (7, .imm (AV.int .i32 i8)), (8, .imm (AV.int .i32 i9))], []⟩) s2 i1 i2 i3 i4 := by
  kernel_rfl
theorem ref01Rune_L1_eq (R : Nat → List AV → Option Res) (N : Nat) (K : Ex → St → Option Res) : ∀ (n : Nat) (s2 : List UInt8) (i1 : Int) (i2 : Int) (i3 : Int) (i4 : Int),
    rounds [0, 6, 7, 8, 9] [] (evC gl R N ref01Rune_c0) K n ⟨[(0, .imm (AV.bytes s2)), (6, .imm (AV.int .i64 i1)), (7, .imm (AV.int .i32 i2)), (8, .imm (AV.int .i32 i3)), (9, .imm (AV.int .i64 i4))], []⟩ = ref01Rune_L1 R N (fun (i5 : Int) (i6 : Int) (b1 : Bool) => K .ret ⟨[(2, .imm (AV.int .i32 i5)), (3, .imm (AV.int .i64 i6)), (4, .imm (AV.bool b1))], []⟩) (fun (i7 : Int) (i8 : Int) (i9 : Int) => K (.exit 1) ⟨[(6, .imm (AV.int .i64 i7)), (7, .imm (AV.int .i32 i8)), (8, .imm (AV.int .i32 i9))], []⟩) n s2 i1 i2 i3 i4
  | 0, _, _, _, _, _ => rfl
  | n + 1, s2, i1, i2, i3, i4 => (ref01Rune_L1s_eq R N K (rounds [0, 6, 7, 8, 9] [] (evC gl R N ref01Rune_c0) K n) s2 i1 i2 i3 i4).trans
      (congrArg (fun go => ref01Rune_L1s R N go (fun (i5 : Int) (i6 : Int) (b1 : Bool) => K .ret ⟨[(2, .imm (AV.int .i32 i5)), (3, .imm (AV.int .i64 i6)), (4, .imm (AV.bool b1))], []⟩) (fun (i7 : Int) (i8 : Int) (i9 : Int) => K (.exit 1) ⟨[(6, .imm (AV.int .i64 i7)), (7, .imm (AV.int .i32 i8)), (8, .imm (AV.int .i32 i9))], []⟩) s2 i1 i2 i3 i4) (funext fun s2 => funext fun i1 => funext fun i2 => funext fun i3 => funext fun i4 => ref01Rune_L1_eq R N K n s2 i1 i2 i3 i4))
def ref01Rune_c1 : AC := .seq (.seq (.region [.op (some 75) none (.mv (.t 8)), .op (some 76) none (.mv (.t 7)), .op (some 77) none (.bin .lss (.t 75) (.t 76)), .op (some 78) none (.mv (.t 77)), .split 78, .op (some 79) (some (78, false)) (.mv (.t 8)), .op (some 80) (some (78, false)) (.bin .gtr (.t 79) (.k (AV.int .i32 1114111))), .op (some 81) none (.pick (.t 78) (.k (AV.bool true)) (.t 80)), .op (some 82) none (.mv (.t 81)), .split 82, .op (some 83) (some (82, false)) (.mv (.t 8)), .op (some 84) (some (82, false)) (.bin .geq (.t 83) (.k (AV.int .i32 55296))), .op (some 85) (some (82, false)) (.mv (.t 84)), .split 85, .op (some 86) (some (85, true)) (.mv (.t 8)), .op (some 87) (some (85, true)) (.bin .leq (.t 86) (.k (AV.int .i32 57343))), .op (some 88) (some (82, false)) (.pick (.t 85) (.t 87) (.k (AV.bool false))), .op (some 89) none (.pick (.t 82) (.k (AV.bool true)) (.t 88))]) (.cond (.t 89) (.seq (.region [.op (some 2) none (.mv (.k (AV.int .i32 0))), .op (some 3) none (.mv (.k (AV.int .i64 1))), .op (some 4) none (.mv (.k (AV.bool false)))]) (.ret [2, 3, 4] [])) (.skip))) (.seq (.region [.op (some 90) none (.mv (.t 8)), .op (some 91) none (.mv (.t 6)), .op (some 2) none (.mv (.t 90)), .op (some 3) none (.mv (.t 91)), .op (some 4) none (.mv (.k (AV.bool true)))]) (.ret [2, 3, 4] []))
def ref01Rune_c2 : AC := .seq (.region [.op (some 2) none (.mv (.k (AV.int .i32 0))), .op (some 3) none (.mv (.k (AV.int .i64 0))), .op (some 4) none (.mv (.k (AV.bool false)))]) (.seq (.seq (.region [.op (some 10) none (.mv (.t 0)), .op (some 11) none (.len (.t 10) false), .op (some 12) none (.bin .eql (.t 11) (.k (AV.int .i64 0)))]) (.cond (.t 12) (.seq (.region [.op (some 2) none (.mv (.k (AV.int .i32 0))), .op (some 3) none (.mv (.k (AV.int .i64 0))), .op (some 4) none (.mv (.k (AV.bool false)))]) (.ret [2, 3, 4] [])) (.skip))) (.seq (.region [.op (some 13) none (.mv (.t 0)), .op (some 14) none (.iaddr (.t 13) (.k (AV.int .i64 0)) 1 (.int .u8)), .op (some 15) none (.load (.t 14) none (.int .u8)), .op (some 5) none (.mv (.t 15))]) (.seq (.region [.op (some 6) none (.mv (.k (AV.int .i64 0))), .op (some 7) none (.mv (.k (AV.int .i32 0)))]) (.seq (.region [.op (some 8) none (.mv (.k (AV.int .i32 0)))]) (.seq (.block 0 (.seq (.region [.op (some 17) none (.mv (.t 5)), .op (some 18) none (.bin .lss (.t 17) (.k (AV.int .u8 128))), .op (some 16) none (.mv (.t 18))]) (.cond (.t 16) (.seq (.region [.op (some 19) none (.mv (.t 5)), .op (some 20) none (.cvInt .i32 (.t 19)), .op (some 2) none (.mv (.t 20)), .op (some 3) none (.mv (.k (AV.int .i64 1))), .op (some 4) none (.mv (.k (AV.bool true)))]) (.ret [2, 3, 4] [])) (.seq (.region [.op (some 22) none (.mv (.t 5)), .op (some 23) none (.bin .geq (.t 22) (.k (AV.int .u8 194))), .op (some 24) none (.mv (.t 23)), .split 24, .op (some 25) (some (24, true)) (.mv (.t 5)), .op (some 26) (some (24, true)) (.bin .leq (.t 25) (.k (AV.int .u8 223))), .op (some 27) none (.pick (.t 24) (.t 26) (.k (AV.bool false))), .op (some 21) none (.mv (.t 27))]) (.cond (.t 21) (.region [.op (some 28) none (.mv (.t 5)), .op (some 29) none (.bin .and (.t 28) (.k (AV.int .u8 31))), .op (some 30) none (.cvInt .i32 (.t 29)), .op (some 6) none (.mv (.k (AV.int .i64 2))), .op (some 7) none (.mv (.k (AV.int .i32 128))), .op (some 8) none (.mv (.t 30))]) (.seq (.region [.op (some 32) none (.mv (.t 5)), .op (some 33) none (.bin .geq (.t 32) (.k (AV.int .u8 224))), .op (some 34) none (.mv (.t 33)), .split 34, .op (some 35) (some (34, true)) (.mv (.t 5)), .op (some 36) (some (34, true)) (.bin .leq (.t 35) (.k (AV.int .u8 239))), .op (some 37) none (.pick (.t 34) (.t 36) (.k (AV.bool false))), .op (some 31) none (.mv (.t 37))]) (.cond (.t 31) (.region [.op (some 38) none (.mv (.t 5)), .op (some 39) none (.bin .and (.t 38) (.k (AV.int .u8 15))), .op (some 40) none (.cvInt .i32 (.t 39)), .op (some 6) none (.mv (.k (AV.int .i64 3))), .op (some 7) none (.mv (.k (AV.int .i32 2048))), .op (some 8) none (.mv (.t 40))]) (.seq (.region [.op (some 42) none (.mv (.t 5)), .op (some 43) none (.bin .geq (.t 42) (.k (AV.int .u8 240))), .op (some 44) none (.mv (.t 43)), .split 44, .op (some 45) (some (44, true)) (.mv (.t 5)), .op (some 46) (some (44, true)) (.bin .leq (.t 45) (.k (AV.int .u8 244))), .op (some 47) none (.pick (.t 44) (.t 46) (.k (AV.bool false))), .op (some 41) none (.mv (.t 47))]) (.cond (.t 41) (.region [.op (some 48) none (.mv (.t 5)), .op (some 49) none (.bin .and (.t 48) (.k (AV.int .u8 7))), .op (some 50) none (.cvInt .i32 (.t 49)), .op (some 6) none (.mv (.k (AV.int .i64 4))), .op (some 7) none (.mv (.k (AV.int .i32 65536))), .op (some 8) none (.mv (.t 50))]) (.seq (.region [.op (some 2) none (.mv (.k (AV.int .i32 0))), .op (some 3) none (.mv (.k (AV.int .i64 1))), .op (some 4) none (.mv (.k (AV.bool false)))]) (.ret [2, 3, 4] []))))))))))) (.seq (.seq (.region [.op (some 51) none (.mv (.t 0)), .op (some 52) none (.len (.t 51) false), .op (some 53) none (.mv (.t 6)), .op (some 54) none (.bin .lss (.t 52) (.t 53))]) (.cond (.t 54) (.seq (.region [.op (some 2) none (.mv (.k (AV.int .i32 0))), .op (some 3) none (.mv (.k (AV.int .i64 1))), .op (some 4) none (.mv (.k (AV.bool false)))]) (.ret [2, 3, 4] [])) (.skip))) (.seq (.seq (.region [.op (some 9) none (.mv (.k (AV.int .i64 1)))]) (.block 1 (.loop [0, 6, 7, 8, 9] [] (ref01Rune_c0)))) (ref01Rune_c1))))))))
def ref01Rune : AFunc := ⟨1, 92, [.tmp 2, .tmp 3, .tmp 4], ref01Rune_c2⟩
def ref01Runer (R : Nat → List AV → Option Res) (N : Nat) (s1 : List UInt8) : Option Res :=
  bif (((s1.length : Nat) : Int) : Int) == 0 then
    (some ⟨AV.tup [AV.int .i32 0, AV.int .i64 0, AV.bool false], false, []⟩)
  else
    need (decide (0 ≤ (0 : Int))) <|
    (s1[Int.toNat 0]?).bind fun c1 =>
    bif decide (((c1.toNat : Int) : Int) < 128) then
      (some ⟨AV.tup [AV.int .i32 (IntKind.i32.wrap (c1.toNat : Int)), AV.int .i64 1, AV.bool true], false, []⟩)
    else
      bif decide (((c1.toNat : Int) : Int) ≥ 194) then
        (bif decide (((c1.toNat : Int) : Int) ≤ 223) then
          (bif decide ((((s1.length : Nat) : Int) : Int) < 2) then
            (some ⟨AV.tup [AV.int .i32 0, AV.int .i64 1, AV.bool false], false, []⟩)
          else
            ref01Rune_L1 R N
              (fun i15 i16 b3 =>
                some ⟨AV.tup [AV.int .i32 i15, AV.int .i64 i16, AV.bool b3], false, []⟩)
              (fun i17 i18 i19 =>
                bif decide ((i19 : Int) < i18) then
                  (some ⟨AV.tup [AV.int .i32 0, AV.int .i64 1, AV.bool false], false, []⟩)
                else
                  bif decide ((i19 : Int) > 1114111) then
                    (some ⟨AV.tup [AV.int .i32 0, AV.int .i64 1, AV.bool false], false, []⟩)
                  else
                    bif decide ((i19 : Int) ≥ 55296) then
                      (bif decide ((i19 : Int) ≤ 57343) then
                        (some ⟨AV.tup [AV.int .i32 0, AV.int .i64 1, AV.bool false], false, []⟩)
                      else
                        some ⟨AV.tup [AV.int .i32 i19, AV.int .i64 i17, AV.bool true], false, []⟩)
                    else
                      some ⟨AV.tup [AV.int .i32 i19, AV.int .i64 i17, AV.bool true], false, []⟩)
              N s1 2 128 (IntKind.i32.wrap (IntKind.u8.wrap (BitVec.ofInt IntKind.u8.bits (c1.toNat : Int) &&& BitVec.ofInt IntKind.u8.bits 31).toNat)) 1)
        else
          bif decide (((c1.toNat : Int) : Int) ≥ 224) then
            (bif decide (((c1.toNat : Int) : Int) ≤ 239) then
              (bif decide ((((s1.length : Nat) : Int) : Int) < 3) then
                (some ⟨AV.tup [AV.int .i32 0, AV.int .i64 1, AV.bool false], false, []⟩)
              else
                ref01Rune_L1 R N
                  (fun i20 i21 b4 =>
                    some ⟨AV.tup [AV.int .i32 i20, AV.int .i64 i21, AV.bool b4], false, []⟩)
                  (fun i22 i23 i24 =>
                    bif decide ((i24 : Int) < i23) then
                      (some ⟨AV.tup [AV.int .i32 0, AV.int .i64 1, AV.bool false], false, []⟩)
                    else
                      bif decide ((i24 : Int) > 1114111) then
                        (some ⟨AV.tup [AV.int .i32 0, AV.int .i64 1, AV.bool false], false, []⟩)
                      else
                        bif decide ((i24 : Int) ≥ 55296) then
                          (bif decide ((i24 : Int) ≤ 57343) then
                            (some ⟨AV.tup [AV.int .i32 0, AV.int .i64 1, AV.bool false], false, []⟩)
                          else
                            some ⟨AV.tup [AV.int .i32 i24, AV.int .i64 i22, AV.bool true], false, []⟩)
                        else
                          some ⟨AV.tup [AV.int .i32 i24, AV.int .i64 i22, AV.bool true], false, []⟩)
                  N s1 3 2048 (IntKind.i32.wrap (IntKind.u8.wrap (BitVec.ofInt IntKind.u8.bits (c1.toNat : Int) &&& BitVec.ofInt IntKind.u8.bits 15).toNat)) 1)
            else
              bif decide (((c1.toNat : Int) : Int) ≥ 240) then
                (bif decide (((c1.toNat : Int) : Int) ≤ 244) then
                  (bif decide ((((s1.length : Nat) : Int) : Int) < 4) then
                    (some ⟨AV.tup [AV.int .i32 0, AV.int .i64 1, AV.bool false], false, []⟩)
                  else
                    ref01Rune_L1 R N
                      (fun i25 i26 b5 =>
                        some ⟨AV.tup [AV.int .i32 i25, AV.int .i64 i26, AV.bool b5], false, []⟩)
                      (fun i27 i28 i29 =>
                        bif decide ((i29 : Int) < i28) then
                          (some ⟨AV.tup [AV.int .i32 0, AV.int .i64 1, AV.bool false], false, []⟩)
                        else
                          bif decide ((i29 : Int) > 1114111) then
                            (some ⟨AV.tup [AV.int .i32 0, AV.int .i64 1, AV.bool false], false, []⟩)
                          else
                            bif decide ((i29 : Int) ≥ 55296) then
                              (bif decide ((i29 : Int) ≤ 57343) then
                                (some ⟨AV.tup [AV.int .i32 0, AV.int .i64 1, AV.bool false], false, []⟩)
                              else
                                some ⟨AV.tup [AV.int .i32 i29, AV.int .i64 i27, AV.bool true], false, []⟩)
                            else
                              some ⟨AV.tup [AV.int .i32 i29, AV.int .i64 i27, AV.bool true], false, []⟩)
                      N s1 4 65536 (IntKind.i32.wrap (IntKind.u8.wrap (BitVec.ofInt IntKind.u8.bits (c1.toNat : Int) &&& BitVec.ofInt IntKind.u8.bits 7).toNat)) 1)
                else
                  some ⟨AV.tup [AV.int .i32 0, AV.int .i64 1, AV.bool false], false, []⟩)
              else
                some ⟨AV.tup [AV.int .i32 0, AV.int .i64 1, AV.bool false], false, []⟩)
          else
            bif decide (((c1.toNat : Int) : Int) ≥ 240) then
              (bif decide (((c1.toNat : Int) : Int) ≤ 244) then
                (bif decide ((((s1.length : Nat) : Int) : Int) < 4) then
                  (some ⟨AV.tup [AV.int .i32 0, AV.int .i64 1, AV.bool false], false, []⟩)
                else
                  ref01Rune_L1 R N
                    (fun i30 i31 b6 =>
                      some ⟨AV.tup [AV.int .i32 i30, AV.int .i64 i31, AV.bool b6], false, []⟩)
                    (fun i32 i33 i34 =>
                      bif decide ((i34 : Int) < i33) then
                        (some ⟨AV.tup [AV.int .i32 0, AV.int .i64 1, AV.bool false], false, []⟩)
                      else
                        bif decide ((i34 : Int) > 1114111) then
                          (some ⟨AV.tup [AV.int .i32 0, AV.int .i64 1, AV.bool false], false, []⟩)
                        else
                          bif decide ((i34 : Int) ≥ 55296) then
                            (bif decide ((i34 : Int) ≤ 57343) then
                              (some ⟨AV.tup [AV.int .i32 0, AV.int .i64 1, AV.bool false], false, []⟩)
                            else
                              some ⟨AV.tup [AV.int .i32 i34, AV.int .i64 i32, AV.bool true], false, []⟩)
                          else
                            some ⟨AV.tup [AV.int .i32 i34, AV.int .i64 i32, AV.bool true], false, []⟩)
                    N s1 4 65536 (IntKind.i32.wrap (IntKind.u8.wrap (BitVec.ofInt IntKind.u8.bits (c1.toNat : Int) &&& BitVec.ofInt IntKind.u8.bits 7).toNat)) 1)
              else
                some ⟨AV.tup [AV.int .i32 0, AV.int .i64 1, AV.bool false], false, []⟩)
            else
              some ⟨AV.tup [AV.int .i32 0, AV.int .i64 1, AV.bool false], false, []⟩)
      else
        bif decide (((c1.toNat : Int) : Int) ≥ 224) then
          (bif decide (((c1.toNat : Int) : Int) ≤ 239) then
            (bif decide ((((s1.length : Nat) : Int) : Int) < 3) then
              (some ⟨AV.tup [AV.int .i32 0, AV.int .i64 1, AV.bool false], false, []⟩)
            else
              ref01Rune_L1 R N
                (fun i35 i36 b7 =>
                  some ⟨AV.tup [AV.int .i32 i35, AV.int .i64 i36, AV.bool b7], false, []⟩)
                (fun i37 i38 i39 =>
                  bif decide ((i39 : Int) < i38) then
                    (some ⟨AV.tup [AV.int .i32 0, AV.int .i64 1, AV.bool false], false, []⟩)
                  else
                    bif decide ((i39 : Int) > 1114111) then
                      (some ⟨AV.tup [AV.int .i32 0, AV.int .i64 1, AV.bool false], false, []⟩)
                    else
                      bif decide ((i39 : Int) ≥ 55296) then
                        (bif decide ((i39 : Int) ≤ 57343) then
                          (some ⟨AV.tup [AV.int .i32 0, AV.int .i64 1, AV.bool false], false, []⟩)
                        else
                          some ⟨AV.tup [AV.int .i32 i39, AV.int .i64 i37, AV.bool true], false, []⟩)
                      else
                        some ⟨AV.tup [AV.int .i32 i39, AV.int .i64 i37, AV.bool true], false, []⟩)
                N s1 3 2048 (IntKind.i32.wrap (IntKind.u8.wrap (BitVec.ofInt IntKind.u8.bits (c1.toNat : Int) &&& BitVec.ofInt IntKind.u8.bits 15).toNat)) 1)
          else
            bif decide (((c1.toNat : Int) : Int) ≥ 240) then
              (bif decide (((c1.toNat : Int) : Int) ≤ 244) then
                (bif decide ((((s1.length : Nat) : Int) : Int) < 4) then
                  (some ⟨AV.tup [AV.int .i32 0, AV.int .i64 1, AV.bool false], false, []⟩)
                else
                  ref01Rune_L1 R N
                    (fun i40 i41 b8 =>
                      some ⟨AV.tup [AV.int .i32 i40, AV.int .i64 i41, AV.bool b8], false, []⟩)
                    (fun i42 i43 i44 =>
                      bif decide ((i44 : Int) < i43) then
                        (some ⟨AV.tup [AV.int .i32 0, AV.int .i64 1, AV.bool false], false, []⟩)
                      else
                        bif decide ((i44 : Int) > 1114111) then
                          (some ⟨AV.tup [AV.int .i32 0, AV.int .i64 1, AV.bool false], false, []⟩)
                        else
                          bif decide ((i44 : Int) ≥ 55296) then
                            (bif decide ((i44 : Int) ≤ 57343) then
                              (some ⟨AV.tup [AV.int .i32 0, AV.int .i64 1, AV.bool false], false, []⟩)
                            else
                              some ⟨AV.tup [AV.int .i32 i44, AV.int .i64 i42, AV.bool true], false, []⟩)
                          else
                            some ⟨AV.tup [AV.int .i32 i44, AV.int .i64 i42, AV.bool true], false, []⟩)
                    N s1 4 65536 (IntKind.i32.wrap (IntKind.u8.wrap (BitVec.ofInt IntKind.u8.bits (c1.toNat : Int) &&& BitVec.ofInt IntKind.u8.bits 7).toNat)) 1)
              else
                some ⟨AV.tup [AV.int .i32 0, AV.int .i64 1, AV.bool false], false, []⟩)
            else
              some ⟨AV.tup [AV.int .i32 0, AV.int .i64 1, AV.bool false], false, []⟩)
        else
          bif decide (((c1.toNat : Int) : Int) ≥ 240) then
            (bif decide (((c1.toNat : Int) : Int) ≤ 244) then
              (bif decide ((((s1.length : Nat) : Int) : Int) < 4) then
                (some ⟨AV.tup [AV.int .i32 0, AV.int .i64 1, AV.bool false], false, []⟩)
              else
                ref01Rune_L1 R N
                  (fun i45 i46 b9 =>
                    some ⟨AV.tup [AV.int .i32 i45, AV.int .i64 i46, AV.bool b9], false, []⟩)
                  (fun i47 i48 i49 =>
                    bif decide ((i49 : Int) < i48) then
                      (some ⟨AV.tup [AV.int .i32 0, AV.int .i64 1, AV.bool false], false, []⟩)
                    else
                      bif decide ((i49 : Int) > 1114111) then
                        (some ⟨AV.tup [AV.int .i32 0, AV.int .i64 1, AV.bool false], false, []⟩)
                      else
                        bif decide ((i49 : Int) ≥ 55296) then
                          (bif decide ((i49 : Int) ≤ 57343) then
                            (some ⟨AV.tup [AV.int .i32 0, AV.int .i64 1, AV.bool false], false, []⟩)
                          else
                            some ⟨AV.tup [AV.int .i32 i49, AV.int .i64 i47, AV.bool true], false, []⟩)
                        else
                          some ⟨AV.tup [AV.int .i32 i49, AV.int .i64 i47, AV.bool true], false, []⟩)
                  N s1 4 65536 (IntKind.i32.wrap (IntKind.u8.wrap (BitVec.ofInt IntKind.u8.bits (c1.toNat : Int) &&& BitVec.ofInt IntKind.u8.bits 7).toNat)) 1)
            else
              some ⟨AV.tup [AV.int .i32 0, AV.int .i64 1, AV.bool false], false, []⟩)
          else
            some ⟨AV.tup [AV.int .i32 0, AV.int .i64 1, AV.bool false], false, []⟩
theorem ref01Rune_eq (R : Nat → List AV → Option Res) (N : Nat) (s1 : List UInt8) : runF gl R N ref01Rune [AV.bytes s1] = ref01Runer R N s1 := by
  refine Eq.trans (b :=
      bif (((s1.length : Nat) : Int) : Int) == 0 then
        (some ⟨AV.tup [AV.int .i32 0, AV.int .i64 0, AV.bool false], false, []⟩)
      else
        need (decide (0 ≤ (0 : Int))) <|
        (s1[Int.toNat 0]?).bind fun c1 =>
        bif decide (((c1.toNat : Int) : Int) < 128) then
          (some ⟨AV.tup [AV.int .i32 (IntKind.i32.wrap (c1.toNat : Int)), AV.int .i64 1, AV.bool true], false, []⟩)
        else
          bif decide (((c1.toNat : Int) : Int) ≥ 194) then
            (bif decide (((c1.toNat : Int) : Int) ≤ 223) then
              (bif decide ((((s1.length : Nat) : Int) : Int) < 2) then
                (some ⟨AV.tup [AV.int .i32 0, AV.int .i64 1, AV.bool false], false, []⟩)
              else
                rounds [0, 6, 7, 8, 9] [] (evC gl R N ref01Rune_c0) (Kblock 1 (Kthen gl R N ref01Rune_c1 (Kret ref01Rune.rets []))) N ⟨[(0, .imm (AV.bytes s1)), (6, .imm (AV.int .i64 2)), (7, .imm (AV.int .i32 128)), (8, .imm (AV.int .i32 (IntKind.i32.wrap (IntKind.u8.wrap (BitVec.ofInt IntKind.u8.bits (c1.toNat : Int) &&& BitVec.ofInt IntKind.u8.bits 31).toNat)))), (9, .imm (AV.int .i64 1))], []⟩)
            else
              bif decide (((c1.toNat : Int) : Int) ≥ 224) then
                (bif decide (((c1.toNat : Int) : Int) ≤ 239) then
                  (bif decide ((((s1.length : Nat) : Int) : Int) < 3) then
                    (some ⟨AV.tup [AV.int .i32 0, AV.int .i64 1, AV.bool false], false, []⟩)
                  else
                    rounds [0, 6, 7, 8, 9] [] (evC gl R N ref01Rune_c0) (Kblock 1 (Kthen gl R N ref01Rune_c1 (Kret ref01Rune.rets []))) N ⟨[(0, .imm (AV.bytes s1)), (6, .imm (AV.int .i64 3)), (7, .imm (AV.int .i32 2048)), (8, .imm (AV.int .i32 (IntKind.i32.wrap (IntKind.u8.wrap (BitVec.ofInt IntKind.u8.bits (c1.toNat : Int) &&& BitVec.ofInt IntKind.u8.bits 15).toNat)))), (9, .imm (AV.int .i64 1))], []⟩)
                else
                  bif decide (((c1.toNat : Int) : Int) ≥ 240) then
                    (bif decide (((c1.toNat : Int) : Int) ≤ 244) then
                      (bif decide ((((s1.length : Nat) : Int) : Int) < 4) then
                        (some ⟨AV.tup [AV.int .i32 0, AV.int .i64 1, AV.bool false], false, []⟩)
                      else
                        rounds [0, 6, 7, 8, 9] [] (evC gl R N ref01Rune_c0) (Kblock 1 (Kthen gl R N ref01Rune_c1 (Kret ref01Rune.rets []))) N ⟨[(0, .imm (AV.bytes s1)), (6, .imm (AV.int .i64 4)), (7, .imm (AV.int .i32 65536)), (8, .imm (AV.int .i32 (IntKind.i32.wrap (IntKind.u8.wrap (BitVec.ofInt IntKind.u8.bits (c1.toNat : Int) &&& BitVec.ofInt IntKind.u8.bits 7).toNat)))), (9, .imm (AV.int .i64 1))], []⟩)
                    else
                      some ⟨AV.tup [AV.int .i32 0, AV.int .i64 1, AV.bool false], false, []⟩)
                  else
                    some ⟨AV.tup [AV.int .i32 0, AV.int .i64 1, AV.bool false], false, []⟩)
              else
                bif decide (((c1.toNat : Int) : Int) ≥ 240) then
                  (bif decide (((c1.toNat : Int) : Int) ≤ 244) then
                    (bif decide ((((s1.length : Nat) : Int) : Int) < 4) then
                      (some ⟨AV.tup [AV.int .i32 0, AV.int .i64 1, AV.bool false], false, []⟩)
                    else
                      rounds [0, 6, 7, 8, 9] [] (evC gl R N ref01Rune_c0) (Kblock 1 (Kthen gl R N ref01Rune_c1 (Kret ref01Rune.rets []))) N ⟨[(0, .imm (AV.bytes s1)), (6, .imm (AV.int .i64 4)), (7, .imm (AV.int .i32 65536)), (8, .imm (AV.int .i32 (IntKind.i32.wrap (IntKind.u8.wrap (BitVec.ofInt IntKind.u8.bits (c1.toNat : Int) &&& BitVec.ofInt IntKind.u8.bits 7).toNat)))), (9, .imm (AV.int .i64 1))], []⟩)
                  else
                    some ⟨AV.tup [AV.int .i32 0, AV.int .i64 1, AV.bool false], false, []⟩)
                else
                  some ⟨AV.tup [AV.int .i32 0, AV.int .i64 1, AV.bool false], false, []⟩)
          else
            bif decide (((c1.toNat : Int) : Int) ≥ 224) then
              (bif decide (((c1.toNat : Int) : Int) ≤ 239) then
                (bif decide ((((s1.length : Nat) : Int) : Int) < 3) then
                  (some ⟨AV.tup [AV.int .i32 0, AV.int .i64 1, AV.bool false], false, []⟩)
                else
                  rounds [0, 6, 7, 8, 9] [] (evC gl R N ref01Rune_c0) (Kblock 1 (Kthen gl R N ref01Rune_c1 (Kret ref01Rune.rets []))) N ⟨[(0, .imm (AV.bytes s1)), (6, .imm (AV.int .i64 3)), (7, .imm (AV.int .i32 2048)), (8, .imm (AV.int .i32 (IntKind.i32.wrap (IntKind.u8.wrap (BitVec.ofInt IntKind.u8.bits (c1.toNat : Int) &&& BitVec.ofInt IntKind.u8.bits 15).toNat)))), (9, .imm (AV.int .i64 1))], []⟩)
              else
                bif decide (((c1.toNat : Int) : Int) ≥ 240) then
                  (bif decide (((c1.toNat : Int) : Int) ≤ 244) then
                    (bif decide ((((s1.length : Nat) : Int) : Int) < 4) then
                      (some ⟨AV.tup [AV.int .i32 0, AV.int .i64 1, AV.bool false], false, []⟩)
                    else
                      rounds [0, 6, 7, 8, 9] [] (evC gl R N ref01Rune_c0) (Kblock 1 (Kthen gl R N ref01Rune_c1 (Kret ref01Rune.rets []))) N ⟨[(0, .imm (AV.bytes s1)), (6, .imm (AV.int .i64 4)), (7, .imm (AV.int .i32 65536)), (8, .imm (AV.int .i32 (IntKind.i32.wrap (IntKind.u8.wrap (BitVec.ofInt IntKind.u8.bits (c1.toNat : Int) &&& BitVec.ofInt IntKind.u8.bits 7).toNat)))), (9, .imm (AV.int .i64 1))], []⟩)
                  else
                    some ⟨AV.tup [AV.int .i32 0, AV.int .i64 1, AV.bool false], false, []⟩)
                else
                  some ⟨AV.tup [AV.int .i32 0, AV.int .i64 1, AV.bool false], false, []⟩)
            else
              bif decide (((c1.toNat : Int) : Int) ≥ 240) then
                (bif decide (((c1.toNat : Int) : Int) ≤ 244) then
                  (bif decide ((((s1.length : Nat) : Int) : Int) < 4) then
                    (some ⟨AV.tup [AV.int .i32 0, AV.int .i64 1, AV.bool false], false, []⟩)
                  else
                    rounds [0, 6, 7, 8, 9] [] (evC gl R N ref01Rune_c0) (Kblock 1 (Kthen gl R N ref01Rune_c1 (Kret ref01Rune.rets []))) N ⟨[(0, .imm (AV.bytes s1)), (6, .imm (AV.int .i64 4)), (7, .imm (AV.int .i32 65536)), (8, .imm (AV.int .i32 (IntKind.i32.wrap (IntKind.u8.wrap (BitVec.ofInt IntKind.u8.bits (c1.toNat : Int) &&& BitVec.ofInt IntKind.u8.bits 7).toNat)))), (9, .imm (AV.int .i64 1))], []⟩)
                else
                  some ⟨AV.tup [AV.int .i32 0, AV.int .i64 1, AV.bool false], false, []⟩)
              else
                some ⟨AV.tup [AV.int .i32 0, AV.int .i64 1, AV.bool false], false, []⟩) (by kernel_rfl) ?_
  simp (config := { maxSteps := 100000000 }) only [ref01Rune_L1_eq]
  kernel_rfl
theorem ref01Rune_fit : fitF Tryd.prog ref01Rune Tryd.f47 = true := by
  kernel_rfl

def ref01Printable_c0 : AC := .seq (.region [.op (some 2) none (.mv (.k (AV.bool false)))]) (.seq (.block 0 (.seq (.region [.op (some 4) none (.mv (.t 0)), .op (some 5) none (.bin .eql (.t 4) (.k (AV.int .i32 9))), .op (some 6) none (.mv (.t 5)), .split 6, .op (some 7) (some (6, false)) (.mv (.t 0)), .op (some 8) (some (6, false)) (.bin .eql (.t 7) (.k (AV.int .i32 10))), .op (some 9) none (.pick (.t 6) (.k (AV.bool true)) (.t 8)), .op (some 10) none (.mv (.t 9)), .split 10, .op (some 11) (some (10, false)) (.mv (.t 0)), .op (some 12) (some (10, false)) (.bin .eql (.t 11) (.k (AV.int .i32 13))), .op (some 13) none (.pick (.t 10) (.k (AV.bool true)) (.t 12)), .op (some 14) none (.mv (.t 13)), .split 14, .op (some 15) (some (14, false)) (.mv (.t 0)), .op (some 16) (some (14, false)) (.bin .eql (.t 15) (.k (AV.int .i32 133))), .op (some 17) none (.pick (.t 14) (.k (AV.bool true)) (.t 16)), .op (some 3) none (.mv (.t 17))]) (.cond (.t 3) (.seq (.region [.op (some 2) none (.mv (.k (AV.bool true)))]) (.ret [2] [])) (.seq (.region [.op (some 19) none (.mv (.t 0)), .op (some 20) none (.bin .lss (.t 19) (.k (AV.int .i32 32))), .op (some 21) none (.mv (.t 20)), .split 21, .op (some 22) (some (21, false)) (.mv (.t 0)), .op (some 23) (some (21, false)) (.bin .geq (.t 22) (.k (AV.int .i32 127))), .op (some 24) (some (21, false)) (.mv (.t 23)), .split 24, .op (some 25) (some (24, true)) (.mv (.t 0)), .op (some 26) (some (24, true)) (.bin .leq (.t 25) (.k (AV.int .i32 159))), .op (some 27) (some (21, false)) (.pick (.t 24) (.t 26) (.k (AV.bool false))), .op (some 28) none (.pick (.t 21) (.k (AV.bool true)) (.t 27)), .op (some 29) none (.mv (.t 28)), .split 29, .op (some 30) (some (29, false)) (.mv (.t 0)), .op (some 31) (some (29, false)) (.bin .geq (.t 30) (.k (AV.int .i32 55296))), .op (some 32) (some (29, false)) (.mv (.t 31)), .split 32, .op (some 33) (some (32, true)) (.mv (.t 0)), .op (some 34) (some (32, true)) (.bin .leq (.t 33) (.k (AV.int .i32 57343))), .op (some 35) (some (29, false)) (.pick (.t 32) (.t 34) (.k (AV.bool false))), .op (some 36) none (.pick (.t 29) (.k (AV.bool true)) (.t 35)), .op (some 37) none (.mv (.t 36)), .split 37, .op (some 38) (some (37, false)) (.mv (.t 0)), .op (some 39) (some (37, false)) (.bin .eql (.t 38) (.k (AV.int .i32 65279))), .op (some 40) none (.pick (.t 37) (.k (AV.bool true)) (.t 39)), .op (some 41) none (.mv (.t 40)), .split 41, .op (some 42) (some (41, false)) (.mv (.t 0)), .op (some 43) (some (41, false)) (.bin .eql (.t 42) (.k (AV.int .i32 65534))), .op (some 44) none (.pick (.t 41) (.k (AV.bool true)) (.t 43)), .op (some 45) none (.mv (.t 44)), .split 45, .op (some 46) (some (45, false)) (.mv (.t 0)), .op (some 47) (some (45, false)) (.bin .eql (.t 46) (.k (AV.int .i32 65535))), .op (some 48) none (.pick (.t 45) (.k (AV.bool true)) (.t 47)), .op (some 49) none (.mv (.t 48)), .split 49, .op (some 50) (some (49, false)) (.mv (.t 0)), .op (some 51) (some (49, false)) (.bin .gtr (.t 50) (.k (AV.int .i32 1114111))), .op (some 52) none (.pick (.t 49) (.k (AV.bool true)) (.t 51)), .op (some 18) none (.mv (.t 52))]) (.cond (.t 18) (.seq (.region [.op (some 2) none (.mv (.k (AV.bool false)))]) (.ret [2] [])) (.skip)))))) (.seq (.region [.op (some 2) none (.mv (.k (AV.bool true)))]) (.ret [2] [])))
def ref01Printable : AFunc := ⟨1, 53, [.tmp 2], ref01Printable_c0⟩
def ref01Printabler (R : Nat → List AV → Option Res) (N : Nat) (i1 : Int) : Option Res :=
  bif (i1 : Int) == 9 then
    (some ⟨AV.bool true, false, []⟩)
  else
    bif (i1 : Int) == 10 then
      (some ⟨AV.bool true, false, []⟩)
    else
      bif (i1 : Int) == 13 then
        (some ⟨AV.bool true, false, []⟩)
      else
        bif (i1 : Int) == 133 then
          (some ⟨AV.bool true, false, []⟩)
        else
          bif decide ((i1 : Int) < 32) then
            (some ⟨AV.bool false, false, []⟩)
          else
            bif decide ((i1 : Int) ≥ 127) then
              (bif decide ((i1 : Int) ≤ 159) then
                (some ⟨AV.bool false, false, []⟩)
              else
                bif decide ((i1 : Int) ≥ 55296) then
                  (bif decide ((i1 : Int) ≤ 57343) then
                    (some ⟨AV.bool false, false, []⟩)
                  else
                    bif (i1 : Int) == 65279 then
                      (some ⟨AV.bool false, false, []⟩)
                    else
                      bif (i1 : Int) == 65534 then
                        (some ⟨AV.bool false, false, []⟩)
                      else
                        bif (i1 : Int) == 65535 then
                          (some ⟨AV.bool false, false, []⟩)
                        else
                          bif decide ((i1 : Int) > 1114111) then
                            (some ⟨AV.bool false, false, []⟩)
                          else
                            some ⟨AV.bool true, false, []⟩)
                else
                  bif (i1 : Int) == 65279 then
                    (some ⟨AV.bool false, false, []⟩)
                  else
                    bif (i1 : Int) == 65534 then
                      (some ⟨AV.bool false, false, []⟩)
                    else
                      bif (i1 : Int) == 65535 then
                        (some ⟨AV.bool false, false, []⟩)
                      else
                        bif decide ((i1 : Int) > 1114111) then
                          (some ⟨AV.bool false, false, []⟩)
                        else
                          some ⟨AV.bool true, false, []⟩)
            else
              bif decide ((i1 : Int) ≥ 55296) then
                (bif decide ((i1 : Int) ≤ 57343) then
                  (some ⟨AV.bool false, false, []⟩)
                else
                  bif (i1 : Int) == 65279 then
                    (some ⟨AV.bool false, false, []⟩)
                  else
                    bif (i1 : Int) == 65534 then
                      (some ⟨AV.bool false, false, []⟩)
                    else
                      bif (i1 : Int) == 65535 then
                        (some ⟨AV.bool false, false, []⟩)
                      else
                        bif decide ((i1 : Int) > 1114111) then
                          (some ⟨AV.bool false, false, []⟩)
                        else
                          some ⟨AV.bool true, false, []⟩)
              else
                bif (i1 : Int) == 65279 then
                  (some ⟨AV.bool false, false, []⟩)
                else
                  bif (i1 : Int) == 65534 then
                    (some ⟨AV.bool false, false, []⟩)
                  else
                    bif (i1 : Int) == 65535 then
                      (some ⟨AV.bool false, false, []⟩)
                    else
                      bif decide ((i1 : Int) > 1114111) then
                        (some ⟨AV.bool false, false, []⟩)
                      else
                        some ⟨AV.bool true, false, []⟩
theorem ref01Printable_eq (R : Nat → List AV → Option Res) (N : Nat) (i1 : Int) : runF gl R N ref01Printable [AV.int .i32 i1] = ref01Printabler R N i1 := by
  kernel_rfl
theorem ref01Printable_fit : fitF Tryd.prog ref01Printable Tryd.f48 = true := by
  kernel_rfl

def ref01Clean_L1s (R : Nat → List AV → Option Res) (N : Nat) (go : Bool → List UInt8 → Option Res) (k0 : Bool → Option Res) (k1 : Option Res) (b2 : Bool) (s2 : List UInt8) : Option Res :=
  bif decide ((((s2.length : Nat) : Int) : Int) > 0) then
    ((R id_ref01Rune [AV.bytes s2]).bind fun r1 =>
    asJIBT r1.v fun i1 i2 b3 =>
    bif !b3 then
      (k0 false)
    else
      (R id_ref01Printable [AV.int .i32 i1]).bind fun r2 =>
      asB r2.v fun b4 =>
      bif !b4 then
        (k0 false)
      else
        bif (i1 : Int) == 10 then
          (k0 false)
        else
          bif (i1 : Int) == 13 then
            (k0 false)
          else
            bif (i1 : Int) == 9 then
              (bif !b2 then
                (k0 false)
              else
                need (decide (0 ≤ (i2 : Int)) && decide ((i2 : Int) ≤ ((s2.length : Nat) : Int))) <|
                go b2 ((s2.take s2.length).drop (Int.toNat i2)))
            else
              need (decide (0 ≤ (i2 : Int)) && decide ((i2 : Int) ≤ ((s2.length : Nat) : Int))) <|
              go b2 ((s2.take s2.length).drop (Int.toNat i2)))
  else
    k1
def ref01Clean_L1 (R : Nat → List AV → Option Res) (N : Nat) (k0 : Bool → Option Res) (k1 : Option Res) : Nat → Bool → List UInt8 → Option Res
  | 0, _, _ => none
  | n + 1, b2, s2 => ref01Clean_L1s R N (ref01Clean_L1 R N k0 k1 n) k0 k1 b2 s2
def ref01Clean_c0 : AC := .seq (.seq (.region [.op (some 11) none (.mv (.t 5)), .op (some 12) none (.len (.t 11) false), .op (some 13) none (.bin .gtr (.t 12) (.k (AV.int .i64 0)))]) (.cond (.t 13) (.skip) (.exit 0 [] []))) (.block 1 (.seq (.region [.op (some 15) none (.mv (.t 5)), .op (some 16) none (.call id_ref01Rune [.t 15] (.tup [.int .i32, .int .i64, .bool])), .op (some 14) none (.mv (.t 16)), .op (some 17) none (.extract (.t 14) 0), .op (some 18) none (.extract (.t 14) 1), .op (some 19) none (.extract (.t 14) 2), .op (some 6) none (.mv (.t 17)), .op (some 7) none (.mv (.t 18)), .op (some 8) none (.mv (.t 19))]) (.seq (.seq (.region [.op (some 20) none (.mv (.t 8)), .op (some 21) none (.un .not (.t 20)), .op (some 22) none (.mv (.t 21)), .split 22, .op (some 23) (some (22, false)) (.mv (.t 6)), .op (some 24) (some (22, false)) (.call id_ref01Printable [.t 23] (.bool)), .op (some 25) (some (22, false)) (.un .not (.t 24)), .op (some 26) none (.pick (.t 22) (.k (AV.bool true)) (.t 25)), .op (some 27) none (.mv (.t 26)), .split 27, .op (some 28) (some (27, false)) (.mv (.t 6)), .op (some 29) (some (27, false)) (.bin .eql (.t 28) (.k (AV.int .i32 10))), .op (some 30) none (.pick (.t 27) (.k (AV.bool true)) (.t 29)), .op (some 31) none (.mv (.t 30)), .split 31, .op (some 32) (some (31, false)) (.mv (.t 6)), .op (some 33) (some (31, false)) (.bin .eql (.t 32) (.k (AV.int .i32 13))), .op (some 34) none (.pick (.t 31) (.k (AV.bool true)) (.t 33)), .op (some 35) none (.mv (.t 34)), .split 35, .op (some 36) (some (35, false)) (.mv (.t 6)), .op (some 37) (some (35, false)) (.bin .eql (.t 36) (.k (AV.int .i32 9))), .op (some 38) (some (35, false)) (.mv (.t 37)), .split 38, .op (some 39) (some (38, true)) (.mv (.t 1)), .op (some 40) (some (38, true)) (.un .not (.t 39)), .op (some 41) (some (35, false)) (.pick (.t 38) (.t 40) (.k (AV.bool false))), .op (some 42) none (.pick (.t 35) (.k (AV.bool true)) (.t 41))]) (.cond (.t 42) (.seq (.region [.op (some 4) none (.mv (.k (AV.bool false)))]) (.ret [4] [])) (.skip))) (.region [.op (some 43) none (.mv (.t 5)), .op (some 44) none (.mv (.t 7)), .op (some 45) none (.slice (.t 43) (some (.t 44)) none 1), .op (some 5) none (.mv (.t 45))]))))
theorem ref01Clean_L1s_eq (R : Nat → List AV → Option Res) (N : Nat) (K : Ex → St → Option Res) (W : St → Option Res) (b2 : Bool) (s2 : List UInt8) :
    evC gl R N ref01Clean_c0 (Kseq (fun st' => W (prune [1, 5] [] st')) K) ⟨[(1, .imm (AV.bool b2)), (5, .imm (AV.bytes s2))], []⟩ =
    ref01Clean_L1s R N (fun (b2 : Bool) (s2 : List UInt8) => W ⟨[(1, .imm (AV.bool b2)), (5, .imm (AV.bytes s2))], []⟩) (fun (b5 : Bool) => K .ret ⟨[(4, .imm (AV.bool b5))], []⟩) (K (.exit 0) ⟨[], []⟩) b2 s2 := by
  kernel_rfl
theorem ref01Clean_L1_eq (R : Nat → List AV → Option Res) (N : Nat) (K : Ex → St → Option Res) : ∀ (n : Nat) (b2 : Bool) (s2 : List UInt8),
    rounds [1, 5] [] (evC gl R N ref01Clean_c0) K n ⟨[(1, .imm (AV.bool b2)), (5, .imm (AV.bytes s2))], []⟩ = ref01Clean_L1 R N (fun (b5 : Bool) => K .ret ⟨[(4, .imm (AV.bool b5))], []⟩) (K (.exit 0) ⟨[], []⟩) n b2 s2
  | 0, _, _ => rfl
  | n + 1, b2, s2 => (ref01Clean_L1s_eq R N K (rounds [1, 5] [] (evC gl R N ref01Clean_c0) K n) b2 s2).trans
      (congrArg (fun go => ref01Clean_L1s R N go (fun (b5 : Bool) => K .ret ⟨[(4, .imm (AV.bool b5))], []⟩) (K (.exit 0) ⟨[], []⟩) b2 s2) (funext fun b2 => funext fun s2 => ref01Clean_L1_eq R N K n b2 s2))
def ref01Clean_c1 : AC := .seq (.region [.op (some 4) none (.mv (.k (AV.bool true)))]) (.ret [4] [])
def ref01Clean_c2 : AC := .seq (.region [.op (some 4) none (.mv (.k (AV.bool false)))]) (.seq (.region [.op (some 9) none (.mv (.t 0)), .op (some 10) none (.cvBytes (.t 9)), .op (some 5) none (.mv (.t 10))]) (.seq (.block 0 (.loop [1, 5] [] (ref01Clean_c0))) (ref01Clean_c1)))
def ref01Clean : AFunc := ⟨2, 46, [.tmp 4], ref01Clean_c2⟩
def ref01Cleanr (R : Nat → List AV → Option Res) (N : Nat) (s1 : List UInt8) (b1 : Bool) : Option Res :=
  ref01Clean_L1 R N
    (fun b7 =>
      some ⟨AV.bool b7, false, []⟩)
    (
      some ⟨AV.bool true, false, []⟩)
    N b1 s1
theorem ref01Clean_eq (R : Nat → List AV → Option Res) (N : Nat) (s1 : List UInt8) (b1 : Bool) : runF gl R N ref01Clean [AV.str s1, AV.bool b1] = ref01Cleanr R N s1 b1 := by
  refine Eq.trans (b :=
      rounds [1, 5] [] (evC gl R N ref01Clean_c0) (Kblock 0 (Kthen gl R N ref01Clean_c1 (Kret ref01Clean.rets []))) N ⟨[(1, .imm (AV.bool b1)), (5, .imm (AV.bytes s1))], []⟩) (by kernel_rfl) ?_
  simp (config := { maxSteps := 100000000 }) only [ref01Clean_L1_eq]
  kernel_rfl
theorem ref01Clean_fit : fitF Tryd.prog ref01Clean Tryd.f39 = true := by
  kernel_rfl

def ref01PlainValid_c0 : AC := .seq (.region [.op (some 4) none (.mv (.k (AV.bool false)))]) (.seq (.region [.op (some 5) none (.mv (.t 0)), .op (some 6) none (.bin .neq (.t 5) (.k (AV.str ([] : List UInt8)))), .op (some 7) none (.mv (.t 6)), .split 7, .op (some 8) (some (7, true)) (.mv (.t 0)), .op (some 9) (some (7, true)) (.call id_ref01Clean [.t 8, .k (AV.bool false)] (.bool)), .op (some 10) none (.pick (.t 7) (.t 9) (.k (AV.bool false))), .op (some 11) none (.mv (.t 10)), .split 11, .op (some 12) (some (11, true)) (.mv (.t 0)), .op (some 13) (some (11, true)) (.cvBytes (.t 12)), .op (some 14) (some (11, true)) (.mv (.t 1)), .op (some 15) (some (11, true)) (.call id_ref01PlainLength [.t 13, .t 14] (.int .i64)), .op (some 16) (some (11, true)) (.mv (.t 0)), .op (some 17) (some (11, true)) (.len (.t 16) true), .op (some 18) (some (11, true)) (.bin .eql (.t 15) (.t 17)), .op (some 19) none (.pick (.t 11) (.t 18) (.k (AV.bool false))), .op (some 4) none (.mv (.t 19))]) (.ret [4] []))
def ref01PlainValid : AFunc := ⟨2, 20, [.tmp 4], ref01PlainValid_c0⟩
def ref01PlainValidr (R : Nat → List AV → Option Res) (N : Nat) (s1 : List UInt8) (b1 : Bool) : Option Res :=
  bif !(s1 == ([] : List UInt8)) then
    ((R id_ref01Clean [AV.str s1, AV.bool false]).bind fun r1 =>
    asB r1.v fun b2 =>
    bif b2 then
      ((R id_ref01PlainLength [AV.bytes s1, AV.bool b1]).bind fun r2 =>
      asI .i64 r2.v fun i1 =>
      some ⟨AV.bool ((i1 : Int) == ((s1.length : Nat) : Int)), false, []⟩)
    else
      some ⟨AV.bool false, false, []⟩)
  else
    some ⟨AV.bool false, false, []⟩
theorem ref01PlainValid_eq (R : Nat → List AV → Option Res) (N : Nat) (s1 : List UInt8) (b1 : Bool) : runF gl R N ref01PlainValid [AV.str s1, AV.bool b1] = ref01PlainValidr R N s1 b1 := by
  kernel_rfl
theorem ref01PlainValid_fit : fitF Tryd.prog ref01PlainValid Tryd.f20 = true := by
  kernel_rfl
end Go.Proofs.YtojfiifjjgfpaaaDoor.Vf
