/- The code of the functions that the statements reach, as our evaluator takes it, and what each of them comes to, readably: printed by a program of ours. No condition. -/
import Derived.Test.YtojfiifjjgfpaaaDoorVf3
import Derived.Test.YtojfiifjjgfpaaaDoorChecked
import Derived.Lib.DecodeN
namespace Go.Proofs.YtojfiifjjgfpaaaDoor.Vf
set_option linter.unusedVariables false
set_option linter.unusedSimpArgs false
set_option maxRecDepth 100000

def g_maxLen : Nat := 2
def g_first : Nat := 0
def g_accept : Nat := 1
def gl : List (Nat × List AV) := [(g_first, (List.range 256).map fun c => AV.int .u8 (Lib.firstT c)), (g_accept, (List.range 32).map fun i => AV.int .u8 (bif Nat.beq (i % 2) 0 then Lib.accLo (i / 2) else Lib.accHi (i / 2))), (g_maxLen, [])]
def id_bytesContainsRune : Nat := 58
def id_bytesCutPrefix : Nat := 40
def id_bytesEqual : Nat := 56
def id_bytesHasPrefix : Nat := 49
def id_bytesMakeASCIISet : Nat := 51
def id_bytesTrimLeft : Nat := 42
def id_bytesTrimLeftByte : Nat := 50
def id_bytesTrimLeftUnicode : Nat := 53
def id_charsPrintable : Nat := 33
def id_charsRune : Nat := 32
def id_internalBytealgIndexByteString : Nat := 55
def id_internalStringsliteIndexByte : Nat := 46
def id_keepIntact : Nat := 21
def id_keepLend : Nat := 17
def id_keepSameByte : Nat := 25
def id_keepSpoil : Nat := 26
def id_keepText : Nat := 11
def id_keepWithin : Nat := 13
def id_law11TailComments : Nat := 10
def id_law11TailMarkers : Nat := 7
def id_law11TailRests : Nat := 8
def id_law11TailTells : Nat := 9
def id_law11Wakes : Nat := 23
def id_ref01Clean : Nat := 39
def id_ref01In : Nat := 38
def id_ref01PlainLength : Nat := 19
def id_ref01PlainStarts : Nat := 18
def id_ref01PlainValid : Nat := 20
def id_ref01Printable : Nat := 48
def id_ref01Rune : Nat := 47
def id_ref08Blanks : Nat := 43
def id_ref08Clear : Nat := 30
def id_ref08Comment : Nat := 28
def id_ref08Marker : Nat := 31
def id_slicesCloneByteByte : Nat := 41
def id_stringsIndexByte : Nat := 36
def id_tailClear : Nat := 29
def id_tailComment : Nat := 27
def id_tailMarker : Nat := 22
def id_tailRest : Nat := 24
def id_unicodeUtf8DecodeRune : Nat := 44
def id_unicodeUtf8DecodeRuneSlow : Nat := 54
def asJIT {α : Type} (v : AV) (K : Int → Int → Option α) : Option α :=
  asT v fun l1 => asC l1 fun x2 r2 => asI .i32 x2 fun a0 => asC r2 fun x3 r3 => asI .i64 x3 fun a1 => asN r3 <| K a0 a1
def asJIBT {α : Type} (v : AV) (K : Int → Int → Bool → Option α) : Option α :=
  asT v fun l1 => asC l1 fun x2 r2 => asI .i32 x2 fun a0 => asC r2 fun x3 r3 => asI .i64 x3 fun a1 => asC r3 fun x4 r4 => asB x4 fun a2 => asN r4 <| K a0 a1 a2
def asIBT {α : Type} (v : AV) (K : Int → Bool → Option α) : Option α :=
  asT v fun l1 => asC l1 fun x2 r2 => asI .i64 x2 fun a0 => asC r2 fun x3 r3 => asB x3 fun a1 => asN r3 <| K a0 a1
def asYBT {α : Type} (v : AV) (K : List UInt8 → Bool → Option α) : Option α :=
  asT v fun l1 => asC l1 fun x2 r2 => asY x2 fun a0 => asC r2 fun x3 r3 => asB x3 fun a1 => asN r3 <| K a0 a1
def as0T {α : Type} (v : AV) (K : Option α) : Option α :=
  asT v fun l1 => asN l1 <| K 

def keepText_c0 : AC := .seq (.region [.op (some 4) none (.mv (.k (AV.str ([] : List UInt8))))]) (.seq (.region [.op (some 5) none (.mv (.t 0)), .op (some 6) none (.mv (.t 0)), .op (some 7) none (.len (.t 6) true), .op (some 8) none (.mv (.t 1)), .op (some 9) none (.mn [.t 7, .t 8]), .op (some 10) none (.sliceS (.t 5) none (some (.t 9))), .op (some 4) none (.mv (.t 10))]) (.ret [4] []))
def keepText : AFunc := ⟨2, 11, [.tmp 4], keepText_c0⟩
def keepTextr (R : Nat → List AV → Option Res) (N : Nat) (s1 : List UInt8) (i1 : Int) : Option Res :=
  need (decide (0 ≤ (if i1 < ((s1.length : Nat) : Int) then i1 else ((s1.length : Nat) : Int) : Int)) && decide ((if i1 < ((s1.length : Nat) : Int) then i1 else ((s1.length : Nat) : Int) : Int) ≤ ((s1.length : Nat) : Int))) <|
  some ⟨AV.str ((s1.take (Int.toNat (if i1 < ((s1.length : Nat) : Int) then i1 else ((s1.length : Nat) : Int)))).drop 0), false, []⟩
theorem keepText_eq (R : Nat → List AV → Option Res) (N : Nat) (s1 : List UInt8) (i1 : Int) : runF gl R N keepText [AV.str s1, AV.int .i64 i1] = keepTextr R N s1 i1 := by
  kernel_rfl
theorem keepText_fit : fitF Tryd.prog keepText Tryd.f11 = true := by
  kernel_rfl

def internalStringsliteIndexByte_c0 : AC := .seq (.region [.op (some 4) none (.mv (.k (AV.int .i64 0)))]) (.seq (.region [.op (some 5) none (.mv (.t 0)), .op (some 6) none (.mv (.t 1)), .op (some 7) none (.call id_internalBytealgIndexByteString [.t 5, .t 6] (.int .i64)), .op (some 4) none (.mv (.t 7))]) (.ret [4] []))
def internalStringsliteIndexByte : AFunc := ⟨2, 8, [.tmp 4], internalStringsliteIndexByte_c0⟩
def internalStringsliteIndexByter (R : Nat → List AV → Option Res) (N : Nat) (s1 : List UInt8) (i1 : Int) : Option Res :=
  (R id_internalBytealgIndexByteString [AV.str s1, AV.int .u8 i1]).bind fun r1 =>
  asI .i64 r1.v fun i2 =>
  some ⟨AV.int .i64 i2, false, []⟩
theorem internalStringsliteIndexByte_eq (R : Nat → List AV → Option Res) (N : Nat) (s1 : List UInt8) (i1 : Int) : runF gl R N internalStringsliteIndexByte [AV.str s1, AV.int .u8 i1] = internalStringsliteIndexByter R N s1 i1 := by
  kernel_rfl
theorem internalStringsliteIndexByte_fit : fitF Tryd.prog internalStringsliteIndexByte Tryd.f46 = true := by
  kernel_rfl

def stringsIndexByte_c0 : AC := .seq (.region [.op (some 4) none (.mv (.k (AV.int .i64 0)))]) (.seq (.region [.op (some 5) none (.mv (.t 0)), .op (some 6) none (.mv (.t 1)), .op (some 7) none (.call id_internalStringsliteIndexByte [.t 5, .t 6] (.int .i64)), .op (some 4) none (.mv (.t 7))]) (.ret [4] []))
def stringsIndexByte : AFunc := ⟨2, 8, [.tmp 4], stringsIndexByte_c0⟩
def stringsIndexByter (R : Nat → List AV → Option Res) (N : Nat) (s1 : List UInt8) (i1 : Int) : Option Res :=
  (R id_internalStringsliteIndexByte [AV.str s1, AV.int .u8 i1]).bind fun r1 =>
  asI .i64 r1.v fun i2 =>
  some ⟨AV.int .i64 i2, false, []⟩
theorem stringsIndexByte_eq (R : Nat → List AV → Option Res) (N : Nat) (s1 : List UInt8) (i1 : Int) : runF gl R N stringsIndexByte [AV.str s1, AV.int .u8 i1] = stringsIndexByter R N s1 i1 := by
  kernel_rfl
theorem stringsIndexByte_fit : fitF Tryd.prog stringsIndexByte Tryd.f36 = true := by
  kernel_rfl

def unicodeUtf8DecodeRuneSlow_c1 : AC := .seq (.region [.op (some 2) none (.mv (.k (AV.int .i32 0))), .op (some 3) none (.mv (.k (AV.int .i64 0)))]) (.seq (.region [.op (some 13) none (.mv (.t 0)), .op (some 14) none (.len (.t 13) false), .op (some 4) none (.mv (.t 14))]) (.seq (.seq (.region [.op (some 15) none (.mv (.t 4)), .op (some 16) none (.bin .lss (.t 15) (.k (AV.int .i64 1)))]) (.cond (.t 16) (.seq (.region [.op (some 2) none (.mv (.k (AV.int .i32 65533))), .op (some 3) none (.mv (.k (AV.int .i64 0)))]) (.ret [2, 3] [])) (.skip))) (.seq (.region [.op (some 17) none (.mv (.t 0)), .op (some 18) none (.iaddr (.t 17) (.k (AV.int .i64 0)) 1 (.int .u8)), .op (some 19) none (.load (.t 18) none (.int .u8)), .op (some 5) none (.mv (.t 19))]) (.stuck))))
def unicodeUtf8DecodeRuneSlow : AFunc := ⟨1, 122, [.tmp 2, .tmp 3], unicodeUtf8DecodeRuneSlow_c1⟩
def unicodeUtf8DecodeRuneSlowr (R : Nat → List AV → Option Res) (N : Nat) (s1 : List UInt8) : Option Res :=
  bif decide ((((s1.length : Nat) : Int) : Int) < 1) then
    (some ⟨AV.tup [AV.int .i32 65533, AV.int .i64 0], false, []⟩)
  else
    need (decide (0 ≤ (0 : Int))) <|
    (s1[Int.toNat 0]?).bind fun c1 =>
    none
theorem unicodeUtf8DecodeRuneSlow_eq (R : Nat → List AV → Option Res) (N : Nat) (s1 : List UInt8) : runF gl R N unicodeUtf8DecodeRuneSlow [AV.bytes s1] = unicodeUtf8DecodeRuneSlowr R N s1 := by
  kernel_rfl
theorem unicodeUtf8DecodeRuneSlow_fit : fitF Tryd.prog unicodeUtf8DecodeRuneSlow Tryd.f54 = true := by
  kernel_rfl

def unicodeUtf8DecodeRune_L1s (R : Nat → List AV → Option Res) (N : Nat) (go : List UInt8 → List UInt8 → Int → Int → Option Res) (k0 : Int → Int → Option Res) (k1 : List UInt8 → Option Res) (s2 : List UInt8) (s3 : List UInt8) (i1 : Int) (i2 : Int) : Option Res :=
  bif decide ((i2 : Int) < i1) then
    (need (decide (0 ≤ (i2 : Int))) <|
    (s3[Int.toNat i2]?).bind fun c1 =>
    bif decide (((c1.toNat : Int) : Int) < 128) then
      (k0 (IntKind.i32.wrap (c1.toNat : Int)) 1)
    else
      k1 s2)
  else
    k1 s2
def unicodeUtf8DecodeRune_L1 (R : Nat → List AV → Option Res) (N : Nat) (k0 : Int → Int → Option Res) (k1 : List UInt8 → Option Res) : Nat → List UInt8 → List UInt8 → Int → Int → Option Res
  | 0, _, _, _, _ => none
  | n + 1, s2, s3, i1, i2 => unicodeUtf8DecodeRune_L1s R N (unicodeUtf8DecodeRune_L1 R N k0 k1 n) k0 k1 s2 s3 i1 i2
def unicodeUtf8DecodeRune_c0 : AC := .seq (.region [.op (some 9) none (.bin .lss (.t 8) (.t 7))]) (.seq (.cond (.t 9) (.skip) (.exit 0 [0] [])) (.seq (.block 1 (.seq (.region [.op (some 10) none (.iaddr (.t 6) (.t 8) 1 (.int .u8)), .op (some 11) none (.load (.t 10) none (.int .u8)), .op (some 5) none (.mv (.t 11))]) (.seq (.seq (.region [.op (some 12) none (.mv (.t 5)), .op (some 13) none (.bin .lss (.t 12) (.k (AV.int .u8 128)))]) (.cond (.t 13) (.seq (.region [.op (some 14) none (.mv (.t 5)), .op (some 15) none (.cvInt .i32 (.t 14)), .op (some 2) none (.mv (.t 15)), .op (some 3) none (.mv (.k (AV.int .i64 1)))]) (.ret [2, 3] [])) (.skip))) (.exit 0 [0] [])))) (.region [.op (some 16) none (.bin .add (.t 8) (.k (AV.int .i64 1))), .op (some 8) none (.mv (.t 16))])))
theorem unicodeUtf8DecodeRune_L1s_eq (R : Nat → List AV → Option Res) (N : Nat) (K : Ex → St → Option Res) (W : St → Option Res) (s2 : List UInt8) (s3 : List UInt8) (i1 : Int) (i2 : Int) :
    evC gl R N unicodeUtf8DecodeRune_c0 (Kseq (fun st' => W (prune [0, 6, 7, 8] [] st')) K) ⟨[(0, .imm (AV.bytes s2)), (6, .imm (AV.bytes s3)), (7, .imm (AV.int .i64 i1)), (8, .imm (AV.int .i64 i2))], []⟩ =
    unicodeUtf8DecodeRune_L1s R N (fun (s2 : List UInt8) (s3 : List UInt8) (i1 : Int) (i2 : Int) => W ⟨[(0, .imm (AV.bytes s2)), (6, .imm (AV.bytes s3)), (7, .imm (AV.int .i64 i1)), (8, .imm (AV.int .i64 i2))], []⟩) (fun (i3 : Int) (i4 : Int) => K .ret ⟨[(2, .imm (AV.int .i32 i3)), (3, .imm (AV.int .i64 i4))], []⟩) (fun (s4 : List UInt8) => K (.exit 0) ⟨[(0, .imm (AV.bytes s4))], []⟩) s2 s3 i1 i2 := by
  kernel_rfl
theorem unicodeUtf8DecodeRune_L1_eq (R : Nat → List AV → Option Res) (N : Nat) (K : Ex → St → Option Res) : ∀ (n : Nat) (s2 : List UInt8) (s3 : List UInt8) (i1 : Int) (i2 : Int),
    rounds [0, 6, 7, 8] [] (evC gl R N unicodeUtf8DecodeRune_c0) K n ⟨[(0, .imm (AV.bytes s2)), (6, .imm (AV.bytes s3)), (7, .imm (AV.int .i64 i1)), (8, .imm (AV.int .i64 i2))], []⟩ = unicodeUtf8DecodeRune_L1 R N (fun (i3 : Int) (i4 : Int) => K .ret ⟨[(2, .imm (AV.int .i32 i3)), (3, .imm (AV.int .i64 i4))], []⟩) (fun (s4 : List UInt8) => K (.exit 0) ⟨[(0, .imm (AV.bytes s4))], []⟩) n s2 s3 i1 i2
  | 0, _, _, _, _ => rfl
  | n + 1, s2, s3, i1, i2 => (unicodeUtf8DecodeRune_L1s_eq R N K (rounds [0, 6, 7, 8] [] (evC gl R N unicodeUtf8DecodeRune_c0) K n) s2 s3 i1 i2).trans
      (congrArg (fun go => unicodeUtf8DecodeRune_L1s R N go (fun (i3 : Int) (i4 : Int) => K .ret ⟨[(2, .imm (AV.int .i32 i3)), (3, .imm (AV.int .i64 i4))], []⟩) (fun (s4 : List UInt8) => K (.exit 0) ⟨[(0, .imm (AV.bytes s4))], []⟩) s2 s3 i1 i2) (funext fun s2 => funext fun s3 => funext fun i1 => funext fun i2 => unicodeUtf8DecodeRune_L1_eq R N K n s2 s3 i1 i2))
def unicodeUtf8DecodeRune_c1 : AC := .seq (.region [.op (some 18) none (.mv (.t 0)), .op (some 19) none (.call id_unicodeUtf8DecodeRuneSlow [.t 18] (.tup [.int .i32, .int .i64])), .op (some 17) none (.mv (.t 19)), .op (some 20) none (.extract (.t 17) 0), .op (some 21) none (.extract (.t 17) 1), .op (some 2) none (.mv (.t 20)), .op (some 3) none (.mv (.t 21))]) (.ret [2, 3] [])
def unicodeUtf8DecodeRune_c2 : AC := .seq (.region [.op (some 2) none (.mv (.k (AV.int .i32 0))), .op (some 3) none (.mv (.k (AV.int .i64 0)))]) (.seq (.seq (.region [.op (some 6) none (.mv (.t 0)), .op (some 7) none (.len (.t 6) false), .op (some 8) none (.mv (.k (AV.int .i64 0)))]) (.block 0 (.loop [0, 6, 7, 8] [] (unicodeUtf8DecodeRune_c0)))) (unicodeUtf8DecodeRune_c1))
def unicodeUtf8DecodeRune : AFunc := ⟨1, 22, [.tmp 2, .tmp 3], unicodeUtf8DecodeRune_c2⟩
def unicodeUtf8DecodeRuner (R : Nat → List AV → Option Res) (N : Nat) (s1 : List UInt8) : Option Res :=
  unicodeUtf8DecodeRune_L1 R N
    (fun i7 i8 =>
      some ⟨AV.tup [AV.int .i32 i7, AV.int .i64 i8], false, []⟩)
    (fun s6 =>
      (R id_unicodeUtf8DecodeRuneSlow [AV.bytes s6]).bind fun r1 =>
      asJIT r1.v fun i9 i10 =>
      some ⟨AV.tup [AV.int .i32 i9, AV.int .i64 i10], false, []⟩)
    N s1 s1 ((s1.length : Nat) : Int) 0
theorem unicodeUtf8DecodeRune_eq (R : Nat → List AV → Option Res) (N : Nat) (s1 : List UInt8) : runF gl R N unicodeUtf8DecodeRune [AV.bytes s1] = unicodeUtf8DecodeRuner R N s1 := by
  refine Eq.trans (b :=
      rounds [0, 6, 7, 8] [] (evC gl R N unicodeUtf8DecodeRune_c0) (Kblock 0 (Kthen gl R N unicodeUtf8DecodeRune_c1 (Kret unicodeUtf8DecodeRune.rets []))) N ⟨[(0, .imm (AV.bytes s1)), (6, .imm (AV.bytes s1)), (7, .imm (AV.int .i64 ((s1.length : Nat) : Int))), (8, .imm (AV.int .i64 0))], []⟩) (by kernel_rfl) ?_
  simp (config := { maxSteps := 100000000 }) only [unicodeUtf8DecodeRune_L1_eq]
  kernel_rfl
theorem unicodeUtf8DecodeRune_fit : fitF Tryd.prog unicodeUtf8DecodeRune Tryd.f44 = true := by
  kernel_rfl

def charsRune_c0 : AC := .seq (.region [.op (some 2) none (.mv (.k (AV.int .i32 0))), .op (some 3) none (.mv (.k (AV.int .i64 0))), .op (some 4) none (.mv (.k (AV.bool false)))]) (.seq (.region [.op (some 6) none (.mv (.t 0)), .op (some 7) none (.call id_unicodeUtf8DecodeRune [.t 6] (.tup [.int .i32, .int .i64])), .op (some 5) none (.mv (.t 7)), .op (some 8) none (.extract (.t 5) 0), .op (some 9) none (.extract (.t 5) 1), .op (some 2) none (.mv (.t 8)), .op (some 3) none (.mv (.t 9))]) (.seq (.seq (.region [.op (some 10) none (.mv (.t 2)), .op (some 11) none (.bin .eql (.t 10) (.k (AV.int .i32 65533))), .op (some 12) none (.mv (.t 11)), .split 12, .op (some 13) (some (12, true)) (.mv (.t 3)), .op (some 14) (some (12, true)) (.bin .lss (.t 13) (.k (AV.int .i64 2))), .op (some 15) none (.pick (.t 12) (.t 14) (.k (AV.bool false)))]) (.cond (.t 15) (.seq (.region [.op (some 16) none (.mv (.t 3)), .op (some 2) none (.mv (.k (AV.int .i32 0))), .op (some 3) none (.mv (.t 16)), .op (some 4) none (.mv (.k (AV.bool false)))]) (.ret [2, 3, 4] [])) (.skip))) (.seq (.region [.op (some 17) none (.mv (.t 2)), .op (some 18) none (.mv (.t 3)), .op (some 2) none (.mv (.t 17)), .op (some 3) none (.mv (.t 18)), .op (some 4) none (.mv (.k (AV.bool true)))]) (.ret [2, 3, 4] []))))
def charsRune : AFunc := ⟨1, 19, [.tmp 2, .tmp 3, .tmp 4], charsRune_c0⟩
def charsRuner (R : Nat → List AV → Option Res) (N : Nat) (s1 : List UInt8) : Option Res :=
  (R id_unicodeUtf8DecodeRune [AV.bytes s1]).bind fun r1 =>
  asJIT r1.v fun i1 i2 =>
  bif (i1 : Int) == 65533 then
    (bif decide ((i2 : Int) < 2) then
      (some ⟨AV.tup [AV.int .i32 0, AV.int .i64 i2, AV.bool false], false, []⟩)
    else
      some ⟨AV.tup [AV.int .i32 i1, AV.int .i64 i2, AV.bool true], false, []⟩)
  else
    some ⟨AV.tup [AV.int .i32 i1, AV.int .i64 i2, AV.bool true], false, []⟩
theorem charsRune_eq (R : Nat → List AV → Option Res) (N : Nat) (s1 : List UInt8) : runF gl R N charsRune [AV.bytes s1] = charsRuner R N s1 := by
  kernel_rfl
theorem charsRune_fit : fitF Tryd.prog charsRune Tryd.f32 = true := by
  kernel_rfl

def charsPrintable_c0 : AC := .seq (.region [.op (some 2) none (.mv (.k (AV.bool false)))]) (.seq (.block 0 (.seq (.region [.op (some 4) none (.mv (.t 0)), .op (some 5) none (.bin .lss (.t 4) (.k (AV.int .i32 32))), .op (some 3) none (.mv (.t 5))]) (.cond (.t 3) (.seq (.region [.op (some 6) none (.mv (.t 0)), .op (some 7) none (.bin .eql (.t 6) (.k (AV.int .i32 9))), .op (some 8) none (.mv (.t 7)), .split 8, .op (some 9) (some (8, false)) (.mv (.t 0)), .op (some 10) (some (8, false)) (.bin .eql (.t 9) (.k (AV.int .i32 10))), .op (some 11) none (.pick (.t 8) (.k (AV.bool true)) (.t 10)), .op (some 12) none (.mv (.t 11)), .split 12, .op (some 13) (some (12, false)) (.mv (.t 0)), .op (some 14) (some (12, false)) (.bin .eql (.t 13) (.k (AV.int .i32 13))), .op (some 15) none (.pick (.t 12) (.k (AV.bool true)) (.t 14)), .op (some 2) none (.mv (.t 15))]) (.ret [2] [])) (.seq (.region [.op (some 17) none (.mv (.t 0)), .op (some 18) none (.bin .gtr (.t 17) (.k (AV.int .i32 126))), .op (some 19) none (.mv (.t 18)), .split 19, .op (some 20) (some (19, true)) (.mv (.t 0)), .op (some 21) (some (19, true)) (.bin .lss (.t 20) (.k (AV.int .i32 160))), .op (some 22) none (.pick (.t 19) (.t 21) (.k (AV.bool false))), .op (some 16) none (.mv (.t 22))]) (.cond (.t 16) (.seq (.region [.op (some 23) none (.mv (.t 0)), .op (some 24) none (.bin .eql (.t 23) (.k (AV.int .i32 133))), .op (some 2) none (.mv (.t 24))]) (.ret [2] [])) (.seq (.region [.op (some 26) none (.mv (.t 0)), .op (some 27) none (.bin .geq (.t 26) (.k (AV.int .i32 55296))), .op (some 28) none (.mv (.t 27)), .split 28, .op (some 29) (some (28, true)) (.mv (.t 0)), .op (some 30) (some (28, true)) (.bin .leq (.t 29) (.k (AV.int .i32 57343))), .op (some 31) none (.pick (.t 28) (.t 30) (.k (AV.bool false))), .op (some 32) none (.mv (.t 31)), .split 32, .op (some 33) (some (32, false)) (.mv (.t 0)), .op (some 34) (some (32, false)) (.bin .eql (.t 33) (.k (AV.int .i32 65279))), .op (some 35) none (.pick (.t 32) (.k (AV.bool true)) (.t 34)), .op (some 36) none (.mv (.t 35)), .split 36, .op (some 37) (some (36, false)) (.mv (.t 0)), .op (some 38) (some (36, false)) (.bin .eql (.t 37) (.k (AV.int .i32 65534))), .op (some 39) none (.pick (.t 36) (.k (AV.bool true)) (.t 38)), .op (some 40) none (.mv (.t 39)), .split 40, .op (some 41) (some (40, false)) (.mv (.t 0)), .op (some 42) (some (40, false)) (.bin .eql (.t 41) (.k (AV.int .i32 65535))), .op (some 43) none (.pick (.t 40) (.k (AV.bool true)) (.t 42)), .op (some 25) none (.mv (.t 43))]) (.cond (.t 25) (.seq (.region [.op (some 2) none (.mv (.k (AV.bool false)))]) (.ret [2] [])) (.skip)))))))) (.seq (.region [.op (some 44) none (.mv (.t 0)), .op (some 45) none (.bin .leq (.t 44) (.k (AV.int .i32 1114111))), .op (some 2) none (.mv (.t 45))]) (.ret [2] [])))
def charsPrintable : AFunc := ⟨1, 46, [.tmp 2], charsPrintable_c0⟩
def charsPrintabler (R : Nat → List AV → Option Res) (N : Nat) (i1 : Int) : Option Res :=
  bif decide ((i1 : Int) < 32) then
    (bif (i1 : Int) == 9 then
      (some ⟨AV.bool true, false, []⟩)
    else
      bif (i1 : Int) == 10 then
        (some ⟨AV.bool true, false, []⟩)
      else
        some ⟨AV.bool ((i1 : Int) == 13), false, []⟩)
  else
    bif decide ((i1 : Int) > 126) then
      (bif decide ((i1 : Int) < 160) then
        (some ⟨AV.bool ((i1 : Int) == 133), false, []⟩)
      else
        bif decide ((i1 : Int) ≥ 55296) then
          (bif decide ((i1 : Int) ≤ 57343) then
            (some ⟨AV.bool false, false, []⟩)
          else
            bif (i1 : Int) == 65279 then
              (some ⟨AV.bool false, false, []⟩)
            else
              bif (i1 : Int) == 65534 then
                (some ⟨AV.bool false, false, []⟩)
              else
                bif (i1 : Int) == 65535 then
                  (some ⟨AV.bool false, false, []⟩)
                else
                  some ⟨AV.bool (decide ((i1 : Int) ≤ 1114111)), false, []⟩)
        else
          bif (i1 : Int) == 65279 then
            (some ⟨AV.bool false, false, []⟩)
          else
            bif (i1 : Int) == 65534 then
              (some ⟨AV.bool false, false, []⟩)
            else
              bif (i1 : Int) == 65535 then
                (some ⟨AV.bool false, false, []⟩)
              else
                some ⟨AV.bool (decide ((i1 : Int) ≤ 1114111)), false, []⟩)
    else
      bif decide ((i1 : Int) ≥ 55296) then
        (bif decide ((i1 : Int) ≤ 57343) then
          (some ⟨AV.bool false, false, []⟩)
        else
          bif (i1 : Int) == 65279 then
            (some ⟨AV.bool false, false, []⟩)
          else
            bif (i1 : Int) == 65534 then
              (some ⟨AV.bool false, false, []⟩)
            else
              bif (i1 : Int) == 65535 then
                (some ⟨AV.bool false, false, []⟩)
              else
                some ⟨AV.bool (decide ((i1 : Int) ≤ 1114111)), false, []⟩)
      else
        bif (i1 : Int) == 65279 then
          (some ⟨AV.bool false, false, []⟩)
        else
          bif (i1 : Int) == 65534 then
            (some ⟨AV.bool false, false, []⟩)
          else
            bif (i1 : Int) == 65535 then
              (some ⟨AV.bool false, false, []⟩)
            else
              some ⟨AV.bool (decide ((i1 : Int) ≤ 1114111)), false, []⟩
theorem charsPrintable_eq (R : Nat → List AV → Option Res) (N : Nat) (i1 : Int) : runF gl R N charsPrintable [AV.int .i32 i1] = charsPrintabler R N i1 := by
  kernel_rfl
theorem charsPrintable_fit : fitF Tryd.prog charsPrintable Tryd.f33 = true := by
  kernel_rfl

def keepWithin_c0 : AC := .seq (.region [.op (some 4) none (.mv (.k (AV.int .i64 0)))]) (.seq (.seq (.region [.op (some 6) none (.mv (.t 1)), .op (some 7) none (.bin .lss (.t 6) (.k (AV.int .i64 1)))]) (.cond (.t 7) (.seq (.region [.op (some 4) none (.mv (.k (AV.int .i64 0)))]) (.ret [4] [])) (.skip))) (.seq (.region [.op (some 8) none (.mv (.t 0)), .op (some 9) none (.mv (.t 1)), .op (some 10) none (.bin .rem (.t 8) (.t 9)), .op (some 5) none (.mv (.t 10))]) (.seq (.seq (.region [.op (some 11) none (.mv (.t 5)), .op (some 12) none (.bin .lss (.t 11) (.k (AV.int .i64 0)))]) (.cond (.t 12) (.region [.op (some 13) none (.mv (.t 5)), .op (some 14) none (.mv (.t 1)), .op (some 15) none (.bin .add (.t 13) (.t 14)), .op (some 5) none (.mv (.t 15))]) (.skip))) (.seq (.region [.op (some 16) none (.mv (.t 5)), .op (some 4) none (.mv (.t 16))]) (.ret [4] [])))))
def keepWithin : AFunc := ⟨2, 17, [.tmp 4], keepWithin_c0⟩
def keepWithinr (R : Nat → List AV → Option Res) (N : Nat) (i1 : Int) (i2 : Int) : Option Res :=
  bif decide ((i2 : Int) < 1) then
    (some ⟨AV.int .i64 0, false, []⟩)
  else
    need (!decide (i2 = 0)) <|
    bif decide (((Int.tmod i1 i2) : Int) < 0) then
      (some ⟨AV.int .i64 (IntKind.i64.wrap ((Int.tmod i1 i2) + i2)), false, []⟩)
    else
      some ⟨AV.int .i64 (Int.tmod i1 i2), false, []⟩
theorem keepWithin_eq (R : Nat → List AV → Option Res) (N : Nat) (i1 : Int) (i2 : Int) : runF gl R N keepWithin [AV.int .i64 i1, AV.int .i64 i2] = keepWithinr R N i1 i2 := by
  kernel_rfl
theorem keepWithin_fit : fitF Tryd.prog keepWithin Tryd.f13 = true := by
  kernel_rfl

def keepLend_c1 : AC := .seq (.region [.op (some 2) none (.nilOwn 11 none)]) (.stuck)
def keepLend : AFunc := ⟨1, 32, [.tmp 2], keepLend_c1⟩
def keepLendr (R : Nat → List AV → Option Res) (N : Nat) (s1 : List UInt8) : Option Res :=
  none
theorem keepLend_eq (R : Nat → List AV → Option Res) (N : Nat) (s1 : List UInt8) : runF gl R N keepLend [AV.bytes s1] = keepLendr R N s1 := by
  kernel_rfl
theorem keepLend_fit : fitF Tryd.prog keepLend Tryd.f17 = true := by
  kernel_rfl

def ref01In_L1s (R : Nat → List AV → Option Res) (N : Nat) (go : Int → List UInt8 → Int → Option Res) (k0 : Bool → Option Res) (k1 : Option Res) (i2 : Int) (s2 : List UInt8) (i3 : Int) : Option Res :=
  bif decide ((i3 : Int) < ((s2.length : Nat) : Int)) then
    (need (decide (0 ≤ (i3 : Int))) <|
    (s2[Int.toNat i3]?).bind fun c1 =>
    bif ((c1.toNat : Int) : Int) == i2 then
      (k0 true)
    else
      go i2 s2 (IntKind.i64.wrap (i3 + 1)))
  else
    k1
def ref01In_L1 (R : Nat → List AV → Option Res) (N : Nat) (k0 : Bool → Option Res) (k1 : Option Res) : Nat → Int → List UInt8 → Int → Option Res
  | 0, _, _, _ => none
  | n + 1, i2, s2, i3 => ref01In_L1s R N (ref01In_L1 R N k0 k1 n) k0 k1 i2 s2 i3
def ref01In_c0 : AC := .seq (.seq (.region [.op (some 6) none (.mv (.t 5)), .op (some 7) none (.mv (.t 1)), .op (some 8) none (.len (.t 7) true), .op (some 9) none (.bin .lss (.t 6) (.t 8))]) (.cond (.t 9) (.skip) (.exit 0 [] []))) (.seq (.block 1 (.seq (.region [.op (some 12) none (.mv (.t 1)), .op (some 13) none (.mv (.t 5)), .op (some 14) none (.index (.t 12) (.t 13)), .op (some 15) none (.mv (.t 0)), .op (some 16) none (.bin .eql (.t 14) (.t 15))]) (.cond (.t 16) (.seq (.region [.op (some 4) none (.mv (.k (AV.bool true)))]) (.ret [4] [])) (.skip)))) (.region [.op (some 10) none (.mv (.t 5)), .op (some 11) none (.bin .add (.t 10) (.k (AV.int .i64 1))), .op (some 5) none (.mv (.t 11))]))
theorem ref01In_L1s_eq (R : Nat → List AV → Option Res) (N : Nat) (K : Ex → St → Option Res) (W : St → Option Res) (i2 : Int) (s2 : List UInt8) (i3 : Int) :
    evC gl R N ref01In_c0 (Kseq (fun st' => W (prune [0, 1, 5] [] st')) K) ⟨[(0, .imm (AV.int .u8 i2)), (1, .imm (AV.str s2)), (5, .imm (AV.int .i64 i3))], []⟩ =
    ref01In_L1s R N (fun (i2 : Int) (s2 : List UInt8) (i3 : Int) => W ⟨[(0, .imm (AV.int .u8 i2)), (1, .imm (AV.str s2)), (5, .imm (AV.int .i64 i3))], []⟩) (fun (b1 : Bool) => K .ret ⟨[(4, .imm (AV.bool b1))], []⟩) (K (.exit 0) ⟨[], []⟩) i2 s2 i3 := by
  kernel_rfl
theorem ref01In_L1_eq (R : Nat → List AV → Option Res) (N : Nat) (K : Ex → St → Option Res) : ∀ (n : Nat) (i2 : Int) (s2 : List UInt8) (i3 : Int),
    rounds [0, 1, 5] [] (evC gl R N ref01In_c0) K n ⟨[(0, .imm (AV.int .u8 i2)), (1, .imm (AV.str s2)), (5, .imm (AV.int .i64 i3))], []⟩ = ref01In_L1 R N (fun (b1 : Bool) => K .ret ⟨[(4, .imm (AV.bool b1))], []⟩) (K (.exit 0) ⟨[], []⟩) n i2 s2 i3
  | 0, _, _, _ => rfl
  | n + 1, i2, s2, i3 => (ref01In_L1s_eq R N K (rounds [0, 1, 5] [] (evC gl R N ref01In_c0) K n) i2 s2 i3).trans
      (congrArg (fun go => ref01In_L1s R N go (fun (b1 : Bool) => K .ret ⟨[(4, .imm (AV.bool b1))], []⟩) (K (.exit 0) ⟨[], []⟩) i2 s2 i3) (funext fun i2 => funext fun s2 => funext fun i3 => ref01In_L1_eq R N K n i2 s2 i3))
def ref01In_c1 : AC := .seq (.region [.op (some 4) none (.mv (.k (AV.bool false)))]) (.ret [4] [])
def ref01In_c2 : AC := .seq (.region [.op (some 4) none (.mv (.k (AV.bool false)))]) (.seq (.seq (.region [.op (some 5) none (.mv (.k (AV.int .i64 0)))]) (.block 0 (.loop [0, 1, 5] [] (ref01In_c0)))) (ref01In_c1))
def ref01In : AFunc := ⟨2, 17, [.tmp 4], ref01In_c2⟩
def ref01Inr (R : Nat → List AV → Option Res) (N : Nat) (i1 : Int) (s1 : List UInt8) : Option Res :=
  ref01In_L1 R N
    (fun b3 =>
      some ⟨AV.bool b3, false, []⟩)
    (
      some ⟨AV.bool false, false, []⟩)
    N i1 s1 0
theorem ref01In_eq (R : Nat → List AV → Option Res) (N : Nat) (i1 : Int) (s1 : List UInt8) : runF gl R N ref01In [AV.int .u8 i1, AV.str s1] = ref01Inr R N i1 s1 := by
  refine Eq.trans (b :=
      rounds [0, 1, 5] [] (evC gl R N ref01In_c0) (Kblock 0 (Kthen gl R N ref01In_c1 (Kret ref01In.rets []))) N ⟨[(0, .imm (AV.int .u8 i1)), (1, .imm (AV.str s1)), (5, .imm (AV.int .i64 0))], []⟩) (by kernel_rfl) ?_
  simp (config := { maxSteps := 100000000 }) only [ref01In_L1_eq]
  kernel_rfl
theorem ref01In_fit : fitF Tryd.prog ref01In Tryd.f38 = true := by
  kernel_rfl

def ref01PlainStarts_c0 : AC := .seq (.region [.op (some 4) none (.mv (.k (AV.bool false)))]) (.seq (.seq (.region [.op (some 5) none (.mv (.t 0)), .op (some 6) none (.len (.t 5) false), .op (some 7) none (.bin .eql (.t 6) (.k (AV.int .i64 0))), .op (some 8) none (.mv (.t 7)), .split 8, .op (some 9) (some (8, false)) (.mv (.t 0)), .op (some 10) (some (8, false)) (.iaddr (.t 9) (.k (AV.int .i64 0)) 1 (.int .u8)), .op (some 11) (some (8, false)) (.load (.t 10) none (.int .u8)), .op (some 12) (some (8, false)) (.bin .eql (.t 11) (.k (AV.int .u8 9))), .op (some 13) none (.pick (.t 8) (.k (AV.bool true)) (.t 12)), .op (some 14) none (.mv (.t 13)), .split 14, .op (some 15) (some (14, false)) (.mv (.t 0)), .op (some 16) (some (14, false)) (.iaddr (.t 15) (.k (AV.int .i64 0)) 1 (.int .u8)), .op (some 17) (some (14, false)) (.load (.t 16) none (.int .u8)), .op (some 18) (some (14, false)) (.bin .eql (.t 17) (.k (AV.int .u8 32))), .op (some 19) none (.pick (.t 14) (.k (AV.bool true)) (.t 18)), .op (some 20) none (.mv (.t 19)), .split 20, .op (some 21) (some (20, false)) (.mv (.t 0)), .op (some 22) (some (20, false)) (.len (.t 21) false), .op (some 23) (some (20, false)) (.bin .geq (.t 22) (.k (AV.int .i64 3))), .op (some 24) (some (20, false)) (.mv (.t 23)), .split 24, .op (some 25) (some (24, true)) (.mv (.t 0)), .op (some 26) (some (24, true)) (.slice (.t 25) none (some (.k (AV.int .i64 3))) 1), .op (some 27) (some (24, true)) (.cvStr (.t 26)), .op (some 28) (some (24, true)) (.bin .eql (.t 27) (.k (AV.str ([45, 45, 45] : List UInt8)))), .op (some 29) (some (24, true)) (.mv (.t 28)), .split 29, .op (some 30) (some (29, false)) (.mv (.t 0)), .op (some 31) (some (29, false)) (.slice (.t 30) none (some (.k (AV.int .i64 3))) 1), .op (some 32) (some (29, false)) (.cvStr (.t 31)), .op (some 33) (some (29, false)) (.bin .eql (.t 32) (.k (AV.str ([46, 46, 46] : List UInt8)))), .op (some 34) (some (24, true)) (.pick (.t 29) (.k (AV.bool true)) (.t 33)), .op (some 35) (some (20, false)) (.pick (.t 24) (.t 34) (.k (AV.bool false))), .op (some 36) none (.pick (.t 20) (.k (AV.bool true)) (.t 35)), .op (some 37) none (.mv (.t 36)), .split 37, .op (some 38) (some (37, false)) (.mv (.t 0)), .op (some 39) (some (37, false)) (.iaddr (.t 38) (.k (AV.int .i64 0)) 1 (.int .u8)), .op (some 40) (some (37, false)) (.load (.t 39) none (.int .u8)), .op (some 41) (some (37, false)) (.call id_ref01In [.t 40, .k (AV.str ([44, 91, 93, 123, 125, 35, 38, 42, 33, 124, 62, 39, 34, 37, 64, 96] : List UInt8))] (.bool)), .op (some 42) none (.pick (.t 37) (.k (AV.bool true)) (.t 41))]) (.cond (.t 42) (.seq (.region [.op (some 4) none (.mv (.k (AV.bool false)))]) (.ret [4] [])) (.skip))) (.seq (.seq (.region [.op (some 43) none (.mv (.t 0)), .op (some 44) none (.iaddr (.t 43) (.k (AV.int .i64 0)) 1 (.int .u8)), .op (some 45) none (.load (.t 44) none (.int .u8)), .op (some 46) none (.call id_ref01In [.t 45, .k (AV.str ([45, 63, 58] : List UInt8))] (.bool)), .op (some 47) none (.un .not (.t 46))]) (.cond (.t 47) (.seq (.region [.op (some 4) none (.mv (.k (AV.bool true)))]) (.ret [4] [])) (.skip))) (.seq (.region [.op (some 48) none (.mv (.t 0)), .op (some 49) none (.len (.t 48) false), .op (some 50) none (.bin .gtr (.t 49) (.k (AV.int .i64 1))), .op (some 51) none (.mv (.t 50)), .split 51, .op (some 52) (some (51, true)) (.mv (.t 0)), .op (some 53) (some (51, true)) (.iaddr (.t 52) (.k (AV.int .i64 1)) 1 (.int .u8)), .op (some 54) (some (51, true)) (.load (.t 53) none (.int .u8)), .op (some 55) (some (51, true)) (.bin .neq (.t 54) (.k (AV.int .u8 9))), .op (some 56) none (.pick (.t 51) (.t 55) (.k (AV.bool false))), .op (some 57) none (.mv (.t 56)), .split 57, .op (some 58) (some (57, true)) (.mv (.t 0)), .op (some 59) (some (57, true)) (.iaddr (.t 58) (.k (AV.int .i64 1)) 1 (.int .u8)), .op (some 60) (some (57, true)) (.load (.t 59) none (.int .u8)), .op (some 61) (some (57, true)) (.bin .neq (.t 60) (.k (AV.int .u8 32))), .op (some 62) none (.pick (.t 57) (.t 61) (.k (AV.bool false))), .op (some 63) none (.mv (.t 62)), .split 63, .op (some 64) (some (63, true)) (.mv (.t 1)), .op (some 65) (some (63, true)) (.mv (.t 64)), .split 65, .op (some 66) (some (65, true)) (.mv (.t 0)), .op (some 67) (some (65, true)) (.iaddr (.t 66) (.k (AV.int .i64 1)) 1 (.int .u8)), .op (some 68) (some (65, true)) (.load (.t 67) none (.int .u8)), .op (some 69) (some (65, true)) (.call id_ref01In [.t 68, .k (AV.str ([44, 91, 93, 123, 125] : List UInt8))] (.bool)), .op (some 70) (some (63, true)) (.pick (.t 65) (.t 69) (.k (AV.bool false))), .op (some 71) (some (63, true)) (.un .not (.t 70)), .op (some 72) none (.pick (.t 63) (.t 71) (.k (AV.bool false))), .op (some 4) none (.mv (.t 72))]) (.ret [4] []))))
def ref01PlainStarts : AFunc := ⟨2, 73, [.tmp 4], ref01PlainStarts_c0⟩
def ref01PlainStartsr (R : Nat → List AV → Option Res) (N : Nat) (s1 : List UInt8) (b1 : Bool) : Option Res :=
  bif (((s1.length : Nat) : Int) : Int) == 0 then
    (some ⟨AV.bool false, false, []⟩)
  else
    need (decide (0 ≤ (0 : Int))) <|
    (s1[Int.toNat 0]?).bind fun c1 =>
    bif ((c1.toNat : Int) : Int) == 9 then
      (some ⟨AV.bool false, false, []⟩)
    else
      need (decide (0 ≤ (0 : Int))) <|
      (s1[Int.toNat 0]?).bind fun c2 =>
      bif ((c2.toNat : Int) : Int) == 32 then
        (some ⟨AV.bool false, false, []⟩)
      else
        bif decide ((((s1.length : Nat) : Int) : Int) ≥ 3) then
          (need (decide (0 ≤ (3 : Int)) && decide ((3 : Int) ≤ ((s1.length : Nat) : Int))) <|
          bif ((s1.take (Int.toNat 3)).drop 0) == ([45, 45, 45] : List UInt8) then
            (some ⟨AV.bool false, false, []⟩)
          else
            need (decide (0 ≤ (3 : Int)) && decide ((3 : Int) ≤ ((s1.length : Nat) : Int))) <|
            bif ((s1.take (Int.toNat 3)).drop 0) == ([46, 46, 46] : List UInt8) then
              (some ⟨AV.bool false, false, []⟩)
            else
              need (decide (0 ≤ (0 : Int))) <|
              (s1[Int.toNat 0]?).bind fun c3 =>
              (R id_ref01In [AV.int .u8 (c3.toNat : Int), AV.str ([44, 91, 93, 123, 125, 35, 38, 42, 33, 124, 62, 39, 34, 37, 64, 96] : List UInt8)]).bind fun r1 =>
              asB r1.v fun b2 =>
              bif b2 then
                (some ⟨AV.bool false, false, []⟩)
              else
                need (decide (0 ≤ (0 : Int))) <|
                (s1[Int.toNat 0]?).bind fun c4 =>
                (R id_ref01In [AV.int .u8 (c4.toNat : Int), AV.str ([45, 63, 58] : List UInt8)]).bind fun r2 =>
                asB r2.v fun b3 =>
                bif !b3 then
                  (some ⟨AV.bool true, false, []⟩)
                else
                  bif decide ((((s1.length : Nat) : Int) : Int) > 1) then
                    (need (decide (0 ≤ (1 : Int))) <|
                    (s1[Int.toNat 1]?).bind fun c5 =>
                    bif ((c5.toNat : Int) : Int) != 9 then
                      (need (decide (0 ≤ (1 : Int))) <|
                      (s1[Int.toNat 1]?).bind fun c6 =>
                      bif ((c6.toNat : Int) : Int) != 32 then
                        (bif b1 then
                          (need (decide (0 ≤ (1 : Int))) <|
                          (s1[Int.toNat 1]?).bind fun c7 =>
                          (R id_ref01In [AV.int .u8 (c7.toNat : Int), AV.str ([44, 91, 93, 123, 125] : List UInt8)]).bind fun r3 =>
                          asB r3.v fun b4 =>
                          some ⟨AV.bool (!b4), false, []⟩)
                        else
                          some ⟨AV.bool true, false, []⟩)
                      else
                        some ⟨AV.bool false, false, []⟩)
                    else
                      some ⟨AV.bool false, false, []⟩)
                  else
                    some ⟨AV.bool false, false, []⟩)
        else
          need (decide (0 ≤ (0 : Int))) <|
          (s1[Int.toNat 0]?).bind fun c8 =>
          (R id_ref01In [AV.int .u8 (c8.toNat : Int), AV.str ([44, 91, 93, 123, 125, 35, 38, 42, 33, 124, 62, 39, 34, 37, 64, 96] : List UInt8)]).bind fun r4 =>
          asB r4.v fun b5 =>
          bif b5 then
            (some ⟨AV.bool false, false, []⟩)
          else
            need (decide (0 ≤ (0 : Int))) <|
            (s1[Int.toNat 0]?).bind fun c9 =>
            (R id_ref01In [AV.int .u8 (c9.toNat : Int), AV.str ([45, 63, 58] : List UInt8)]).bind fun r5 =>
            asB r5.v fun b6 =>
            bif !b6 then
              (some ⟨AV.bool true, false, []⟩)
            else
              bif decide ((((s1.length : Nat) : Int) : Int) > 1) then
                (need (decide (0 ≤ (1 : Int))) <|
                (s1[Int.toNat 1]?).bind fun c10 =>
                bif ((c10.toNat : Int) : Int) != 9 then
                  (need (decide (0 ≤ (1 : Int))) <|
                  (s1[Int.toNat 1]?).bind fun c11 =>
                  bif ((c11.toNat : Int) : Int) != 32 then
                    (bif b1 then
                      (need (decide (0 ≤ (1 : Int))) <|
                      (s1[Int.toNat 1]?).bind fun c12 =>
                      (R id_ref01In [AV.int .u8 (c12.toNat : Int), AV.str ([44, 91, 93, 123, 125] : List UInt8)]).bind fun r6 =>
                      asB r6.v fun b7 =>
                      some ⟨AV.bool (!b7), false, []⟩)
                    else
                      some ⟨AV.bool true, false, []⟩)
                  else
                    some ⟨AV.bool false, false, []⟩)
                else
                  some ⟨AV.bool false, false, []⟩)
              else
                some ⟨AV.bool false, false, []⟩
theorem ref01PlainStarts_eq (R : Nat → List AV → Option Res) (N : Nat) (s1 : List UInt8) (b1 : Bool) : runF gl R N ref01PlainStarts [AV.bytes s1, AV.bool b1] = ref01PlainStartsr R N s1 b1 := by
  kernel_rfl
theorem ref01PlainStarts_fit : fitF Tryd.prog ref01PlainStarts Tryd.f18 = true := by
  kernel_rfl

def ref01PlainLength_L1s (R : Nat → List AV → Option Res) (N : Nat) (go : List UInt8 → Bool → Int → Option Res) (k0 : List UInt8 → Int → Option Res) (s2 : List UInt8) (b3 : Bool) (i1 : Int) : Option Res :=
  bif decide ((i1 : Int) < ((s2.length : Nat) : Int)) then
    (need (decide (0 ≤ (i1 : Int))) <|
    (s2[Int.toNat i1]?).bind fun c1 =>
    bif ((c1.toNat : Int) : Int) == 9 then
      (k0 s2 i1)
    else
      bif ((c1.toNat : Int) : Int) == 58 then
        (bif ((IntKind.i64.wrap (i1 + 1)) : Int) == ((s2.length : Nat) : Int) then
          (k0 s2 i1)
        else
          need (decide (0 ≤ (IntKind.i64.wrap (i1 + 1) : Int))) <|
          (s2[Int.toNat (IntKind.i64.wrap (i1 + 1))]?).bind fun c2 =>
          bif ((c2.toNat : Int) : Int) == 9 then
            (k0 s2 i1)
          else
            need (decide (0 ≤ (IntKind.i64.wrap (i1 + 1) : Int))) <|
            (s2[Int.toNat (IntKind.i64.wrap (i1 + 1))]?).bind fun c3 =>
            bif ((c3.toNat : Int) : Int) == 32 then
              (k0 s2 i1)
            else
              bif b3 then
                (need (decide (0 ≤ (IntKind.i64.wrap (i1 + 1) : Int))) <|
                (s2[Int.toNat (IntKind.i64.wrap (i1 + 1))]?).bind fun c4 =>
                (R id_ref01In [AV.int .u8 (c4.toNat : Int), AV.str ([44, 91, 93, 123, 125] : List UInt8)]).bind fun r2 =>
                asB r2.v fun b4 =>
                bif b4 then
                  (k0 s2 i1)
                else
                  bif ((c1.toNat : Int) : Int) == 35 then
                    (bif decide ((i1 : Int) > 0) then
                      (need (decide (0 ≤ (IntKind.i64.wrap (i1 - 1) : Int))) <|
                      (s2[Int.toNat (IntKind.i64.wrap (i1 - 1))]?).bind fun c5 =>
                      bif ((c5.toNat : Int) : Int) == 32 then
                        (k0 s2 i1)
                      else
                        bif b3 then
                          ((R id_ref01In [AV.int .u8 (c1.toNat : Int), AV.str ([44, 91, 93, 123, 125] : List UInt8)]).bind fun r3 =>
                          asB r3.v fun b5 =>
                          bif b5 then
                            (k0 s2 i1)
                          else
                            go s2 b3 (IntKind.i64.wrap (i1 + 1)))
                        else
                          go s2 b3 (IntKind.i64.wrap (i1 + 1)))
                    else
                      bif b3 then
                        ((R id_ref01In [AV.int .u8 (c1.toNat : Int), AV.str ([44, 91, 93, 123, 125] : List UInt8)]).bind fun r4 =>
                        asB r4.v fun b6 =>
                        bif b6 then
                          (k0 s2 i1)
                        else
                          go s2 b3 (IntKind.i64.wrap (i1 + 1)))
                      else
                        go s2 b3 (IntKind.i64.wrap (i1 + 1)))
                  else
                    bif b3 then
                      ((R id_ref01In [AV.int .u8 (c1.toNat : Int), AV.str ([44, 91, 93, 123, 125] : List UInt8)]).bind fun r5 =>
                      asB r5.v fun b7 =>
                      bif b7 then
                        (k0 s2 i1)
                      else
                        go s2 b3 (IntKind.i64.wrap (i1 + 1)))
                    else
                      go s2 b3 (IntKind.i64.wrap (i1 + 1)))
              else
                bif ((c1.toNat : Int) : Int) == 35 then
                  (bif decide ((i1 : Int) > 0) then
                    (need (decide (0 ≤ (IntKind.i64.wrap (i1 - 1) : Int))) <|
                    (s2[Int.toNat (IntKind.i64.wrap (i1 - 1))]?).bind fun c6 =>
                    bif ((c6.toNat : Int) : Int) == 32 then
                      (k0 s2 i1)
                    else
                      bif b3 then
                        ((R id_ref01In [AV.int .u8 (c1.toNat : Int), AV.str ([44, 91, 93, 123, 125] : List UInt8)]).bind fun r6 =>
                        asB r6.v fun b8 =>
                        bif b8 then
                          (k0 s2 i1)
                        else
                          go s2 b3 (IntKind.i64.wrap (i1 + 1)))
                      else
                        go s2 b3 (IntKind.i64.wrap (i1 + 1)))
                  else
                    bif b3 then
                      ((R id_ref01In [AV.int .u8 (c1.toNat : Int), AV.str ([44, 91, 93, 123, 125] : List UInt8)]).bind fun r7 =>
                      asB r7.v fun b9 =>
                      bif b9 then
                        (k0 s2 i1)
                      else
                        go s2 b3 (IntKind.i64.wrap (i1 + 1)))
                    else
                      go s2 b3 (IntKind.i64.wrap (i1 + 1)))
                else
                  bif b3 then
                    ((R id_ref01In [AV.int .u8 (c1.toNat : Int), AV.str ([44, 91, 93, 123, 125] : List UInt8)]).bind fun r8 =>
                    asB r8.v fun b10 =>
                    bif b10 then
                      (k0 s2 i1)
                    else
                      go s2 b3 (IntKind.i64.wrap (i1 + 1)))
                  else
                    go s2 b3 (IntKind.i64.wrap (i1 + 1)))
      else
        bif ((c1.toNat : Int) : Int) == 35 then
          (bif decide ((i1 : Int) > 0) then
            (need (decide (0 ≤ (IntKind.i64.wrap (i1 - 1) : Int))) <|
            (s2[Int.toNat (IntKind.i64.wrap (i1 - 1))]?).bind fun c7 =>
            bif ((c7.toNat : Int) : Int) == 32 then
              (k0 s2 i1)
            else
              bif b3 then
                ((R id_ref01In [AV.int .u8 (c1.toNat : Int), AV.str ([44, 91, 93, 123, 125] : List UInt8)]).bind fun r9 =>
                asB r9.v fun b11 =>
                bif b11 then
                  (k0 s2 i1)
                else
                  go s2 b3 (IntKind.i64.wrap (i1 + 1)))
              else
                go s2 b3 (IntKind.i64.wrap (i1 + 1)))
          else
            bif b3 then
              ((R id_ref01In [AV.int .u8 (c1.toNat : Int), AV.str ([44, 91, 93, 123, 125] : List UInt8)]).bind fun r10 =>
              asB r10.v fun b12 =>
              bif b12 then
                (k0 s2 i1)
              else
                go s2 b3 (IntKind.i64.wrap (i1 + 1)))
            else
              go s2 b3 (IntKind.i64.wrap (i1 + 1)))
        else
          bif b3 then
            ((R id_ref01In [AV.int .u8 (c1.toNat : Int), AV.str ([44, 91, 93, 123, 125] : List UInt8)]).bind fun r11 =>
            asB r11.v fun b13 =>
            bif b13 then
              (k0 s2 i1)
            else
              go s2 b3 (IntKind.i64.wrap (i1 + 1)))
          else
            go s2 b3 (IntKind.i64.wrap (i1 + 1)))
  else
    k0 s2 i1
def ref01PlainLength_L1 (R : Nat → List AV → Option Res) (N : Nat) (k0 : List UInt8 → Int → Option Res) : Nat → List UInt8 → Bool → Int → Option Res
  | 0, _, _, _ => none
  | n + 1, s2, b3, i1 => ref01PlainLength_L1s R N (ref01PlainLength_L1 R N k0 n) k0 s2 b3 i1
def ref01PlainLength_c0 : AC := .seq (.seq (.region [.op (some 11) none (.mv (.t 5)), .op (some 12) none (.mv (.t 0)), .op (some 13) none (.len (.t 12) false), .op (some 14) none (.bin .lss (.t 11) (.t 13))]) (.cond (.t 14) (.skip) (.exit 0 [0, 5] []))) (.block 1 (.seq (.region [.op (some 15) none (.mv (.t 0)), .op (some 16) none (.mv (.t 5)), .op (some 17) none (.iaddr (.t 15) (.t 16) 1 (.int .u8)), .op (some 18) none (.load (.t 17) none (.int .u8)), .op (some 6) none (.mv (.t 18))]) (.seq (.seq (.region [.op (some 19) none (.mv (.t 6)), .op (some 20) none (.bin .eql (.t 19) (.k (AV.int .u8 9))), .op (some 21) none (.mv (.t 20)), .split 21, .op (some 22) (some (21, false)) (.mv (.t 6)), .op (some 23) (some (21, false)) (.bin .eql (.t 22) (.k (AV.int .u8 58))), .op (some 24) (some (21, false)) (.mv (.t 23)), .split 24, .op (some 25) (some (24, true)) (.mv (.t 5)), .op (some 26) (some (24, true)) (.bin .add (.t 25) (.k (AV.int .i64 1))), .op (some 27) (some (24, true)) (.mv (.t 0)), .op (some 28) (some (24, true)) (.len (.t 27) false), .op (some 29) (some (24, true)) (.bin .eql (.t 26) (.t 28)), .op (some 30) (some (24, true)) (.mv (.t 29)), .split 30, .op (some 31) (some (30, false)) (.mv (.t 0)), .op (some 32) (some (30, false)) (.mv (.t 5)), .op (some 33) (some (30, false)) (.bin .add (.t 32) (.k (AV.int .i64 1))), .op (some 34) (some (30, false)) (.iaddr (.t 31) (.t 33) 1 (.int .u8)), .op (some 35) (some (30, false)) (.load (.t 34) none (.int .u8)), .op (some 36) (some (30, false)) (.bin .eql (.t 35) (.k (AV.int .u8 9))), .op (some 37) (some (24, true)) (.pick (.t 30) (.k (AV.bool true)) (.t 36)), .op (some 38) (some (24, true)) (.mv (.t 37)), .split 38, .op (some 39) (some (38, false)) (.mv (.t 0)), .op (some 40) (some (38, false)) (.mv (.t 5)), .op (some 41) (some (38, false)) (.bin .add (.t 40) (.k (AV.int .i64 1))), .op (some 42) (some (38, false)) (.iaddr (.t 39) (.t 41) 1 (.int .u8)), .op (some 43) (some (38, false)) (.load (.t 42) none (.int .u8)), .op (some 44) (some (38, false)) (.bin .eql (.t 43) (.k (AV.int .u8 32))), .op (some 45) (some (24, true)) (.pick (.t 38) (.k (AV.bool true)) (.t 44)), .op (some 46) (some (24, true)) (.mv (.t 45)), .split 46, .op (some 47) (some (46, false)) (.mv (.t 1)), .op (some 48) (some (46, false)) (.mv (.t 47)), .split 48, .op (some 49) (some (48, true)) (.mv (.t 0)), .op (some 50) (some (48, true)) (.mv (.t 5)), .op (some 51) (some (48, true)) (.bin .add (.t 50) (.k (AV.int .i64 1))), .op (some 52) (some (48, true)) (.iaddr (.t 49) (.t 51) 1 (.int .u8)), .op (some 53) (some (48, true)) (.load (.t 52) none (.int .u8)), .op (some 54) (some (48, true)) (.call id_ref01In [.t 53, .k (AV.str ([44, 91, 93, 123, 125] : List UInt8))] (.bool)), .op (some 55) (some (46, false)) (.pick (.t 48) (.t 54) (.k (AV.bool false))), .op (some 56) (some (24, true)) (.pick (.t 46) (.k (AV.bool true)) (.t 55)), .op (some 57) (some (21, false)) (.pick (.t 24) (.t 56) (.k (AV.bool false))), .op (some 58) none (.pick (.t 21) (.k (AV.bool true)) (.t 57)), .op (some 59) none (.mv (.t 58)), .split 59, .op (some 60) (some (59, false)) (.mv (.t 6)), .op (some 61) (some (59, false)) (.bin .eql (.t 60) (.k (AV.int .u8 35))), .op (some 62) (some (59, false)) (.mv (.t 61)), .split 62, .op (some 63) (some (62, true)) (.mv (.t 5)), .op (some 64) (some (62, true)) (.bin .gtr (.t 63) (.k (AV.int .i64 0))), .op (some 65) (some (59, false)) (.pick (.t 62) (.t 64) (.k (AV.bool false))), .op (some 66) (some (59, false)) (.mv (.t 65)), .split 66, .op (some 67) (some (66, true)) (.mv (.t 0)), .op (some 68) (some (66, true)) (.mv (.t 5)), .op (some 69) (some (66, true)) (.bin .sub (.t 68) (.k (AV.int .i64 1))), .op (some 70) (some (66, true)) (.iaddr (.t 67) (.t 69) 1 (.int .u8)), .op (some 71) (some (66, true)) (.load (.t 70) none (.int .u8)), .op (some 72) (some (66, true)) (.bin .eql (.t 71) (.k (AV.int .u8 32))), .op (some 73) (some (59, false)) (.pick (.t 66) (.t 72) (.k (AV.bool false))), .op (some 74) none (.pick (.t 59) (.k (AV.bool true)) (.t 73)), .op (some 75) none (.mv (.t 74)), .split 75, .op (some 76) (some (75, false)) (.mv (.t 1)), .op (some 77) (some (75, false)) (.mv (.t 76)), .split 77, .op (some 78) (some (77, true)) (.mv (.t 6)), .op (some 79) (some (77, true)) (.call id_ref01In [.t 78, .k (AV.str ([44, 91, 93, 123, 125] : List UInt8))] (.bool)), .op (some 80) (some (75, false)) (.pick (.t 77) (.t 79) (.k (AV.bool false))), .op (some 81) none (.pick (.t 75) (.k (AV.bool true)) (.t 80))]) (.cond (.t 81) (.exit 0 [0, 5] []) (.skip))) (.region [.op (some 82) none (.mv (.t 5)), .op (some 83) none (.bin .add (.t 82) (.k (AV.int .i64 1))), .op (some 5) none (.mv (.t 83))]))))
theorem ref01PlainLength_L1s_eq (R : Nat → List AV → Option Res) (N : Nat) (K : Ex → St → Option Res) (W : St → Option Res) (s2 : List UInt8) (b3 : Bool) (i1 : Int) :
    evC gl R N ref01PlainLength_c0 (Kseq (fun st' => W (prune [0, 1, 5] [] st')) K) ⟨[(0, .imm (AV.bytes s2)), (1, .imm (AV.bool b3)), (5, .imm (AV.int .i64 i1))], []⟩ =
    ref01PlainLength_L1s R N (fun (s2 : List UInt8) (b3 : Bool) (i1 : Int) => W ⟨[(0, .imm (AV.bytes s2)), (1, .imm (AV.bool b3)), (5, .imm (AV.int .i64 i1))], []⟩) (fun (s3 : List UInt8) (i2 : Int) => K (.exit 0) ⟨[(0, .imm (AV.bytes s3)), (5, .imm (AV.int .i64 i2))], []⟩) s2 b3 i1 := by
  kernel_rfl
theorem ref01PlainLength_L1_eq (R : Nat → List AV → Option Res) (N : Nat) (K : Ex → St → Option Res) : ∀ (n : Nat) (s2 : List UInt8) (b3 : Bool) (i1 : Int),
    rounds [0, 1, 5] [] (evC gl R N ref01PlainLength_c0) K n ⟨[(0, .imm (AV.bytes s2)), (1, .imm (AV.bool b3)), (5, .imm (AV.int .i64 i1))], []⟩ = ref01PlainLength_L1 R N (fun (s3 : List UInt8) (i2 : Int) => K (.exit 0) ⟨[(0, .imm (AV.bytes s3)), (5, .imm (AV.int .i64 i2))], []⟩) n s2 b3 i1
  | 0, _, _, _ => rfl
  | n + 1, s2, b3, i1 => (ref01PlainLength_L1s_eq R N K (rounds [0, 1, 5] [] (evC gl R N ref01PlainLength_c0) K n) s2 b3 i1).trans
      (congrArg (fun go => ref01PlainLength_L1s R N go (fun (s3 : List UInt8) (i2 : Int) => K (.exit 0) ⟨[(0, .imm (AV.bytes s3)), (5, .imm (AV.int .i64 i2))], []⟩) s2 b3 i1) (funext fun s2 => funext fun b3 => funext fun i1 => ref01PlainLength_L1_eq R N K n s2 b3 i1))
def ref01PlainLength_L2s (R : Nat → List AV → Option Res) (N : Nat) (go : List UInt8 → Int → Option Res) (k0 : Int → Option Res) (s6 : List UInt8) (i5 : Int) : Option Res :=
  bif decide ((i5 : Int) > 0) then
    (need (decide (0 ≤ (IntKind.i64.wrap (i5 - 1) : Int))) <|
    (s6[Int.toNat (IntKind.i64.wrap (i5 - 1))]?).bind fun c8 =>
    bif ((c8.toNat : Int) : Int) == 32 then
      (go s6 (IntKind.i64.wrap (i5 - 1)))
    else
      k0 i5)
  else
    k0 i5
def ref01PlainLength_L2 (R : Nat → List AV → Option Res) (N : Nat) (k0 : Int → Option Res) : Nat → List UInt8 → Int → Option Res
  | 0, _, _ => none
  | n + 1, s6, i5 => ref01PlainLength_L2s R N (ref01PlainLength_L2 R N k0 n) k0 s6 i5
def ref01PlainLength_c1 : AC := .seq (.seq (.region [.op (some 84) none (.mv (.t 5)), .op (some 85) none (.bin .gtr (.t 84) (.k (AV.int .i64 0))), .op (some 86) none (.mv (.t 85)), .split 86, .op (some 87) (some (86, true)) (.mv (.t 0)), .op (some 88) (some (86, true)) (.mv (.t 5)), .op (some 89) (some (86, true)) (.bin .sub (.t 88) (.k (AV.int .i64 1))), .op (some 90) (some (86, true)) (.iaddr (.t 87) (.t 89) 1 (.int .u8)), .op (some 91) (some (86, true)) (.load (.t 90) none (.int .u8)), .op (some 92) (some (86, true)) (.bin .eql (.t 91) (.k (AV.int .u8 32))), .op (some 93) none (.pick (.t 86) (.t 92) (.k (AV.bool false)))]) (.cond (.t 93) (.skip) (.exit 2 [5] []))) (.block 3 (.region [.op (some 94) none (.mv (.t 5)), .op (some 95) none (.bin .sub (.t 94) (.k (AV.int .i64 1))), .op (some 5) none (.mv (.t 95))]))
theorem ref01PlainLength_L2s_eq (R : Nat → List AV → Option Res) (N : Nat) (K : Ex → St → Option Res) (W : St → Option Res) (s6 : List UInt8) (i5 : Int) :
    evC gl R N ref01PlainLength_c1 (Kseq (fun st' => W (prune [0, 5] [] st')) K) ⟨[(0, .imm (AV.bytes s6)), (5, .imm (AV.int .i64 i5))], []⟩ =
    ref01PlainLength_L2s R N (fun (s6 : List UInt8) (i5 : Int) => W ⟨[(0, .imm (AV.bytes s6)), (5, .imm (AV.int .i64 i5))], []⟩) (fun (i6 : Int) => K (.exit 2) ⟨[(5, .imm (AV.int .i64 i6))], []⟩) s6 i5 := by
  kernel_rfl
theorem ref01PlainLength_L2_eq (R : Nat → List AV → Option Res) (N : Nat) (K : Ex → St → Option Res) : ∀ (n : Nat) (s6 : List UInt8) (i5 : Int),
    rounds [0, 5] [] (evC gl R N ref01PlainLength_c1) K n ⟨[(0, .imm (AV.bytes s6)), (5, .imm (AV.int .i64 i5))], []⟩ = ref01PlainLength_L2 R N (fun (i6 : Int) => K (.exit 2) ⟨[(5, .imm (AV.int .i64 i6))], []⟩) n s6 i5
  | 0, _, _ => rfl
  | n + 1, s6, i5 => (ref01PlainLength_L2s_eq R N K (rounds [0, 5] [] (evC gl R N ref01PlainLength_c1) K n) s6 i5).trans
      (congrArg (fun go => ref01PlainLength_L2s R N go (fun (i6 : Int) => K (.exit 2) ⟨[(5, .imm (AV.int .i64 i6))], []⟩) s6 i5) (funext fun s6 => funext fun i5 => ref01PlainLength_L2_eq R N K n s6 i5))
def ref01PlainLength_c2 : AC := .seq (.region [.op (some 96) none (.mv (.t 5)), .op (some 4) none (.mv (.t 96))]) (.ret [4] [])
def ref01PlainLength_c3 : AC := .seq (.block 2 (.loop [0, 5] [] (ref01PlainLength_c1))) (ref01PlainLength_c2)
def ref01PlainLength_c4 : AC := .seq (.region [.op (some 4) none (.mv (.k (AV.int .i64 0)))]) (.seq (.seq (.region [.op (some 7) none (.mv (.t 0)), .op (some 8) none (.mv (.t 1)), .op (some 9) none (.call id_ref01PlainStarts [.t 7, .t 8] (.bool)), .op (some 10) none (.un .not (.t 9))]) (.cond (.t 10) (.seq (.region [.op (some 4) none (.mv (.k (AV.int .i64 0)))]) (.ret [4] [])) (.skip))) (.seq (.region [.op (some 5) none (.mv (.k (AV.int .i64 0)))]) (.seq (.block 0 (.loop [0, 1, 5] [] (ref01PlainLength_c0))) (ref01PlainLength_c3))))
def ref01PlainLength : AFunc := ⟨2, 97, [.tmp 4], ref01PlainLength_c4⟩
def ref01PlainLengthr (R : Nat → List AV → Option Res) (N : Nat) (s1 : List UInt8) (b1 : Bool) : Option Res :=
  (R id_ref01PlainStarts [AV.bytes s1, AV.bool b1]).bind fun r1 =>
  asB r1.v fun b2 =>
  bif !b2 then
    (some ⟨AV.int .i64 0, false, []⟩)
  else
    ref01PlainLength_L1 R N
      (fun s5 i4 =>
        ref01PlainLength_L2 R N
          (fun i8 =>
            some ⟨AV.int .i64 i8, false, []⟩)
          N s5 i4)
      N s1 b1 0
theorem ref01PlainLength_eq (R : Nat → List AV → Option Res) (N : Nat) (s1 : List UInt8) (b1 : Bool) : runF gl R N ref01PlainLength [AV.bytes s1, AV.bool b1] = ref01PlainLengthr R N s1 b1 := by
  refine Eq.trans (b :=
      (R id_ref01PlainStarts [AV.bytes s1, AV.bool b1]).bind fun r1 =>
      asB r1.v fun b2 =>
      bif !b2 then
        (some ⟨AV.int .i64 0, false, []⟩)
      else
        rounds [0, 1, 5] [] (evC gl R N ref01PlainLength_c0) (Kblock 0 (Kthen gl R N ref01PlainLength_c3 (Kret ref01PlainLength.rets []))) N ⟨[(0, .imm (AV.bytes s1)), (1, .imm (AV.bool b1)), (5, .imm (AV.int .i64 0))], []⟩) (by kernel_rfl) ?_
  simp (config := { maxSteps := 100000000 }) only [ref01PlainLength_L1_eq, ref01PlainLength_L2_eq]
  refine Eq.trans (b :=
      (R id_ref01PlainStarts [AV.bytes s1, AV.bool b1]).bind fun r1 =>
      asB r1.v fun b2 =>
      bif !b2 then
        (some ⟨AV.int .i64 0, false, []⟩)
      else
        ref01PlainLength_L1 R N
          (fun s5 i4 =>
            rounds [0, 5] [] (evC gl R N ref01PlainLength_c1) (Kblock 2 (Kthen gl R N ref01PlainLength_c2 (Kret ref01PlainLength.rets []))) N ⟨[(0, .imm (AV.bytes s5)), (5, .imm (AV.int .i64 i4))], []⟩)
          N s1 b1 0) (by kernel_rfl) ?_
  simp (config := { maxSteps := 100000000 }) only [ref01PlainLength_L1_eq, ref01PlainLength_L2_eq]
  kernel_rfl
theorem ref01PlainLength_fit : fitF Tryd.prog ref01PlainLength Tryd.f19 = true := by
  kernel_rfl

def ref01Rune_L1s (R : Nat → List AV → Option Res) (N : Nat) (go : List UInt8 → Int → Int → Int → Int → Option Res) (k0 : Int → Int → Bool → Option Res) (k1 : Int → Int → Int → Option Res) (s2 : List UInt8) (i1 : Int) (i2 : Int) (i3 : Int) (i4 : Int) : Option Res :=
  bif decide ((i4 : Int) < i1) then
    (need (decide (0 ≤ (i4 : Int))) <|
    (s2[Int.toNat i4]?).bind fun c2 =>
    bif ((IntKind.u8.wrap (BitVec.ofInt IntKind.u8.bits (c2.toNat : Int) &&& BitVec.ofInt IntKind.u8.bits 192).toNat) : Int) != 128 then
      (k0 0 1 false)
    else
      need (!decide (6 < 0)) <|
      need (decide (0 ≤ (i4 : Int))) <|
      (s2[Int.toNat i4]?).bind fun c3 =>
      go s2 i1 i2 (IntKind.i32.wrap (BitVec.ofInt IntKind.i32.bits (IntKind.i32.wrap (i3 * 2 ^ (min (Int.toNat 6) IntKind.i32.bits))) ||| BitVec.ofInt IntKind.i32.bits (IntKind.i32.wrap (IntKind.u8.wrap (BitVec.ofInt IntKind.u8.bits (c3.toNat : Int) &&& BitVec.ofInt IntKind.u8.bits 63).toNat))).toNat) (IntKind.i64.wrap (i4 + 1)))
  else
    k1 i1 i2 i3
def ref01Rune_L1 (R : Nat → List AV → Option Res) (N : Nat) (k0 : Int → Int → Bool → Option Res) (k1 : Int → Int → Int → Option Res) : Nat → List UInt8 → Int → Int → Int → Int → Option Res
  | 0, _, _, _, _, _ => none
  | n + 1, s2, i1, i2, i3, i4 => ref01Rune_L1s R N (ref01Rune_L1 R N k0 k1 n) k0 k1 s2 i1 i2 i3 i4
def ref01Rune_c0 : AC := .seq (.seq (.region [.op (some 55) none (.mv (.t 9)), .op (some 56) none (.mv (.t 6)), .op (some 57) none (.bin .lss (.t 55) (.t 56))]) (.cond (.t 57) (.skip) (.exit 1 [6, 7, 8] []))) (.seq (.block 2 (.seq (.seq (.region [.op (some 60) none (.mv (.t 0)), .op (some 61) none (.mv (.t 9)), .op (some 62) none (.iaddr (.t 60) (.t 61) 1 (.int .u8)), .op (some 63) none (.load (.t 62) none (.int .u8)), .op (some 64) none (.bin .and (.t 63) (.k (AV.int .u8 192))), .op (some 65) none (.bin .neq (.t 64) (.k (AV.int .u8 128)))]) (.cond (.t 65) (.seq (.region [.op (some 2) none (.mv (.k (AV.int .i32 0))), .op (some 3) none (.mv (.k (AV.int .i64 1))), .op (some 4) none (.mv (.k (AV.bool false)))]) (.ret [2, 3, 4] [])) (.skip))) (.region [.op (some 66) none (.mv (.t 8)), .op (some 67) none (.bin .shl (.t 66) (.k (AV.int .u64 6))), .op (some 68) none (.mv (.t 0)), .op (some 69) none (.mv (.t 9)), .op (some 70) none (.iaddr (.t 68) (.t 69) 1 (.int .u8)), .op (some 71) none (.load (.t 70) none (.int .u8)), .op (some 72) none (.bin .and (.t 71) (.k (AV.int .u8 63))), .op (some 73) none (.cvInt .i32 (.t 72)), .op (some 74) none (.bin .or (.t 67) (.t 73)), .op (some 8) none (.mv (.t 74))]))) (.region [.op (some 58) none (.mv (.t 9)), .op (some 59) none (.bin .add (.t 58) (.k (AV.int .i64 1))), .op (some 9) none (.mv (.t 59))]))
theorem ref01Rune_L1s_eq (R : Nat → List AV → Option Res) (N : Nat) (K : Ex → St → Option Res) (W : St → Option Res) (s2 : List UInt8) (i1 : Int) (i2 : Int) (i3 : Int) (i4 : Int) :
    evC gl R N ref01Rune_c0 (Kseq (fun st' => W (prune [0, 6, 7, 8, 9] [] st')) K) ⟨[(0, .imm (AV.bytes s2)), (6, .imm (AV.int .i64 i1)), (7, .imm (AV.int .i32 i2)), (8, .imm (AV.int .i32 i3)), (9, .imm (AV.int .i64 i4))], []⟩ =
    ref01Rune_L1s R N (fun (s2 : List UInt8) (i1 : Int) (i2 : Int) (i3 : Int) (i4 : Int) => W ⟨[(0, .imm (AV.bytes s2)), (6, .imm (AV.int .i64 i1)), (7, .imm (AV.int .i32 i2)), (8, .imm (AV.int .i32 i3)), (9, .imm (AV.int .i64 i4))], []⟩) (fun (i5 : Int) (i6 : Int) (b1 : Bool) => K .ret ⟨[(2, .imm (AV.int .i32 i5)), (3, .imm (AV.int .i64 i6)), (4, .imm (AV.bool b1))], []⟩) (fun (i7 : Int) (i8 : Int) (i9 : Int) => K (.exit 1) ⟨[(6, .imm (AV.int .i64 i7)), (7, .imm (AV.int .i32 i8)), (8, .imm (AV.int .i32 i9))], []⟩) s2 i1 i2 i3 i4 := by
  kernel_rfl
theorem ref01Rune_L1_eq (R : Nat → List AV → Option Res) (N : Nat) (K : Ex → St → Option Res) : ∀ (n : Nat) (s2 : List UInt8) (i1 : Int) (i2 : Int) (i3 : Int) (i4 : Int),
    rounds [0, 6, 7, 8, 9] [] (evC gl R N ref01Rune_c0) K n ⟨[(0, .imm (AV.bytes s2)), (6, .imm (AV.int .i64 i1)), (7, .imm (AV.int .i32 i2)), (8, .imm (AV.int .i32 i3)), (9, .imm (AV.int .i64 i4))], []⟩ = ref01Rune_L1 R N (fun (i5 : Int) (i6 : Int) (b1 : Bool) => K .ret ⟨[(2, .imm (AV.int .i32 i5)), (3, .imm (AV.int .i64 i6)), (4, .imm (AV.bool b1))], []⟩) (fun (i7 : Int) (i8 : Int) (i9 : Int) => K (.exit 1) ⟨[(6, .imm (AV.int .i64 i7)), (7, .imm (AV.int .i32 i8)), (8, .imm (AV.int .i32 i9))], []⟩) n s2 i1 i2 i3 i4
  | 0, _, _, _, _, _ => rfl
  | n + 1, s2, i1, i2, i3, i4 => (ref01Rune_L1s_eq R N K (rounds [0, 6, 7, 8, 9] [] (evC gl R N ref01Rune_c0) K n) s2 i1 i2 i3 i4).trans
      (congrArg (fun go => ref01Rune_L1s R N go (fun (i5 : Int) (i6 : Int) (b1 : Bool) => K .ret ⟨[(2, .imm (AV.int .i32 i5)), (3, .imm (AV.int .i64 i6)), (4, .imm (AV.bool b1))], []⟩) (fun (i7 : Int) (i8 : Int) (i9 : Int) => K (.exit 1) ⟨[(6, .imm (AV.int .i64 i7)), (7, .imm (AV.int .i32 i8)), (8, .imm (AV.int .i32 i9))], []⟩) s2 i1 i2 i3 i4) (funext fun s2 => funext fun i1 => funext fun i2 => funext fun i3 => funext fun i4 => ref01Rune_L1_eq R N K n s2 i1 i2 i3 i4))
def ref01Rune_c1 : AC := .seq (.seq (.region [.op (some 75) none (.mv (.t 8)), .op (some 76) none (.mv (.t 7)), .op (some 77) none (.bin .lss (.t 75) (.t 76)), .op (some 78) none (.mv (.t 77)), .split 78, .op (some 79) (some (78, false)) (.mv (.t 8)), .op (some 80) (some (78, false)) (.bin .gtr (.t 79) (.k (AV.int .i32 1114111))), .op (some 81) none (.pick (.t 78) (.k (AV.bool true)) (.t 80)), .op (some 82) none (.mv (.t 81)), .split 82, .op (some 83) (some (82, false)) (.mv (.t 8)), .op (some 84) (some (82, false)) (.bin .geq (.t 83) (.k (AV.int .i32 55296))), .op (some 85) (some (82, false)) (.mv (.t 84)), .split 85, .op (some 86) (some (85, true)) (.mv (.t 8)), .op (some 87) (some (85, true)) (.bin .leq (.t 86) (.k (AV.int .i32 57343))), .op (some 88) (some (82, false)) (.pick (.t 85) (.t 87) (.k (AV.bool false))), .op (some 89) none (.pick (.t 82) (.k (AV.bool true)) (.t 88))]) (.cond (.t 89) (.seq (.region [.op (some 2) none (.mv (.k (AV.int .i32 0))), .op (some 3) none (.mv (.k (AV.int .i64 1))), .op (some 4) none (.mv (.k (AV.bool false)))]) (.ret [2, 3, 4] [])) (.skip))) (.seq (.region [.op (some 90) none (.mv (.t 8)), .op (some 91) none (.mv (.t 6)), .op (some 2) none (.mv (.t 90)), .op (some 3) none (.mv (.t 91)), .op (some 4) none (.mv (.k (AV.bool true)))]) (.ret [2, 3, 4] []))
def ref01Rune_c2 : AC := .seq (.region [.op (some 2) none (.mv (.k (AV.int .i32 0))), .op (some 3) none (.mv (.k (AV.int .i64 0))), .op (some 4) none (.mv (.k (AV.bool false)))]) (.seq (.seq (.region [.op (some 10) none (.mv (.t 0)), .op (some 11) none (.len (.t 10) false), .op (some 12) none (.bin .eql (.t 11) (.k (AV.int .i64 0)))]) (.cond (.t 12) (.seq (.region [.op (some 2) none (.mv (.k (AV.int .i32 0))), .op (some 3) none (.mv (.k (AV.int .i64 0))), .op (some 4) none (.mv (.k (AV.bool false)))]) (.ret [2, 3, 4] [])) (.skip))) (.seq (.region [.op (some 13) none (.mv (.t 0)), .op (some 14) none (.iaddr (.t 13) (.k (AV.int .i64 0)) 1 (.int .u8)), .op (some 15) none (.load (.t 14) none (.int .u8)), .op (some 5) none (.mv (.t 15))]) (.seq (.region [.op (some 6) none (.mv (.k (AV.int .i64 0))), .op (some 7) none (.mv (.k (AV.int .i32 0)))]) (.seq (.region [.op (some 8) none (.mv (.k (AV.int .i32 0)))]) (.seq (.block 0 (.seq (.region [.op (some 17) none (.mv (.t 5)), .op (some 18) none (.bin .lss (.t 17) (.k (AV.int .u8 128))), .op (some 16) none (.mv (.t 18))]) (.cond (.t 16) (.seq (.region [.op (some 19) none (.mv (.t 5)), .op (some 20) none (.cvInt .i32 (.t 19)), .op (some 2) none (.mv (.t 20)), .op (some 3) none (.mv (.k (AV.int .i64 1))), .op (some 4) none (.mv (.k (AV.bool true)))]) (.ret [2, 3, 4] [])) (.seq (.region [.op (some 22) none (.mv (.t 5)), .op (some 23) none (.bin .geq (.t 22) (.k (AV.int .u8 194))), .op (some 24) none (.mv (.t 23)), .split 24, .op (some 25) (some (24, true)) (.mv (.t 5)), .op (some 26) (some (24, true)) (.bin .leq (.t 25) (.k (AV.int .u8 223))), .op (some 27) none (.pick (.t 24) (.t 26) (.k (AV.bool false))), .op (some 21) none (.mv (.t 27))]) (.cond (.t 21) (.region [.op (some 28) none (.mv (.t 5)), .op (some 29) none (.bin .and (.t 28) (.k (AV.int .u8 31))), .op (some 30) none (.cvInt .i32 (.t 29)), .op (some 6) none (.mv (.k (AV.int .i64 2))), .op (some 7) none (.mv (.k (AV.int .i32 128))), .op (some 8) none (.mv (.t 30))]) (.seq (.region [.op (some 32) none (.mv (.t 5)), .op (some 33) none (.bin .geq (.t 32) (.k (AV.int .u8 224))), .op (some 34) none (.mv (.t 33)), .split 34, .op (some 35) (some (34, true)) (.mv (.t 5)), .op (some 36) (some (34, true)) (.bin .leq (.t 35) (.k (AV.int .u8 239))), .op (some 37) none (.pick (.t 34) (.t 36) (.k (AV.bool false))), .op (some 31) none (.mv (.t 37))]) (.cond (.t 31) (.region [.op (some 38) none (.mv (.t 5)), .op (some 39) none (.bin .and (.t 38) (.k (AV.int .u8 15))), .op (some 40) none (.cvInt .i32 (.t 39)), .op (some 6) none (.mv (.k (AV.int .i64 3))), .op (some 7) none (.mv (.k (AV.int .i32 2048))), .op (some 8) none (.mv (.t 40))]) (.seq (.region [.op (some 42) none (.mv (.t 5)), .op (some 43) none (.bin .geq (.t 42) (.k (AV.int .u8 240))), .op (some 44) none (.mv (.t 43)), .split 44, .op (some 45) (some (44, true)) (.mv (.t 5)), .op (some 46) (some (44, true)) (.bin .leq (.t 45) (.k (AV.int .u8 244))), .op (some 47) none (.pick (.t 44) (.t 46) (.k (AV.bool false))), .op (some 41) none (.mv (.t 47))]) (.cond (.t 41) (.region [.op (some 48) none (.mv (.t 5)), .op (some 49) none (.bin .and (.t 48) (.k (AV.int .u8 7))), .op (some 50) none (.cvInt .i32 (.t 49)), .op (some 6) none (.mv (.k (AV.int .i64 4))), .op (some 7) none (.mv (.k (AV.int .i32 65536))), .op (some 8) none (.mv (.t 50))]) (.seq (.region [.op (some 2) none (.mv (.k (AV.int .i32 0))), .op (some 3) none (.mv (.k (AV.int .i64 1))), .op (some 4) none (.mv (.k (AV.bool false)))]) (.ret [2, 3, 4] []))))))))))) (.seq (.seq (.region [.op (some 51) none (.mv (.t 0)), .op (some 52) none (.len (.t 51) false), .op (some 53) none (.mv (.t 6)), .op (some 54) none (.bin .lss (.t 52) (.t 53))]) (.cond (.t 54) (.seq (.region [.op (some 2) none (.mv (.k (AV.int .i32 0))), .op (some 3) none (.mv (.k (AV.int .i64 1))), .op (some 4) none (.mv (.k (AV.bool false)))]) (.ret [2, 3, 4] [])) (.skip))) (.seq (.seq (.region [.op (some 9) none (.mv (.k (AV.int .i64 1)))]) (.block 1 (.loop [0, 6, 7, 8, 9] [] (ref01Rune_c0)))) (ref01Rune_c1))))))))
def ref01Rune : AFunc := ⟨1, 92, [.tmp 2, .tmp 3, .tmp 4], ref01Rune_c2⟩
def ref01Runer (R : Nat → List AV → Option Res) (N : Nat) (s1 : List UInt8) : Option Res :=
  bif (((s1.length : Nat) : Int) : Int) == 0 then
    (some ⟨AV.tup [AV.int .i32 0, AV.int .i64 0, AV.bool false], false, []⟩)
  else
    need (decide (0 ≤ (0 : Int))) <|
    (s1[Int.toNat 0]?).bind fun c1 =>
    bif decide (((c1.toNat : Int) : Int) < 128) then
      (some ⟨AV.tup [AV.int .i32 (IntKind.i32.wrap (c1.toNat : Int)), AV.int .i64 1, AV.bool true], false, []⟩)
    else
      bif decide (((c1.toNat : Int) : Int) ≥ 194) then
        (bif decide (((c1.toNat : Int) : Int) ≤ 223) then
          (bif decide ((((s1.length : Nat) : Int) : Int) < 2) then
            (some ⟨AV.tup [AV.int .i32 0, AV.int .i64 1, AV.bool false], false, []⟩)
          else
            ref01Rune_L1 R N
              (fun i15 i16 b3 =>
                some ⟨AV.tup [AV.int .i32 i15, AV.int .i64 i16, AV.bool b3], false, []⟩)
              (fun i17 i18 i19 =>
                bif decide ((i19 : Int) < i18) then
                  (some ⟨AV.tup [AV.int .i32 0, AV.int .i64 1, AV.bool false], false, []⟩)
                else
                  bif decide ((i19 : Int) > 1114111) then
                    (some ⟨AV.tup [AV.int .i32 0, AV.int .i64 1, AV.bool false], false, []⟩)
                  else
                    bif decide ((i19 : Int) ≥ 55296) then
                      (bif decide ((i19 : Int) ≤ 57343) then
                        (some ⟨AV.tup [AV.int .i32 0, AV.int .i64 1, AV.bool false], false, []⟩)
                      else
                        some ⟨AV.tup [AV.int .i32 i19, AV.int .i64 i17, AV.bool true], false, []⟩)
                    else
                      some ⟨AV.tup [AV.int .i32 i19, AV.int .i64 i17, AV.bool true], false, []⟩)
              N s1 2 128 (IntKind.i32.wrap (IntKind.u8.wrap (BitVec.ofInt IntKind.u8.bits (c1.toNat : Int) &&& BitVec.ofInt IntKind.u8.bits 31).toNat)) 1)
        else
          bif decide (((c1.toNat : Int) : Int) ≥ 224) then
            (bif decide (((c1.toNat : Int) : Int) ≤ 239) then
              (bif decide ((((s1.length : Nat) : Int) : Int) < 3) then
                (some ⟨AV.tup [AV.int .i32 0, AV.int .i64 1, AV.bool false], false, []⟩)
              else
                ref01Rune_L1 R N
                  (fun i20 i21 b4 =>
                    some ⟨AV.tup [AV.int .i32 i20, AV.int .i64 i21, AV.bool b4], false, []⟩)
                  (fun i22 i23 i24 =>
                    bif decide ((i24 : Int) < i23) then
                      (some ⟨AV.tup [AV.int .i32 0, AV.int .i64 1, AV.bool false], false, []⟩)
                    else
                      bif decide ((i24 : Int) > 1114111) then
                        (some ⟨AV.tup [AV.int .i32 0, AV.int .i64 1, AV.bool false], false, []⟩)
                      else
                        bif decide ((i24 : Int) ≥ 55296) then
                          (bif decide ((i24 : Int) ≤ 57343) then
                            (some ⟨AV.tup [AV.int .i32 0, AV.int .i64 1, AV.bool false], false, []⟩)
                          else
                            some ⟨AV.tup [AV.int .i32 i24, AV.int .i64 i22, AV.bool true], false, []⟩)
                        else
                          some ⟨AV.tup [AV.int .i32 i24, AV.int .i64 i22, AV.bool true], false, []⟩)
                  N s1 3 2048 (IntKind.i32.wrap (IntKind.u8.wrap (BitVec.ofInt IntKind.u8.bits (c1.toNat : Int) &&& BitVec.ofInt IntKind.u8.bits 15).toNat)) 1)
            else
              bif decide (((c1.toNat : Int) : Int) ≥ 240) then
                (bif decide (((c1.toNat : Int) : Int) ≤ 244) then
                  (bif decide ((((s1.length : Nat) : Int) : Int) < 4) then
                    (some ⟨AV.tup [AV.int .i32 0, AV.int .i64 1, AV.bool false], false, []⟩)
                  else
                    ref01Rune_L1 R N
                      (fun i25 i26 b5 =>
                        some ⟨AV.tup [AV.int .i32 i25, AV.int .i64 i26, AV.bool b5], false, []⟩)
                      (fun i27 i28 i29 =>
                        bif decide ((i29 : Int) < i28) then
                          (some ⟨AV.tup [AV.int .i32 0, AV.int .i64 1, AV.bool false], false, []⟩)
                        else
                          bif decide ((i29 : Int) > 1114111) then
                            (some ⟨AV.tup [AV.int .i32 0, AV.int .i64 1, AV.bool false], false, []⟩)
                          else
                            bif decide ((i29 : Int) ≥ 55296) then
                              (bif decide ((i29 : Int) ≤ 57343) then
                                (some ⟨AV.tup [AV.int .i32 0, AV.int .i64 1, AV.bool false], false, []⟩)
                              else
                                some ⟨AV.tup [AV.int .i32 i29, AV.int .i64 i27, AV.bool true], false, []⟩)
                            else
                              some ⟨AV.tup [AV.int .i32 i29, AV.int .i64 i27, AV.bool true], false, []⟩)
                      N s1 4 65536 (IntKind.i32.wrap (IntKind.u8.wrap (BitVec.ofInt IntKind.u8.bits (c1.toNat : Int) &&& BitVec.ofInt IntKind.u8.bits 7).toNat)) 1)
                else
                  some ⟨AV.tup [AV.int .i32 0, AV.int .i64 1, AV.bool false], false, []⟩)
              else
                some ⟨AV.tup [AV.int .i32 0, AV.int .i64 1, AV.bool false], false, []⟩)
          else
            bif decide (((c1.toNat : Int) : Int) ≥ 240) then
              (bif decide (((c1.toNat : Int) : Int) ≤ 244) then
                (bif decide ((((s1.length : Nat) : Int) : Int) < 4) then
                  (some ⟨AV.tup [AV.int .i32 0, AV.int .i64 1, AV.bool false], false, []⟩)
                else
                  ref01Rune_L1 R N
                    (fun i30 i31 b6 =>
                      some ⟨AV.tup [AV.int .i32 i30, AV.int .i64 i31, AV.bool b6], false, []⟩)
                    (fun i32 i33 i34 =>
                      bif decide ((i34 : Int) < i33) then
                        (some ⟨AV.tup [AV.int .i32 0, AV.int .i64 1, AV.bool false], false, []⟩)
                      else
                        bif decide ((i34 : Int) > 1114111) then
                          (some ⟨AV.tup [AV.int .i32 0, AV.int .i64 1, AV.bool false], false, []⟩)
                        else
                          bif decide ((i34 : Int) ≥ 55296) then
                            (bif decide ((i34 : Int) ≤ 57343) then
                              (some ⟨AV.tup [AV.int .i32 0, AV.int .i64 1, AV.bool false], false, []⟩)
                            else
                              some ⟨AV.tup [AV.int .i32 i34, AV.int .i64 i32, AV.bool true], false, []⟩)
                          else
                            some ⟨AV.tup [AV.int .i32 i34, AV.int .i64 i32, AV.bool true], false, []⟩)
                    N s1 4 65536 (IntKind.i32.wrap (IntKind.u8.wrap (BitVec.ofInt IntKind.u8.bits (c1.toNat : Int) &&& BitVec.ofInt IntKind.u8.bits 7).toNat)) 1)
              else
                some ⟨AV.tup [AV.int .i32 0, AV.int .i64 1, AV.bool false], false, []⟩)
            else
              some ⟨AV.tup [AV.int .i32 0, AV.int .i64 1, AV.bool false], false, []⟩)
      else
        bif decide (((c1.toNat : Int) : Int) ≥ 224) then
          (bif decide (((c1.toNat : Int) : Int) ≤ 239) then
            (bif decide ((((s1.length : Nat) : Int) : Int) < 3) then
              (some ⟨AV.tup [AV.int .i32 0, AV.int .i64 1, AV.bool false], false, []⟩)
            else
              ref01Rune_L1 R N
                (fun i35 i36 b7 =>
                  some ⟨AV.tup [AV.int .i32 i35, AV.int .i64 i36, AV.bool b7], false, []⟩)
                (fun i37 i38 i39 =>
                  bif decide ((i39 : Int) < i38) then
                    (some ⟨AV.tup [AV.int .i32 0, AV.int .i64 1, AV.bool false], false, []⟩)
                  else
                    bif decide ((i39 : Int) > 1114111) then
                      (some ⟨AV.tup [AV.int .i32 0, AV.int .i64 1, AV.bool false], false, []⟩)
                    else
                      bif decide ((i39 : Int) ≥ 55296) then
                        (bif decide ((i39 : Int) ≤ 57343) then
                          (some ⟨AV.tup [AV.int .i32 0, AV.int .i64 1, AV.bool false], false, []⟩)
                        else
                          some ⟨AV.tup [AV.int .i32 i39, AV.int .i64 i37, AV.bool true], false, []⟩)
                      else
                        some ⟨AV.tup [AV.int .i32 i39, AV.int .i64 i37, AV.bool true], false, []⟩)
                N s1 3 2048 (IntKind.i32.wrap (IntKind.u8.wrap (BitVec.ofInt IntKind.u8.bits (c1.toNat : Int) &&& BitVec.ofInt IntKind.u8.bits 15).toNat)) 1)
          else
            bif decide (((c1.toNat : Int) : Int) ≥ 240) then
              (bif decide (((c1.toNat : Int) : Int) ≤ 244) then
                (bif decide ((((s1.length : Nat) : Int) : Int) < 4) then
                  (some ⟨AV.tup [AV.int .i32 0, AV.int .i64 1, AV.bool false], false, []⟩)
                else
                  ref01Rune_L1 R N
                    (fun i40 i41 b8 =>
                      some ⟨AV.tup [AV.int .i32 i40, AV.int .i64 i41, AV.bool b8], false, []⟩)
                    (fun i42 i43 i44 =>
                      bif decide ((i44 : Int) < i43) then
                        (some ⟨AV.tup [AV.int .i32 0, AV.int .i64 1, AV.bool false], false, []⟩)
                      else
                        bif decide ((i44 : Int) > 1114111) then
                          (some ⟨AV.tup [AV.int .i32 0, AV.int .i64 1, AV.bool false], false, []⟩)
                        else
                          bif decide ((i44 : Int) ≥ 55296) then
                            (bif decide ((i44 : Int) ≤ 57343) then
                              (some ⟨AV.tup [AV.int .i32 0, AV.int .i64 1, AV.bool false], false, []⟩)
                            else
                              some ⟨AV.tup [AV.int .i32 i44, AV.int .i64 i42, AV.bool true], false, []⟩)
                          else
                            some ⟨AV.tup [AV.int .i32 i44, AV.int .i64 i42, AV.bool true], false, []⟩)
                    N s1 4 65536 (IntKind.i32.wrap (IntKind.u8.wrap (BitVec.ofInt IntKind.u8.bits (c1.toNat : Int) &&& BitVec.ofInt IntKind.u8.bits 7).toNat)) 1)
              else
                some ⟨AV.tup [AV.int .i32 0, AV.int .i64 1, AV.bool false], false, []⟩)
            else
              some ⟨AV.tup [AV.int .i32 0, AV.int .i64 1, AV.bool false], false, []⟩)
        else
          bif decide (((c1.toNat : Int) : Int) ≥ 240) then
            (bif decide (((c1.toNat : Int) : Int) ≤ 244) then
              (bif decide ((((s1.length : Nat) : Int) : Int) < 4) then
                (some ⟨AV.tup [AV.int .i32 0, AV.int .i64 1, AV.bool false], false, []⟩)
              else
                ref01Rune_L1 R N
                  (fun i45 i46 b9 =>
                    some ⟨AV.tup [AV.int .i32 i45, AV.int .i64 i46, AV.bool b9], false, []⟩)
                  (fun i47 i48 i49 =>
                    bif decide ((i49 : Int) < i48) then
                      (some ⟨AV.tup [AV.int .i32 0, AV.int .i64 1, AV.bool false], false, []⟩)
                    else
                      bif decide ((i49 : Int) > 1114111) then
                        (some ⟨AV.tup [AV.int .i32 0, AV.int .i64 1, AV.bool false], false, []⟩)
                      else
                        bif decide ((i49 : Int) ≥ 55296) then
                          (bif decide ((i49 : Int) ≤ 57343) then
                            (some ⟨AV.tup [AV.int .i32 0, AV.int .i64 1, AV.bool false], false, []⟩)
                          else
                            some ⟨AV.tup [AV.int .i32 i49, AV.int .i64 i47, AV.bool true], false, []⟩)
                        else
                          some ⟨AV.tup [AV.int .i32 i49, AV.int .i64 i47, AV.bool true], false, []⟩)
                  N s1 4 65536 (IntKind.i32.wrap (IntKind.u8.wrap (BitVec.ofInt IntKind.u8.bits (c1.toNat : Int) &&& BitVec.ofInt IntKind.u8.bits 7).toNat)) 1)
            else
              some ⟨AV.tup [AV.int .i32 0, AV.int .i64 1, AV.bool false], false, []⟩)
          else
            some ⟨AV.tup [AV.int .i32 0, AV.int .i64 1, AV.bool false], false, []⟩
theorem ref01Rune_eq (R : Nat → List AV → Option Res) (N : Nat) (s1 : List UInt8) : runF gl R N ref01Rune [AV.bytes s1] = ref01Runer R N s1 := by
  refine Eq.trans (b :=
      bif (((s1.length : Nat) : Int) : Int) == 0 then
        (some ⟨AV.tup [AV.int .i32 0, AV.int .i64 0, AV.bool false], false, []⟩)
      else
        need (decide (0 ≤ (0 : Int))) <|
        (s1[Int.toNat 0]?).bind fun c1 =>
        bif decide (((c1.toNat : Int) : Int) < 128) then
          (some ⟨AV.tup [AV.int .i32 (IntKind.i32.wrap (c1.toNat : Int)), AV.int .i64 1, AV.bool true], false, []⟩)
        else
          bif decide (((c1.toNat : Int) : Int) ≥ 194) then
            (bif decide (((c1.toNat : Int) : Int) ≤ 223) then
              (bif decide ((((s1.length : Nat) : Int) : Int) < 2) then
                (some ⟨AV.tup [AV.int .i32 0, AV.int .i64 1, AV.bool false], false, []⟩)
              else
                rounds [0, 6, 7, 8, 9] [] (evC gl R N ref01Rune_c0) (Kblock 1 (Kthen gl R N ref01Rune_c1 (Kret ref01Rune.rets []))) N ⟨[(0, .imm (AV.bytes s1)), (6, .imm (AV.int .i64 2)), (7, .imm (AV.int .i32 128)), (8, .imm (AV.int .i32 (IntKind.i32.wrap (IntKind.u8.wrap (BitVec.ofInt IntKind.u8.bits (c1.toNat : Int) &&& BitVec.ofInt IntKind.u8.bits 31).toNat)))), (9, .imm (AV.int .i64 1))], []⟩)
            else
              bif decide (((c1.toNat : Int) : Int) ≥ 224) then
                (bif decide (((c1.toNat : Int) : Int) ≤ 239) then
                  (bif decide ((((s1.length : Nat) : Int) : Int) < 3) then
                    (some ⟨AV.tup [AV.int .i32 0, AV.int .i64 1, AV.bool false], false, []⟩)
                  else
                    rounds [0, 6, 7, 8, 9] [] (evC gl R N ref01Rune_c0) (Kblock 1 (Kthen gl R N ref01Rune_c1 (Kret ref01Rune.rets []))) N ⟨[(0, .imm (AV.bytes s1)), (6, .imm (AV.int .i64 3)), (7, .imm (AV.int .i32 2048)), (8, .imm (AV.int .i32 (IntKind.i32.wrap (IntKind.u8.wrap (BitVec.ofInt IntKind.u8.bits (c1.toNat : Int) &&& BitVec.ofInt IntKind.u8.bits 15).toNat)))), (9, .imm (AV.int .i64 1))], []⟩)
                else
                  bif decide (((c1.toNat : Int) : Int) ≥ 240) then
                    (bif decide (((c1.toNat : Int) : Int) ≤ 244) then
                      (bif decide ((((s1.length : Nat) : Int) : Int) < 4) then
                        (some ⟨AV.tup [AV.int .i32 0, AV.int .i64 1, AV.bool false], false, []⟩)
                      else
                        rounds [0, 6, 7, 8, 9] [] (evC gl R N ref01Rune_c0) (Kblock 1 (Kthen gl R N ref01Rune_c1 (Kret ref01Rune.rets []))) N ⟨[(0, .imm (AV.bytes s1)), (6, .imm (AV.int .i64 4)), (7, .imm (AV.int .i32 65536)), (8, .imm (AV.int .i32 (IntKind.i32.wrap (IntKind.u8.wrap (BitVec.ofInt IntKind.u8.bits (c1.toNat : Int) &&& BitVec.ofInt IntKind.u8.bits 7).toNat)))), (9, .imm (AV.int .i64 1))], []⟩)
                    else
                      some ⟨AV.tup [AV.int .i32 0, AV.int .i64 1, AV.bool false], false, []⟩)
                  else
                    some ⟨AV.tup [AV.int .i32 0, AV.int .i64 1, AV.bool false], false, []⟩)
              else
                bif decide (((c1.toNat : Int) : Int) ≥ 240) then
                  (bif decide (((c1.toNat : Int) : Int) ≤ 244) then
                    (bif decide ((((s1.length : Nat) : Int) : Int) < 4) then
                      (some ⟨AV.tup [AV.int .i32 0, AV.int .i64 1, AV.bool false], false, []⟩)
                    else
                      rounds [0, 6, 7, 8, 9] [] (evC gl R N ref01Rune_c0) (Kblock 1 (Kthen gl R N ref01Rune_c1 (Kret ref01Rune.rets []))) N ⟨[(0, .imm (AV.bytes s1)), (6, .imm (AV.int .i64 4)), (7, .imm (AV.int .i32 65536)), (8, .imm (AV.int .i32 (IntKind.i32.wrap (IntKind.u8.wrap (BitVec.ofInt IntKind.u8.bits (c1.toNat : Int) &&& BitVec.ofInt IntKind.u8.bits 7).toNat)))), (9, .imm (AV.int .i64 1))], []⟩)
                  else
                    some ⟨AV.tup [AV.int .i32 0, AV.int .i64 1, AV.bool false], false, []⟩)
                else
                  some ⟨AV.tup [AV.int .i32 0, AV.int .i64 1, AV.bool false], false, []⟩)
          else
            bif decide (((c1.toNat : Int) : Int) ≥ 224) then
              (bif decide (((c1.toNat : Int) : Int) ≤ 239) then
                (bif decide ((((s1.length : Nat) : Int) : Int) < 3) then
                  (some ⟨AV.tup [AV.int .i32 0, AV.int .i64 1, AV.bool false], false, []⟩)
                else
                  rounds [0, 6, 7, 8, 9] [] (evC gl R N ref01Rune_c0) (Kblock 1 (Kthen gl R N ref01Rune_c1 (Kret ref01Rune.rets []))) N ⟨[(0, .imm (AV.bytes s1)), (6, .imm (AV.int .i64 3)), (7, .imm (AV.int .i32 2048)), (8, .imm (AV.int .i32 (IntKind.i32.wrap (IntKind.u8.wrap (BitVec.ofInt IntKind.u8.bits (c1.toNat : Int) &&& BitVec.ofInt IntKind.u8.bits 15).toNat)))), (9, .imm (AV.int .i64 1))], []⟩)
              else
                bif decide (((c1.toNat : Int) : Int) ≥ 240) then
                  (bif decide (((c1.toNat : Int) : Int) ≤ 244) then
                    (bif decide ((((s1.length : Nat) : Int) : Int) < 4) then
                      (some ⟨AV.tup [AV.int .i32 0, AV.int .i64 1, AV.bool false], false, []⟩)
                    else
                      rounds [0, 6, 7, 8, 9] [] (evC gl R N ref01Rune_c0) (Kblock 1 (Kthen gl R N ref01Rune_c1 (Kret ref01Rune.rets []))) N ⟨[(0, .imm (AV.bytes s1)), (6, .imm (AV.int .i64 4)), (7, .imm (AV.int .i32 65536)), (8, .imm (AV.int .i32 (IntKind.i32.wrap (IntKind.u8.wrap (BitVec.ofInt IntKind.u8.bits (c1.toNat : Int) &&& BitVec.ofInt IntKind.u8.bits 7).toNat)))), (9, .imm (AV.int .i64 1))], []⟩)
                  else
                    some ⟨AV.tup [AV.int .i32 0, AV.int .i64 1, AV.bool false], false, []⟩)
                else
                  some ⟨AV.tup [AV.int .i32 0, AV.int .i64 1, AV.bool false], false, []⟩)
            else
              bif decide (((c1.toNat : Int) : Int) ≥ 240) then
                (bif decide (((c1.toNat : Int) : Int) ≤ 244) then
                  (bif decide ((((s1.length : Nat) : Int) : Int) < 4) then
                    (some ⟨AV.tup [AV.int .i32 0, AV.int .i64 1, AV.bool false], false, []⟩)
                  else
                    rounds [0, 6, 7, 8, 9] [] (evC gl R N ref01Rune_c0) (Kblock 1 (Kthen gl R N ref01Rune_c1 (Kret ref01Rune.rets []))) N ⟨[(0, .imm (AV.bytes s1)), (6, .imm (AV.int .i64 4)), (7, .imm (AV.int .i32 65536)), (8, .imm (AV.int .i32 (IntKind.i32.wrap (IntKind.u8.wrap (BitVec.ofInt IntKind.u8.bits (c1.toNat : Int) &&& BitVec.ofInt IntKind.u8.bits 7).toNat)))), (9, .imm (AV.int .i64 1))], []⟩)
                else
                  some ⟨AV.tup [AV.int .i32 0, AV.int .i64 1, AV.bool false], false, []⟩)
              else
                some ⟨AV.tup [AV.int .i32 0, AV.int .i64 1, AV.bool false], false, []⟩) (by kernel_rfl) ?_
  simp (config := { maxSteps := 100000000 }) only [ref01Rune_L1_eq]
  kernel_rfl
theorem ref01Rune_fit : fitF Tryd.prog ref01Rune Tryd.f47 = true := by
  kernel_rfl

def ref01Printable_c0 : AC := .seq (.region [.op (some 2) none (.mv (.k (AV.bool false)))]) (.seq (.block 0 (.seq (.region [.op (some 4) none (.mv (.t 0)), .op (some 5) none (.bin .eql (.t 4) (.k (AV.int .i32 9))), .op (some 6) none (.mv (.t 5)), .split 6, .op (some 7) (some (6, false)) (.mv (.t 0)), .op (some 8) (some (6, false)) (.bin .eql (.t 7) (.k (AV.int .i32 10))), .op (some 9) none (.pick (.t 6) (.k (AV.bool true)) (.t 8)), .op (some 10) none (.mv (.t 9)), .split 10, .op (some 11) (some (10, false)) (.mv (.t 0)), .op (some 12) (some (10, false)) (.bin .eql (.t 11) (.k (AV.int .i32 13))), .op (some 13) none (.pick (.t 10) (.k (AV.bool true)) (.t 12)), .op (some 14) none (.mv (.t 13)), .split 14, .op (some 15) (some (14, false)) (.mv (.t 0)), .op (some 16) (some (14, false)) (.bin .eql (.t 15) (.k (AV.int .i32 133))), .op (some 17) none (.pick (.t 14) (.k (AV.bool true)) (.t 16)), .op (some 3) none (.mv (.t 17))]) (.cond (.t 3) (.seq (.region [.op (some 2) none (.mv (.k (AV.bool true)))]) (.ret [2] [])) (.seq (.region [.op (some 19) none (.mv (.t 0)), .op (some 20) none (.bin .lss (.t 19) (.k (AV.int .i32 32))), .op (some 21) none (.mv (.t 20)), .split 21, .op (some 22) (some (21, false)) (.mv (.t 0)), .op (some 23) (some (21, false)) (.bin .geq (.t 22) (.k (AV.int .i32 127))), .op (some 24) (some (21, false)) (.mv (.t 23)), .split 24, .op (some 25) (some (24, true)) (.mv (.t 0)), .op (some 26) (some (24, true)) (.bin .leq (.t 25) (.k (AV.int .i32 159))), .op (some 27) (some (21, false)) (.pick (.t 24) (.t 26) (.k (AV.bool false))), .op (some 28) none (.pick (.t 21) (.k (AV.bool true)) (.t 27)), .op (some 29) none (.mv (.t 28)), .split 29, .op (some 30) (some (29, false)) (.mv (.t 0)), .op (some 31) (some (29, false)) (.bin .geq (.t 30) (.k (AV.int .i32 55296))), .op (some 32) (some (29, false)) (.mv (.t 31)), .split 32, .op (some 33) (some (32, true)) (.mv (.t 0)), .op (some 34) (some (32, true)) (.bin .leq (.t 33) (.k (AV.int .i32 57343))), .op (some 35) (some (29, false)) (.pick (.t 32) (.t 34) (.k (AV.bool false))), .op (some 36) none (.pick (.t 29) (.k (AV.bool true)) (.t 35)), .op (some 37) none (.mv (.t 36)), .split 37, .op (some 38) (some (37, false)) (.mv (.t 0)), .op (some 39) (some (37, false)) (.bin .eql (.t 38) (.k (AV.int .i32 65279))), .op (some 40) none (.pick (.t 37) (.k (AV.bool true)) (.t 39)), .op (some 41) none (.mv (.t 40)), .split 41, .op (some 42) (some (41, false)) (.mv (.t 0)), .op (some 43) (some (41, false)) (.bin .eql (.t 42) (.k (AV.int .i32 65534))), .op (some 44) none (.pick (.t 41) (.k (AV.bool true)) (.t 43)), .op (some 45) none (.mv (.t 44)), .split 45, .op (some 46) (some (45, false)) (.mv (.t 0)), .op (some 47) (some (45, false)) (.bin .eql (.t 46) (.k (AV.int .i32 65535))), .op (some 48) none (.pick (.t 45) (.k (AV.bool true)) (.t 47)), .op (some 49) none (.mv (.t 48)), .split 49, .op (some 50) (some (49, false)) (.mv (.t 0)), .op (some 51) (some (49, false)) (.bin .gtr (.t 50) (.k (AV.int .i32 1114111))), .op (some 52) none (.pick (.t 49) (.k (AV.bool true)) (.t 51)), .op (some 18) none (.mv (.t 52))]) (.cond (.t 18) (.seq (.region [.op (some 2) none (.mv (.k (AV.bool false)))]) (.ret [2] [])) (.skip)))))) (.seq (.region [.op (some 2) none (.mv (.k (AV.bool true)))]) (.ret [2] [])))
def ref01Printable : AFunc := ⟨1, 53, [.tmp 2], ref01Printable_c0⟩
def ref01Printabler (R : Nat → List AV → Option Res) (N : Nat) (i1 : Int) : Option Res :=
  bif (i1 : Int) == 9 then
    (some ⟨AV.bool true, false, []⟩)
  else
    bif (i1 : Int) == 10 then
      (some ⟨AV.bool true, false, []⟩)
    else
      bif (i1 : Int) == 13 then
        (some ⟨AV.bool true, false, []⟩)
      else
        bif (i1 : Int) == 133 then
          (some ⟨AV.bool true, false, []⟩)
        else
          bif decide ((i1 : Int) < 32) then
            (some ⟨AV.bool false, false, []⟩)
          else
            bif decide ((i1 : Int) ≥ 127) then
              (bif decide ((i1 : Int) ≤ 159) then
                (some ⟨AV.bool false, false, []⟩)
              else
                bif decide ((i1 : Int) ≥ 55296) then
                  (bif decide ((i1 : Int) ≤ 57343) then
                    (some ⟨AV.bool false, false, []⟩)
                  else
                    bif (i1 : Int) == 65279 then
                      (some ⟨AV.bool false, false, []⟩)
                    else
                      bif (i1 : Int) == 65534 then
                        (some ⟨AV.bool false, false, []⟩)
                      else
                        bif (i1 : Int) == 65535 then
                          (some ⟨AV.bool false, false, []⟩)
                        else
                          bif decide ((i1 : Int) > 1114111) then
                            (some ⟨AV.bool false, false, []⟩)
                          else
                            some ⟨AV.bool true, false, []⟩)
                else
                  bif (i1 : Int) == 65279 then
                    (some ⟨AV.bool false, false, []⟩)
                  else
                    bif (i1 : Int) == 65534 then
                      (some ⟨AV.bool false, false, []⟩)
                    else
                      bif (i1 : Int) == 65535 then
                        (some ⟨AV.bool false, false, []⟩)
                      else
                        bif decide ((i1 : Int) > 1114111) then
                          (some ⟨AV.bool false, false, []⟩)
                        else
                          some ⟨AV.bool true, false, []⟩)
            else
              bif decide ((i1 : Int) ≥ 55296) then
                (bif decide ((i1 : Int) ≤ 57343) then
                  (some ⟨AV.bool false, false, []⟩)
                else
                  bif (i1 : Int) == 65279 then
                    (some ⟨AV.bool false, false, []⟩)
                  else
                    bif (i1 : Int) == 65534 then
                      (some ⟨AV.bool false, false, []⟩)
                    else
                      bif (i1 : Int) == 65535 then
                        (some ⟨AV.bool false, false, []⟩)
                      else
                        bif decide ((i1 : Int) > 1114111) then
                          (some ⟨AV.bool false, false, []⟩)
                        else
                          some ⟨AV.bool true, false, []⟩)
              else
                bif (i1 : Int) == 65279 then
                  (some ⟨AV.bool false, false, []⟩)
                else
                  bif (i1 : Int) == 65534 then
                    (some ⟨AV.bool false, false, []⟩)
                  else
                    bif (i1 : Int) == 65535 then
                      (some ⟨AV.bool false, false, []⟩)
                    else
                      bif decide ((i1 : Int) > 1114111) then
                        (some ⟨AV.bool false, false, []⟩)
                      else
                        some ⟨AV.bool true, false, []⟩
theorem ref01Printable_eq (R : Nat → List AV → Option Res) (N : Nat) (i1 : Int) : runF gl R N ref01Printable [AV.int .i32 i1] = ref01Printabler R N i1 := by
  kernel_rfl
theorem ref01Printable_fit : fitF Tryd.prog ref01Printable Tryd.f48 = true := by
  kernel_rfl

def ref01Clean_L1s (R : Nat → List AV → Option Res) (N : Nat) (go : Bool → List UInt8 → Option Res) (k0 : Bool → Option Res) (k1 : Option Res) (b2 : Bool) (s2 : List UInt8) : Option Res :=
  bif decide ((((s2.length : Nat) : Int) : Int) > 0) then
    ((R id_ref01Rune [AV.bytes s2]).bind fun r1 =>
    asJIBT r1.v fun i1 i2 b3 =>
    bif !b3 then
      (k0 false)
    else
      (R id_ref01Printable [AV.int .i32 i1]).bind fun r2 =>
      asB r2.v fun b4 =>
      bif !b4 then
        (k0 false)
      else
        bif (i1 : Int) == 10 then
          (k0 false)
        else
          bif (i1 : Int) == 13 then
            (k0 false)
          else
            bif (i1 : Int) == 9 then
              (bif !b2 then
                (k0 false)
              else
                need (decide (0 ≤ (i2 : Int)) && decide ((i2 : Int) ≤ ((s2.length : Nat) : Int))) <|
                go b2 ((s2.take s2.length).drop (Int.toNat i2)))
            else
              need (decide (0 ≤ (i2 : Int)) && decide ((i2 : Int) ≤ ((s2.length : Nat) : Int))) <|
              go b2 ((s2.take s2.length).drop (Int.toNat i2)))
  else
    k1
def ref01Clean_L1 (R : Nat → List AV → Option Res) (N : Nat) (k0 : Bool → Option Res) (k1 : Option Res) : Nat → Bool → List UInt8 → Option Res
  | 0, _, _ => none
  | n + 1, b2, s2 => ref01Clean_L1s R N (ref01Clean_L1 R N k0 k1 n) k0 k1 b2 s2
def ref01Clean_c0 : AC := .seq (.seq (.region [.op (some 11) none (.mv (.t 5)), .op (some 12) none (.len (.t 11) false), .op (some 13) none (.bin .gtr (.t 12) (.k (AV.int .i64 0)))]) (.cond (.t 13) (.skip) (.exit 0 [] []))) (.block 1 (.seq (.region [.op (some 15) none (.mv (.t 5)), .op (some 16) none (.call id_ref01Rune [.t 15] (.tup [.int .i32, .int .i64, .bool])), .op (some 14) none (.mv (.t 16)), .op (some 17) none (.extract (.t 14) 0), .op (some 18) none (.extract (.t 14) 1), .op (some 19) none (.extract (.t 14) 2), .op (some 6) none (.mv (.t 17)), .op (some 7) none (.mv (.t 18)), .op (some 8) none (.mv (.t 19))]) (.seq (.seq (.region [.op (some 20) none (.mv (.t 8)), .op (some 21) none (.un .not (.t 20)), .op (some 22) none (.mv (.t 21)), .split 22, .op (some 23) (some (22, false)) (.mv (.t 6)), .op (some 24) (some (22, false)) (.call id_ref01Printable [.t 23] (.bool)), .op (some 25) (some (22, false)) (.un .not (.t 24)), .op (some 26) none (.pick (.t 22) (.k (AV.bool true)) (.t 25)), .op (some 27) none (.mv (.t 26)), .split 27, .op (some 28) (some (27, false)) (.mv (.t 6)), .op (some 29) (some (27, false)) (.bin .eql (.t 28) (.k (AV.int .i32 10))), .op (some 30) none (.pick (.t 27) (.k (AV.bool true)) (.t 29)), .op (some 31) none (.mv (.t 30)), .split 31, .op (some 32) (some (31, false)) (.mv (.t 6)), .op (some 33) (some (31, false)) (.bin .eql (.t 32) (.k (AV.int .i32 13))), .op (some 34) none (.pick (.t 31) (.k (AV.bool true)) (.t 33)), .op (some 35) none (.mv (.t 34)), .split 35, .op (some 36) (some (35, false)) (.mv (.t 6)), .op (some 37) (some (35, false)) (.bin .eql (.t 36) (.k (AV.int .i32 9))), .op (some 38) (some (35, false)) (.mv (.t 37)), .split 38, .op (some 39) (some (38, true)) (.mv (.t 1)), .op (some 40) (some (38, true)) (.un .not (.t 39)), .op (some 41) (some (35, false)) (.pick (.t 38) (.t 40) (.k (AV.bool false))), .op (some 42) none (.pick (.t 35) (.k (AV.bool true)) (.t 41))]) (.cond (.t 42) (.seq (.region [.op (some 4) none (.mv (.k (AV.bool false)))]) (.ret [4] [])) (.skip))) (.region [.op (some 43) none (.mv (.t 5)), .op (some 44) none (.mv (.t 7)), .op (some 45) none (.slice (.t 43) (some (.t 44)) none 1), .op (some 5) none (.mv (.t 45))]))))
theorem ref01Clean_L1s_eq (R : Nat → List AV → Option Res) (N : Nat) (K : Ex → St → Option Res) (W : St → Option Res) (b2 : Bool) (s2 : List UInt8) :
    evC gl R N ref01Clean_c0 (Kseq (fun st' => W (prune [1, 5] [] st')) K) ⟨[(1, .imm (AV.bool b2)), (5, .imm (AV.bytes s2))], []⟩ =
    ref01Clean_L1s R N (fun (b2 : Bool) (s2 : List UInt8) => W ⟨[(1, .imm (AV.bool b2)), (5, .imm (AV.bytes s2))], []⟩) (fun (b5 : Bool) => K .ret ⟨[(4, .imm (AV.bool b5))], []⟩) (K (.exit 0) ⟨[], []⟩) b2 s2 := by
  kernel_rfl
theorem ref01Clean_L1_eq (R : Nat → List AV → Option Res) (N : Nat) (K : Ex → St → Option Res) : ∀ (n : Nat) (b2 : Bool) (s2 : List UInt8),
    rounds [1, 5] [] (evC gl R N ref01Clean_c0) K n ⟨[(1, .imm (AV.bool b2)), (5, .imm (AV.bytes s2))], []⟩ = ref01Clean_L1 R N (fun (b5 : Bool) => K .ret ⟨[(4, .imm (AV.bool b5))], []⟩) (K (.exit 0) ⟨[], []⟩) n b2 s2
  | 0, _, _ => rfl
  | n + 1, b2, s2 => (ref01Clean_L1s_eq R N K (rounds [1, 5] [] (evC gl R N ref01Clean_c0) K n) b2 s2).trans
      (congrArg (fun go => ref01Clean_L1s R N go (fun (b5 : Bool) => K .ret ⟨[(4, .imm (AV.bool b5))], []⟩) (K (.exit 0) ⟨[], []⟩) b2 s2) (funext fun b2 => funext fun s2 => ref01Clean_L1_eq R N K n b2 s2))
def ref01Clean_c1 : AC := .seq (.region [.op (some 4) none (.mv (.k (AV.bool true)))]) (.ret [4] [])
def ref01Clean_c2 : AC := .seq (.region [.op (some 4) none (.mv (.k (AV.bool false)))]) (.seq (.region [.op (some 9) none (.mv (.t 0)), .op (some 10) none (.cvBytes (.t 9)), .op (some 5) none (.mv (.t 10))]) (.seq (.block 0 (.loop [1, 5] [] (ref01Clean_c0))) (ref01Clean_c1)))
def ref01Clean : AFunc := ⟨2, 46, [.tmp 4], ref01Clean_c2⟩
def ref01Cleanr (R : Nat → List AV → Option Res) (N : Nat) (s1 : List UInt8) (b1 : Bool) : Option Res :=
  ref01Clean_L1 R N
    (fun b7 =>
      some ⟨AV.bool b7, false, []⟩)
    (
      some ⟨AV.bool true, false, []⟩)
    N b1 s1
theorem ref01Clean_eq (R : Nat → List AV → Option Res) (N : Nat) (s1 : List UInt8) (b1 : Bool) : runF gl R N ref01Clean [AV.str s1, AV.bool b1] = ref01Cleanr R N s1 b1 := by
  refine Eq.trans (b :=
      rounds [1, 5] [] (evC gl R N ref01Clean_c0) (Kblock 0 (Kthen gl R N ref01Clean_c1 (Kret ref01Clean.rets []))) N ⟨[(1, .imm (AV.bool b1)), (5, .imm (AV.bytes s1))], []⟩) (by kernel_rfl) ?_
  simp (config := { maxSteps := 100000000 }) only [ref01Clean_L1_eq]
  kernel_rfl
theorem ref01Clean_fit : fitF Tryd.prog ref01Clean Tryd.f39 = true := by
  kernel_rfl

def ref01PlainValid_c0 : AC := .seq (.region [.op (some 4) none (.mv (.k (AV.bool false)))]) (.seq (.region [.op (some 5) none (.mv (.t 0)), .op (some 6) none (.bin .neq (.t 5) (.k (AV.str ([] : List UInt8)))), .op (some 7) none (.mv (.t 6)), .split 7, .op (some 8) (some (7, true)) (.mv (.t 0)), .op (some 9) (some (7, true)) (.call id_ref01Clean [.t 8, .k (AV.bool false)] (.bool)), .op (some 10) none (.pick (.t 7) (.t 9) (.k (AV.bool false))), .op (some 11) none (.mv (.t 10)), .split 11, .op (some 12) (some (11, true)) (.mv (.t 0)), .op (some 13) (some (11, true)) (.cvBytes (.t 12)), .op (some 14) (some (11, true)) (.mv (.t 1)), .op (some 15) (some (11, true)) (.call id_ref01PlainLength [.t 13, .t 14] (.int .i64)), .op (some 16) (some (11, true)) (.mv (.t 0)), .op (some 17) (some (11, true)) (.len (.t 16) true), .op (some 18) (some (11, true)) (.bin .eql (.t 15) (.t 17)), .op (some 19) none (.pick (.t 11) (.t 18) (.k (AV.bool false))), .op (some 4) none (.mv (.t 19))]) (.ret [4] []))
def ref01PlainValid : AFunc := ⟨2, 20, [.tmp 4], ref01PlainValid_c0⟩
def ref01PlainValidr (R : Nat → List AV → Option Res) (N : Nat) (s1 : List UInt8) (b1 : Bool) : Option Res :=
  bif !(s1 == ([] : List UInt8)) then
    ((R id_ref01Clean [AV.str s1, AV.bool false]).bind fun r1 =>
    asB r1.v fun b2 =>
    bif b2 then
      ((R id_ref01PlainLength [AV.bytes s1, AV.bool b1]).bind fun r2 =>
      asI .i64 r2.v fun i1 =>
      some ⟨AV.bool ((i1 : Int) == ((s1.length : Nat) : Int)), false, []⟩)
    else
      some ⟨AV.bool false, false, []⟩)
  else
    some ⟨AV.bool false, false, []⟩
theorem ref01PlainValid_eq (R : Nat → List AV → Option Res) (N : Nat) (s1 : List UInt8) (b1 : Bool) : runF gl R N ref01PlainValid [AV.str s1, AV.bool b1] = ref01PlainValidr R N s1 b1 := by
  kernel_rfl
theorem ref01PlainValid_fit : fitF Tryd.prog ref01PlainValid Tryd.f20 = true := by
  kernel_rfl

def keepIntact_L1s (R : Nat → List AV → Option Res) (N : Nat) (go : List UInt8 → List UInt8 → Int → Int → Option Res) (k0 : Bool → Option Res) (k1 : Option Res) (s3 : List UInt8) (s4 : List UInt8) (i1 : Int) (i2 : Int) : Option Res :=
  bif decide ((i2 : Int) < i1) then
    (bif decide ((i2 : Int) < ((s3.length : Nat) : Int)) then
      (need (decide (0 ≤ (i2 : Int))) <|
      (s4[Int.toNat i2]?).bind fun c1 =>
      need (decide (0 ≤ (i2 : Int))) <|
      (s3[Int.toNat i2]?).bind fun c2 =>
      bif ((c1.toNat : Int) : Int) != (c2.toNat : Int) then
        (k0 false)
      else
        bif decide ((i2 : Int) ≥ ((s3.length : Nat) : Int)) then
          (need (decide (0 ≤ (i2 : Int))) <|
          (s4[Int.toNat i2]?).bind fun c3 =>
          bif ((c3.toNat : Int) : Int) != 85 then
            (k0 false)
          else
            go s3 s4 i1 (IntKind.i64.wrap (i2 + 1)))
        else
          go s3 s4 i1 (IntKind.i64.wrap (i2 + 1)))
    else
      bif decide ((i2 : Int) ≥ ((s3.length : Nat) : Int)) then
        (need (decide (0 ≤ (i2 : Int))) <|
        (s4[Int.toNat i2]?).bind fun c4 =>
        bif ((c4.toNat : Int) : Int) != 85 then
          (k0 false)
        else
          go s3 s4 i1 (IntKind.i64.wrap (i2 + 1)))
      else
        go s3 s4 i1 (IntKind.i64.wrap (i2 + 1)))
  else
    k1
def keepIntact_L1 (R : Nat → List AV → Option Res) (N : Nat) (k0 : Bool → Option Res) (k1 : Option Res) : Nat → List UInt8 → List UInt8 → Int → Int → Option Res
  | 0, _, _, _, _ => none
  | n + 1, s3, s4, i1, i2 => keepIntact_L1s R N (keepIntact_L1 R N k0 k1 n) k0 k1 s3 s4 i1 i2
def keepIntact_c0 : AC := .seq (.region [.op (some 28) none (.bin .lss (.t 27) (.t 26))]) (.seq (.cond (.t 28) (.skip) (.exit 0 [] [])) (.seq (.block 1 (.seq (.region [.op (some 29) none (.mv (.t 27)), .op (some 6) none (.mv (.t 29))]) (.seq (.regionD [1, 5, 26, 27, 57] [] [.op (some 30) none (.mv (.t 6)), .op (some 31) none (.mv (.t 1)), .op (some 32) none (.len (.t 31) false), .op (some 33) none (.bin .lss (.t 30) (.t 32)), .op (some 34) none (.mv (.t 33)), .split 34, .op (some 35) (some (34, true)) (.mv (.t 5)), .op (some 36) (some (34, true)) (.mv (.t 6)), .op (some 37) (some (34, true)) (.iaddr (.t 35) (.t 36) 1 (.int .u8)), .op (some 38) (some (34, true)) (.load (.t 37) none (.int .u8)), .op (some 39) (some (34, true)) (.mv (.t 1)), .op (some 40) (some (34, true)) (.mv (.t 6)), .op (some 41) (some (34, true)) (.iaddr (.t 39) (.t 40) 1 (.int .u8)), .op (some 42) (some (34, true)) (.load (.t 41) none (.int .u8)), .op (some 43) (some (34, true)) (.bin .neq (.t 38) (.t 42)), .op (some 44) none (.pick (.t 34) (.t 43) (.k (AV.bool false))), .op (some 45) none (.mv (.t 44)), .split 45, .op (some 46) (some (45, false)) (.mv (.t 6)), .op (some 47) (some (45, false)) (.mv (.t 1)), .op (some 48) (some (45, false)) (.len (.t 47) false), .op (some 49) (some (45, false)) (.bin .geq (.t 46) (.t 48)), .op (some 50) (some (45, false)) (.mv (.t 49)), .split 50, .op (some 51) (some (50, true)) (.mv (.t 5)), .op (some 52) (some (50, true)) (.mv (.t 6)), .op (some 53) (some (50, true)) (.iaddr (.t 51) (.t 52) 1 (.int .u8)), .op (some 54) (some (50, true)) (.load (.t 53) none (.int .u8)), .op (some 55) (some (50, true)) (.bin .neq (.t 54) (.k (AV.int .u8 85))), .op (some 56) (some (45, false)) (.pick (.t 50) (.t 55) (.k (AV.bool false))), .op (some 57) none (.pick (.t 45) (.k (AV.bool true)) (.t 56))] []) (.cond (.t 57) (.seq (.region [.op (some 4) none (.mv (.k (AV.bool false)))]) (.ret [4] [])) (.skip))))) (.region [.op (some 58) none (.bin .add (.t 27) (.k (AV.int .i64 1))), .op (some 27) none (.mv (.t 58))])))
theorem keepIntact_L1s_eq (R : Nat → List AV → Option Res) (N : Nat) (K : Ex → St → Option Res) (W : St → Option Res) (s3 : List UInt8) (s4 : List UInt8) (i1 : Int) (i2 : Int) :
    evC gl R N keepIntact_c0 (Kseq (fun st' => W (prune [1, 5, 26, 27] [] st')) K) ⟨[(1, .imm (AV.bytes s3)), (5, .imm (AV.bytes s4)), (26, .imm (AV.int .i64 i1)), (27, .imm (AV.int .i64 i2))], []⟩ =
    keepIntact_L1s R N (fun (s3 : List UInt8) (s4 : List UInt8) (i1 : Int) (i2 : Int) => W ⟨[(1, .imm (AV.bytes s3)), (5, .imm (AV.bytes s4)), (26, .imm (AV.int .i64 i1)), (27, .imm (AV.int .i64 i2))], []⟩) (fun (b1 : Bool) => K .ret ⟨[(4, .imm (AV.bool b1))], []⟩) (K (.exit 0) ⟨[], []⟩) s3 s4 i1 i2 := by
  kernel_rfl
theorem keepIntact_L1_eq (R : Nat → List AV → Option Res) (N : Nat) (K : Ex → St → Option Res) : ∀ (n : Nat) (s3 : List UInt8) (s4 : List UInt8) (i1 : Int) (i2 : Int),
    rounds [1, 5, 26, 27] [] (evC gl R N keepIntact_c0) K n ⟨[(1, .imm (AV.bytes s3)), (5, .imm (AV.bytes s4)), (26, .imm (AV.int .i64 i1)), (27, .imm (AV.int .i64 i2))], []⟩ = keepIntact_L1 R N (fun (b1 : Bool) => K .ret ⟨[(4, .imm (AV.bool b1))], []⟩) (K (.exit 0) ⟨[], []⟩) n s3 s4 i1 i2
  | 0, _, _, _, _ => rfl
  | n + 1, s3, s4, i1, i2 => (keepIntact_L1s_eq R N K (rounds [1, 5, 26, 27] [] (evC gl R N keepIntact_c0) K n) s3 s4 i1 i2).trans
      (congrArg (fun go => keepIntact_L1s R N go (fun (b1 : Bool) => K .ret ⟨[(4, .imm (AV.bool b1))], []⟩) (K (.exit 0) ⟨[], []⟩) s3 s4 i1 i2) (funext fun s3 => funext fun s4 => funext fun i1 => funext fun i2 => keepIntact_L1_eq R N K n s3 s4 i1 i2))
def keepIntact_c1 : AC := .seq (.region [.op (some 4) none (.mv (.k (AV.bool true)))]) (.ret [4] [])
def keepIntact_c2 : AC := .seq (.region [.op (some 4) none (.mv (.k (AV.bool false)))]) (.seq (.seq (.region [.op (some 7) none (.mv (.t 0)), .op (some 8) none (.len (.t 7) false), .op (some 9) none (.mv (.t 1)), .op (some 10) none (.len (.t 9) false), .op (some 11) none (.bin .neq (.t 8) (.t 10)), .op (some 12) none (.mv (.t 11)), .split 12, .op (some 13) (some (12, false)) (.mv (.t 0)), .op (some 14) (some (12, false)) (.capL (.t 13)), .op (some 15) (some (12, false)) (.mv (.t 1)), .op (some 16) (some (12, false)) (.len (.t 15) false), .op (some 17) (some (12, false)) (.bin .add (.t 16) (.k (AV.int .i64 3))), .op (some 18) (some (12, false)) (.bin .neq (.t 14) (.t 17)), .op (some 19) none (.pick (.t 12) (.k (AV.bool true)) (.t 18))]) (.cond (.t 19) (.seq (.region [.op (some 4) none (.mv (.k (AV.bool false)))]) (.ret [4] [])) (.skip))) (.seq (.region [.op (some 20) none (.mv (.t 0)), .op (some 21) none (.mv (.t 1)), .op (some 22) none (.len (.t 21) false), .op (some 23) none (.bin .add (.t 22) (.k (AV.int .i64 3))), .op (some 24) none (.sliceL (.t 20) (.t 23)), .op (some 5) none (.mv (.t 24))]) (.seq (.seq (.region [.op (some 25) none (.mv (.t 5)), .op (some 26) none (.len (.t 25) false), .op (some 27) none (.mv (.k (AV.int .i64 0)))]) (.block 0 (.loop [1, 5, 26, 27] [] (keepIntact_c0)))) (keepIntact_c1))))
def keepIntact : AFunc := ⟨2, 59, [.tmp 4], keepIntact_c2⟩
def keepIntactr (R : Nat → List AV → Option Res) (N : Nat) (s1 : List UInt8) (s2 : List UInt8) : Option Res :=
  bif (((s1.length : Nat) : Int) : Int) != ((s2.length : Nat) : Int) then
    (some ⟨AV.bool false, false, []⟩)
  else
    bif ((((s1.length : Nat) : Int) + 3) : Int) != (IntKind.i64.wrap (((s2.length : Nat) : Int) + 3)) then
      (some ⟨AV.bool false, false, []⟩)
    else
      need (decide (IntKind.i64.wrap (((s2.length : Nat) : Int) + 3) = ((s1.length : Nat) : Int) + 3)) <|
      keepIntact_L1 R N
        (fun b3 =>
          some ⟨AV.bool b3, false, []⟩)
        (
          some ⟨AV.bool true, false, []⟩)
        N s2 (s1 ++ [85, 85, 85]) (((s1 ++ [85, 85, 85]).length : Nat) : Int) 0
theorem keepIntact_eq (R : Nat → List AV → Option Res) (N : Nat) (s1 : List UInt8) (s2 : List UInt8) : runF gl R N keepIntact [AV.lent s1, AV.bytes s2] = keepIntactr R N s1 s2 := by
  refine Eq.trans (b :=
      bif (((s1.length : Nat) : Int) : Int) != ((s2.length : Nat) : Int) then
        (some ⟨AV.bool false, false, []⟩)
      else
        bif ((((s1.length : Nat) : Int) + 3) : Int) != (IntKind.i64.wrap (((s2.length : Nat) : Int) + 3)) then
          (some ⟨AV.bool false, false, []⟩)
        else
          need (decide (IntKind.i64.wrap (((s2.length : Nat) : Int) + 3) = ((s1.length : Nat) : Int) + 3)) <|
          rounds [1, 5, 26, 27] [] (evC gl R N keepIntact_c0) (Kblock 0 (Kthen gl R N keepIntact_c1 (Kret keepIntact.rets []))) N ⟨[(1, .imm (AV.bytes s2)), (5, .imm (AV.bytes (s1 ++ [85, 85, 85]))), (26, .imm (AV.int .i64 (((s1 ++ [85, 85, 85]).length : Nat) : Int))), (27, .imm (AV.int .i64 0))], []⟩) (by kernel_rfl) ?_
  simp (config := { maxSteps := 100000000 }) only [keepIntact_L1_eq]
  kernel_rfl
theorem keepIntact_fit : fitF Tryd.prog keepIntact Tryd.f21 = true := by
  kernel_rfl

def slicesCloneByteByte_c0 : AC := .seq (.region [.op (some 2) none (.nilOwn 5 none)]) (.seq (.seq (.region [.op (some 3) none (.mv (.t 0)), .op (some 4) none (.isNil false (.t 3) false)]) (.cond (.t 4) (.seq (.region [.op (some 2) none (.nilOwn 5 none)]) (.ret [] [])) (.skip))) (.seq (.region [.op (some 5) none (.bsliceOwn 5 [] 1 .any true), .op (some 6) none (.mv (.t 0)), .op (some 7) none (.app 5 (.t 5) (.t 6) 1 .any true), .op (some 2) none (.mv (.t 7))]) (.ret [2] [5])))
def slicesCloneByteByte : AFunc := ⟨1, 8, [.tmp 2], slicesCloneByteByte_c0⟩
def slicesCloneByteByter (R : Nat → List AV → Option Res) (N : Nat) (s1 : List UInt8) : Option Res :=
  need (decide (0 < s1.length)) <|
  need (decide (((([] : List UInt8).drop 0).take 0).length + s1.length ≤ 1099511627776)) <|
  some ⟨AV.bytes (((((([] : List UInt8).drop 0).take 0) ++ s1 : List UInt8).drop 0).take ((((([] : List UInt8).drop 0).take 0) ++ s1).length)), true, []⟩
theorem slicesCloneByteByte_eq (R : Nat → List AV → Option Res) (N : Nat) (s1 : List UInt8) : runF gl R N slicesCloneByteByte [AV.bytes s1] = slicesCloneByteByter R N s1 := by
  kernel_rfl
theorem slicesCloneByteByte_fit : fitF Tryd.prog slicesCloneByteByte Tryd.f41 = true := by
  kernel_rfl

def bytesTrimLeftByte_L1s (R : Nat → List AV → Option Res) (N : Nat) (go : List UInt8 → Int → Option Res) (k0 : List UInt8 → Option Res) (s2 : List UInt8) (i2 : Int) : Option Res :=
  bif decide ((((s2.length : Nat) : Int) : Int) > 0) then
    (need (decide (0 ≤ (0 : Int))) <|
    (s2[Int.toNat 0]?).bind fun c1 =>
    bif ((c1.toNat : Int) : Int) == i2 then
      (need (decide (0 ≤ (1 : Int)) && decide ((1 : Int) ≤ ((s2.length : Nat) : Int))) <|
      go ((s2.take s2.length).drop (Int.toNat 1)) i2)
    else
      k0 s2)
  else
    k0 s2
def bytesTrimLeftByte_L1 (R : Nat → List AV → Option Res) (N : Nat) (k0 : List UInt8 → Option Res) : Nat → List UInt8 → Int → Option Res
  | 0, _, _ => none
  | n + 1, s2, i2 => bytesTrimLeftByte_L1s R N (bytesTrimLeftByte_L1 R N k0 n) k0 s2 i2
def bytesTrimLeftByte_c0 : AC := .seq (.seq (.region [.op (some 5) none (.mv (.t 0)), .op (some 6) none (.len (.t 5) false), .op (some 7) none (.bin .gtr (.t 6) (.k (AV.int .i64 0))), .op (some 8) none (.mv (.t 7)), .split 8, .op (some 9) (some (8, true)) (.mv (.t 0)), .op (some 10) (some (8, true)) (.iaddr (.t 9) (.k (AV.int .i64 0)) 1 (.int .u8)), .op (some 11) (some (8, true)) (.load (.t 10) none (.int .u8)), .op (some 12) (some (8, true)) (.mv (.t 1)), .op (some 13) (some (8, true)) (.bin .eql (.t 11) (.t 12)), .op (some 14) none (.pick (.t 8) (.t 13) (.k (AV.bool false)))]) (.cond (.t 14) (.skip) (.exit 0 [0] []))) (.block 1 (.region [.op (some 15) none (.mv (.t 0)), .op (some 16) none (.slice (.t 15) (some (.k (AV.int .i64 1))) none 1), .op (some 0) none (.mv (.t 16))]))
theorem bytesTrimLeftByte_L1s_eq (R : Nat → List AV → Option Res) (N : Nat) (K : Ex → St → Option Res) (W : St → Option Res) (s2 : List UInt8) (i2 : Int) :
    evC gl R N bytesTrimLeftByte_c0 (Kseq (fun st' => W (prune [0, 1] [] st')) K) ⟨[(0, .imm (AV.bytes s2)), (1, .imm (AV.int .u8 i2))], []⟩ =
    bytesTrimLeftByte_L1s R N (fun (s2 : List UInt8) (i2 : Int) => W ⟨[(0, .imm (AV.bytes s2)), (1, .imm (AV.int .u8 i2))], []⟩) (fun (s3 : List UInt8) => K (.exit 0) ⟨[(0, .imm (AV.bytes s3))], []⟩) s2 i2 := by
  kernel_rfl
theorem bytesTrimLeftByte_L1_eq (R : Nat → List AV → Option Res) (N : Nat) (K : Ex → St → Option Res) : ∀ (n : Nat) (s2 : List UInt8) (i2 : Int),
    rounds [0, 1] [] (evC gl R N bytesTrimLeftByte_c0) K n ⟨[(0, .imm (AV.bytes s2)), (1, .imm (AV.int .u8 i2))], []⟩ = bytesTrimLeftByte_L1 R N (fun (s3 : List UInt8) => K (.exit 0) ⟨[(0, .imm (AV.bytes s3))], []⟩) n s2 i2
  | 0, _, _ => rfl
  | n + 1, s2, i2 => (bytesTrimLeftByte_L1s_eq R N K (rounds [0, 1] [] (evC gl R N bytesTrimLeftByte_c0) K n) s2 i2).trans
      (congrArg (fun go => bytesTrimLeftByte_L1s R N go (fun (s3 : List UInt8) => K (.exit 0) ⟨[(0, .imm (AV.bytes s3))], []⟩) s2 i2) (funext fun s2 => funext fun i2 => bytesTrimLeftByte_L1_eq R N K n s2 i2))
def bytesTrimLeftByte_c1 : AC := .seq (.seq (.region [.op (some 17) none (.mv (.t 0)), .op (some 18) none (.len (.t 17) false), .op (some 19) none (.bin .eql (.t 18) (.k (AV.int .i64 0)))]) (.cond (.t 19) (.seq (.region [.op (some 4) none (.mv (.k (AV.bytes [])))]) (.ret [4] [])) (.skip))) (.seq (.region [.op (some 20) none (.mv (.t 0)), .op (some 4) none (.mv (.t 20))]) (.ret [4] []))
def bytesTrimLeftByte_c2 : AC := .seq (.region [.op (some 4) none (.mv (.k (AV.bytes [])))]) (.seq (.block 0 (.loop [0, 1] [] (bytesTrimLeftByte_c0))) (bytesTrimLeftByte_c1))
def bytesTrimLeftByte : AFunc := ⟨2, 21, [.tmp 4], bytesTrimLeftByte_c2⟩
def bytesTrimLeftByter (R : Nat → List AV → Option Res) (N : Nat) (s1 : List UInt8) (i1 : Int) : Option Res :=
  bytesTrimLeftByte_L1 R N
    (fun s5 =>
      bif (((s5.length : Nat) : Int) : Int) == 0 then
        (some ⟨AV.bytes [], false, []⟩)
      else
        some ⟨AV.bytes s5, false, []⟩)
    N s1 i1
theorem bytesTrimLeftByte_eq (R : Nat → List AV → Option Res) (N : Nat) (s1 : List UInt8) (i1 : Int) : runF gl R N bytesTrimLeftByte [AV.bytes s1, AV.int .u8 i1] = bytesTrimLeftByter R N s1 i1 := by
  refine Eq.trans (b :=
      rounds [0, 1] [] (evC gl R N bytesTrimLeftByte_c0) (Kblock 0 (Kthen gl R N bytesTrimLeftByte_c1 (Kret bytesTrimLeftByte.rets []))) N ⟨[(0, .imm (AV.bytes s1)), (1, .imm (AV.int .u8 i1))], []⟩) (by kernel_rfl) ?_
  simp (config := { maxSteps := 100000000 }) only [bytesTrimLeftByte_L1_eq]
  kernel_rfl
theorem bytesTrimLeftByte_fit : fitF Tryd.prog bytesTrimLeftByte Tryd.f50 = true := by
  kernel_rfl

def bytesMakeASCIISet : AFunc := ⟨1, 21, [.cell 2 256, .tmp 3], .stuck⟩
def bytesMakeASCIISetr (R : Nat → List AV → Option Res) (N : Nat) (s1 : List UInt8) : Option Res :=
  none
theorem bytesMakeASCIISet_eq (R : Nat → List AV → Option Res) (N : Nat) (s1 : List UInt8) : runF gl R N bytesMakeASCIISet [AV.str s1] = bytesMakeASCIISetr R N s1 := by
  kernel_rfl
theorem bytesMakeASCIISet_fit : fitF Tryd.prog bytesMakeASCIISet Tryd.f51 = true := by
  kernel_rfl

def bytesContainsRune_L1s (R : Nat → List AV → Option Res) (N : Nat) (go : Int → List UInt8 → Nat → Option Res) (k0 : Bool → Option Res) (k1 : Option Res) (i2 : Int) (s2 : List UInt8) (n1 : Nat) : Option Res :=
  bif decide (n1 < s2.length) then
    (bif (((runeAt s2 n1).1 : Int) : Int) == i2 then
      (k0 true)
    else
      go i2 s2 (n1 + (runeAt s2 n1).2))
  else
    k1
def bytesContainsRune_L1 (R : Nat → List AV → Option Res) (N : Nat) (k0 : Bool → Option Res) (k1 : Option Res) : Nat → Int → List UInt8 → Nat → Option Res
  | 0, _, _, _ => none
  | n + 1, i2, s2, n1 => bytesContainsRune_L1s R N (bytesContainsRune_L1 R N k0 k1 n) k0 k1 i2 s2 n1
def bytesContainsRune_c0 : AC := .seq (.region [.op (some 9) none (.nextS (.t 8)), .op (some 10) none (.extract (.t 9) 0)]) (.seq (.cond (.t 10) (.skip) (.exit 0 [] [])) (.block 1 (.seq (.region [.op (some 11) none (.extract (.t 9) 2), .op (some 6) none (.mv (.t 11))]) (.seq (.region [.op (some 12) none (.mv (.t 6)), .op (some 13) none (.mv (.t 1)), .op (some 14) none (.bin .eql (.t 12) (.t 13))]) (.cond (.t 14) (.seq (.region [.op (some 4) none (.mv (.k (AV.bool true)))]) (.ret [4] [])) (.skip))))))
theorem bytesContainsRune_L1s_eq (R : Nat → List AV → Option Res) (N : Nat) (K : Ex → St → Option Res) (W : St → Option Res) (i2 : Int) (s2 : List UInt8) (n1 : Nat) :
    evC gl R N bytesContainsRune_c0 (Kseq (fun st' => W (prune [1, 8] [1008] st')) K) ⟨[(1, .imm (AV.int .i32 i2)), (8, .ptr 1008 0 0)], [(1008, .iter s2 n1)]⟩ =
    bytesContainsRune_L1s R N (fun (i2 : Int) (s2 : List UInt8) (n1 : Nat) => W ⟨[(1, .imm (AV.int .i32 i2)), (8, .ptr 1008 0 0)], [(1008, .iter s2 n1)]⟩) (fun (b1 : Bool) => K .ret ⟨[(4, .imm (AV.bool b1))], []⟩) (K (.exit 0) ⟨[], []⟩) i2 s2 n1 := by
  kernel_rfl
theorem bytesContainsRune_L1_eq (R : Nat → List AV → Option Res) (N : Nat) (K : Ex → St → Option Res) : ∀ (n : Nat) (i2 : Int) (s2 : List UInt8) (n1 : Nat),
    rounds [1, 8] [1008] (evC gl R N bytesContainsRune_c0) K n ⟨[(1, .imm (AV.int .i32 i2)), (8, .ptr 1008 0 0)], [(1008, .iter s2 n1)]⟩ = bytesContainsRune_L1 R N (fun (b1 : Bool) => K .ret ⟨[(4, .imm (AV.bool b1))], []⟩) (K (.exit 0) ⟨[], []⟩) n i2 s2 n1
  | 0, _, _, _ => rfl
  | n + 1, i2, s2, n1 => (bytesContainsRune_L1s_eq R N K (rounds [1, 8] [1008] (evC gl R N bytesContainsRune_c0) K n) i2 s2 n1).trans
      (congrArg (fun go => bytesContainsRune_L1s R N go (fun (b1 : Bool) => K .ret ⟨[(4, .imm (AV.bool b1))], []⟩) (K (.exit 0) ⟨[], []⟩) i2 s2 n1) (funext fun i2 => funext fun s2 => funext fun n1 => bytesContainsRune_L1_eq R N K n i2 s2 n1))
def bytesContainsRune_c1 : AC := .seq (.region [.op (some 4) none (.mv (.k (AV.bool false)))]) (.ret [4] [])
def bytesContainsRune_c2 : AC := .seq (.region [.op (some 4) none (.mv (.k (AV.bool false)))]) (.seq (.seq (.region [.op (some 7) none (.mv (.t 0)), .op (some 8) none (.rangeS 1008 (.t 7))]) (.block 0 (.loop [1, 8] [1008] (bytesContainsRune_c0)))) (bytesContainsRune_c1))
def bytesContainsRune : AFunc := ⟨2, 15, [.tmp 4], bytesContainsRune_c2⟩
def bytesContainsRuner (R : Nat → List AV → Option Res) (N : Nat) (s1 : List UInt8) (i1 : Int) : Option Res :=
  bytesContainsRune_L1 R N
    (fun b3 =>
      some ⟨AV.bool b3, false, []⟩)
    (
      some ⟨AV.bool false, false, []⟩)
    N i1 s1 0
theorem bytesContainsRune_eq (R : Nat → List AV → Option Res) (N : Nat) (s1 : List UInt8) (i1 : Int) : runF gl R N bytesContainsRune [AV.str s1, AV.int .i32 i1] = bytesContainsRuner R N s1 i1 := by
  refine Eq.trans (b :=
      rounds [1, 8] [1008] (evC gl R N bytesContainsRune_c0) (Kblock 0 (Kthen gl R N bytesContainsRune_c1 (Kret bytesContainsRune.rets []))) N ⟨[(1, .imm (AV.int .i32 i1)), (8, .ptr 1008 0 0)], [(1008, .iter s1 0)]⟩) (by kernel_rfl) ?_
  simp (config := { maxSteps := 100000000 }) only [bytesContainsRune_L1_eq]
  kernel_rfl
theorem bytesContainsRune_fit : fitF Tryd.prog bytesContainsRune Tryd.f58 = true := by
  kernel_rfl

def bytesTrimLeftUnicode_L1s (R : Nat → List AV → Option Res) (N : Nat) (go : List UInt8 → List UInt8 → Option Res) (k0 : List UInt8 → Option Res) (s3 : List UInt8) (s4 : List UInt8) : Option Res :=
  bif decide ((((s3.length : Nat) : Int) : Int) > 0) then
    ((R id_unicodeUtf8DecodeRune [AV.bytes s3]).bind fun r1 =>
    asJIT r1.v fun i1 i2 =>
    none)
  else
    k0 s3
def bytesTrimLeftUnicode_L1 (R : Nat → List AV → Option Res) (N : Nat) (k0 : List UInt8 → Option Res) : Nat → List UInt8 → List UInt8 → Option Res
  | 0, _, _ => none
  | n + 1, s3, s4 => bytesTrimLeftUnicode_L1s R N (bytesTrimLeftUnicode_L1 R N k0 n) k0 s3 s4
def bytesTrimLeftUnicode_c1 : AC := .seq (.seq (.region [.op (some 7) none (.mv (.t 0)), .op (some 8) none (.len (.t 7) false), .op (some 9) none (.bin .gtr (.t 8) (.k (AV.int .i64 0)))]) (.cond (.t 9) (.skip) (.exit 0 [0] []))) (.block 1 (.seq (.region [.op (some 11) none (.mv (.t 0)), .op (some 12) none (.call id_unicodeUtf8DecodeRune [.t 11] (.tup [.int .i32, .int .i64])), .op (some 10) none (.mv (.t 12)), .op (some 13) none (.extract (.t 10) 0), .op (some 14) none (.extract (.t 10) 1), .op (some 5) none (.mv (.t 13)), .op (some 6) none (.mv (.t 14))]) (.stuck)))
theorem bytesTrimLeftUnicode_L1s_eq (R : Nat → List AV → Option Res) (N : Nat) (K : Ex → St → Option Res) (W : St → Option Res) (s3 : List UInt8) (s4 : List UInt8) :
    evC gl R N bytesTrimLeftUnicode_c1 (Kseq (fun st' => W (prune [0, 1] [] st')) K) ⟨[(0, .imm (AV.bytes s3)), (1, .imm (AV.str s4))], []⟩ =
    bytesTrimLeftUnicode_L1s R N (fun (s3 : List UInt8) (s4 : List UInt8) => W ⟨[(0, .imm (AV.bytes s3)), (1, .imm (AV.str s4))], []⟩) (fun (s5 : List UInt8) => K (.exit 0) ⟨[(0, .imm (AV.bytes s5))], []⟩) s3 s4 := by
  kernel_rfl
theorem bytesTrimLeftUnicode_L1_eq (R : Nat → List AV → Option Res) (N : Nat) (K : Ex → St → Option Res) : ∀ (n : Nat) (s3 : List UInt8) (s4 : List UInt8),
    rounds [0, 1] [] (evC gl R N bytesTrimLeftUnicode_c1) K n ⟨[(0, .imm (AV.bytes s3)), (1, .imm (AV.str s4))], []⟩ = bytesTrimLeftUnicode_L1 R N (fun (s5 : List UInt8) => K (.exit 0) ⟨[(0, .imm (AV.bytes s5))], []⟩) n s3 s4
  | 0, _, _ => rfl
  | n + 1, s3, s4 => (bytesTrimLeftUnicode_L1s_eq R N K (rounds [0, 1] [] (evC gl R N bytesTrimLeftUnicode_c1) K n) s3 s4).trans
      (congrArg (fun go => bytesTrimLeftUnicode_L1s R N go (fun (s5 : List UInt8) => K (.exit 0) ⟨[(0, .imm (AV.bytes s5))], []⟩) s3 s4) (funext fun s3 => funext fun s4 => bytesTrimLeftUnicode_L1_eq R N K n s3 s4))
def bytesTrimLeftUnicode_c2 : AC := .seq (.seq (.region [.op (some 22) none (.mv (.t 0)), .op (some 23) none (.len (.t 22) false), .op (some 24) none (.bin .eql (.t 23) (.k (AV.int .i64 0)))]) (.cond (.t 24) (.seq (.region [.op (some 4) none (.mv (.k (AV.bytes [])))]) (.ret [4] [])) (.skip))) (.seq (.region [.op (some 25) none (.mv (.t 0)), .op (some 4) none (.mv (.t 25))]) (.ret [4] []))
def bytesTrimLeftUnicode_c3 : AC := .seq (.region [.op (some 4) none (.mv (.k (AV.bytes [])))]) (.seq (.block 0 (.loop [0, 1] [] (bytesTrimLeftUnicode_c1))) (bytesTrimLeftUnicode_c2))
def bytesTrimLeftUnicode : AFunc := ⟨2, 26, [.tmp 4], bytesTrimLeftUnicode_c3⟩
def bytesTrimLeftUnicoder (R : Nat → List AV → Option Res) (N : Nat) (s1 : List UInt8) (s2 : List UInt8) : Option Res :=
  bytesTrimLeftUnicode_L1 R N
    (fun s7 =>
      bif (((s7.length : Nat) : Int) : Int) == 0 then
        (some ⟨AV.bytes [], false, []⟩)
      else
        some ⟨AV.bytes s7, false, []⟩)
    N s1 s2
theorem bytesTrimLeftUnicode_eq (R : Nat → List AV → Option Res) (N : Nat) (s1 : List UInt8) (s2 : List UInt8) : runF gl R N bytesTrimLeftUnicode [AV.bytes s1, AV.str s2] = bytesTrimLeftUnicoder R N s1 s2 := by
  refine Eq.trans (b :=
      rounds [0, 1] [] (evC gl R N bytesTrimLeftUnicode_c1) (Kblock 0 (Kthen gl R N bytesTrimLeftUnicode_c2 (Kret bytesTrimLeftUnicode.rets []))) N ⟨[(0, .imm (AV.bytes s1)), (1, .imm (AV.str s2))], []⟩) (by kernel_rfl) ?_
  simp (config := { maxSteps := 100000000 }) only [bytesTrimLeftUnicode_L1_eq]
  kernel_rfl
theorem bytesTrimLeftUnicode_fit : fitF Tryd.prog bytesTrimLeftUnicode Tryd.f53 = true := by
  kernel_rfl

def bytesTrimLeft_c1 : AC := .seq (.region [.op (some 4) none (.mv (.k (AV.bytes [])))]) (.seq (.seq (.region [.op (some 7) none (.mv (.t 0)), .op (some 8) none (.len (.t 7) false), .op (some 9) none (.bin .eql (.t 8) (.k (AV.int .i64 0)))]) (.cond (.t 9) (.seq (.region [.op (some 4) none (.mv (.k (AV.bytes [])))]) (.ret [4] [])) (.skip))) (.seq (.seq (.region [.op (some 10) none (.mv (.t 1)), .op (some 11) none (.bin .eql (.t 10) (.k (AV.str ([] : List UInt8))))]) (.cond (.t 11) (.seq (.region [.op (some 12) none (.mv (.t 0)), .op (some 4) none (.mv (.t 12))]) (.ret [4] [])) (.skip))) (.seq (.seq (.region [.op (some 13) none (.mv (.t 1)), .op (some 14) none (.len (.t 13) true), .op (some 15) none (.bin .eql (.t 14) (.k (AV.int .i64 1))), .op (some 16) none (.mv (.t 15)), .split 16, .op (some 17) (some (16, true)) (.mv (.t 1)), .op (some 18) (some (16, true)) (.index (.t 17) (.k (AV.int .i64 0))), .op (some 19) (some (16, true)) (.bin .lss (.t 18) (.k (AV.int .u8 128))), .op (some 20) none (.pick (.t 16) (.t 19) (.k (AV.bool false)))]) (.cond (.t 20) (.seq (.region [.op (some 21) none (.mv (.t 0)), .op (some 22) none (.mv (.t 1)), .op (some 23) none (.index (.t 22) (.k (AV.int .i64 0))), .op (some 24) none (.call id_bytesTrimLeftByte [.t 21, .t 23] (.bytes)), .op (some 4) none (.mv (.t 24))]) (.ret [4] [])) (.skip))) (.stuck))))
def bytesTrimLeft : AFunc := ⟨2, 36, [.tmp 4], bytesTrimLeft_c1⟩
def bytesTrimLeftr (R : Nat → List AV → Option Res) (N : Nat) (s1 : List UInt8) (s2 : List UInt8) : Option Res :=
  bif (((s1.length : Nat) : Int) : Int) == 0 then
    (some ⟨AV.bytes [], false, []⟩)
  else
    bif s2 == ([] : List UInt8) then
      (some ⟨AV.bytes s1, false, []⟩)
    else
      bif (((s2.length : Nat) : Int) : Int) == 1 then
        (need (decide (0 ≤ (0 : Int))) <|
        (s2[Int.toNat 0]?).bind fun c1 =>
        bif decide (((c1.toNat : Int) : Int) < 128) then
          (need (decide (0 ≤ (0 : Int))) <|
          (s2[Int.toNat 0]?).bind fun c2 =>
          (R id_bytesTrimLeftByte [AV.bytes s1, AV.int .u8 (c2.toNat : Int)]).bind fun r1 =>
          asY r1.v fun s3 =>
          some ⟨AV.bytes s3, false, []⟩)
        else
          none)
      else
        none
theorem bytesTrimLeft_eq (R : Nat → List AV → Option Res) (N : Nat) (s1 : List UInt8) (s2 : List UInt8) : runF gl R N bytesTrimLeft [AV.bytes s1, AV.str s2] = bytesTrimLeftr R N s1 s2 := by
  kernel_rfl
theorem bytesTrimLeft_fit : fitF Tryd.prog bytesTrimLeft Tryd.f42 = true := by
  kernel_rfl

def tailRest_c0 : AC := .seq (.region [.op (some 2) none (.nilOwn 5 none)]) (.seq (.region [.op (some 3) none (.mv (.t 0)), .op (some 4) none (.call id_bytesTrimLeft [.t 3, .k (AV.str ([32] : List UInt8))] (.bytes)), .op (some 5) none (.callOwn 5 id_slicesCloneByteByte [.t 4] 1 .any true), .op (some 2) none (.mv (.t 5))]) (.ret [2] [5]))
def tailRest : AFunc := ⟨1, 6, [.tmp 2], tailRest_c0⟩
def tailRestr (R : Nat → List AV → Option Res) (N : Nat) (s1 : List UInt8) : Option Res :=
  (R id_bytesTrimLeft [AV.bytes s1, AV.str ([32] : List UInt8)]).bind fun r1 =>
  asY r1.v fun s2 =>
  (R id_slicesCloneByteByte [AV.bytes s2]).bind fun r2 =>
  need r2.own <|
  asY r2.v fun s3 =>
  some ⟨AV.bytes ((s3.drop 0).take s3.length), true, []⟩
theorem tailRest_eq (R : Nat → List AV → Option Res) (N : Nat) (s1 : List UInt8) : runF gl R N tailRest [AV.bytes s1] = tailRestr R N s1 := by
  kernel_rfl
theorem tailRest_fit : fitF Tryd.prog tailRest Tryd.f24 = true := by
  kernel_rfl

def tailComment_c0 : AC := .seq (.region [.op (some 2) none (.mv (.k (AV.int .i64 0))), .op (some 3) none (.mv (.k (AV.bool false)))]) (.seq (.region [.op (some 4) none (.mv (.t 0)), .op (some 5) none (.len (.t 4) false), .op (some 6) none (.mv (.t 0)), .op (some 7) none (.call id_tailRest [.t 6] (.bytes)), .op (some 8) none (.len (.t 7) false), .op (some 9) none (.bin .sub (.t 5) (.t 8)), .op (some 2) none (.mv (.t 9))]) (.seq (.seq (.region [.op (some 10) none (.mv (.t 2)), .op (some 11) none (.bin .eql (.t 10) (.k (AV.int .i64 0))), .op (some 12) none (.mv (.t 11)), .split 12, .op (some 13) (some (12, false)) (.mv (.t 2)), .op (some 14) (some (12, false)) (.mv (.t 0)), .op (some 15) (some (12, false)) (.len (.t 14) false), .op (some 16) (some (12, false)) (.bin .eql (.t 13) (.t 15)), .op (some 17) none (.pick (.t 12) (.k (AV.bool true)) (.t 16)), .op (some 18) none (.mv (.t 17)), .split 18, .op (some 19) (some (18, false)) (.mv (.t 0)), .op (some 20) (some (18, false)) (.mv (.t 2)), .op (some 21) (some (18, false)) (.iaddr (.t 19) (.t 20) 1 (.int .u8)), .op (some 22) (some (18, false)) (.load (.t 21) none (.int .u8)), .op (some 23) (some (18, false)) (.bin .neq (.t 22) (.k (AV.int .u8 35))), .op (some 24) none (.pick (.t 18) (.k (AV.bool true)) (.t 23))]) (.cond (.t 24) (.seq (.region [.op (some 2) none (.mv (.k (AV.int .i64 0))), .op (some 3) none (.mv (.k (AV.bool false)))]) (.ret [2, 3] [])) (.skip))) (.seq (.region [.op (some 25) none (.mv (.t 2)), .op (some 2) none (.mv (.t 25)), .op (some 3) none (.mv (.k (AV.bool true)))]) (.ret [2, 3] []))))
def tailComment : AFunc := ⟨1, 26, [.tmp 2, .tmp 3], tailComment_c0⟩
def tailCommentr (R : Nat → List AV → Option Res) (N : Nat) (s1 : List UInt8) : Option Res :=
  (R id_tailRest [AV.bytes s1]).bind fun r1 =>
  asY r1.v fun s2 =>
  bif ((IntKind.i64.wrap (((s1.length : Nat) : Int) - ((s2.length : Nat) : Int))) : Int) == 0 then
    (some ⟨AV.tup [AV.int .i64 0, AV.bool false], false, []⟩)
  else
    bif ((IntKind.i64.wrap (((s1.length : Nat) : Int) - ((s2.length : Nat) : Int))) : Int) == ((s1.length : Nat) : Int) then
      (some ⟨AV.tup [AV.int .i64 0, AV.bool false], false, []⟩)
    else
      need (decide (0 ≤ (IntKind.i64.wrap (((s1.length : Nat) : Int) - ((s2.length : Nat) : Int)) : Int))) <|
      (s1[Int.toNat (IntKind.i64.wrap (((s1.length : Nat) : Int) - ((s2.length : Nat) : Int)))]?).bind fun c1 =>
      bif ((c1.toNat : Int) : Int) != 35 then
        (some ⟨AV.tup [AV.int .i64 0, AV.bool false], false, []⟩)
      else
        some ⟨AV.tup [AV.int .i64 (IntKind.i64.wrap (((s1.length : Nat) : Int) - ((s2.length : Nat) : Int))), AV.bool true], false, []⟩
theorem tailComment_eq (R : Nat → List AV → Option Res) (N : Nat) (s1 : List UInt8) : runF gl R N tailComment [AV.bytes s1] = tailCommentr R N s1 := by
  kernel_rfl
theorem tailComment_fit : fitF Tryd.prog tailComment Tryd.f27 = true := by
  kernel_rfl

def tailClear_c0 : AC := .seq (.region [.op (some 2) none (.mv (.k (AV.bool false)))]) (.seq (.region [.op (some 6) none (.mv (.t 0)), .op (some 7) none (.call id_tailComment [.t 6] (.tup [.int .i64, .bool])), .op (some 5) none (.mv (.t 7)), .op (some 8) none (.extract (.t 5) 0), .op (some 9) none (.extract (.t 5) 1), .op (some 3) none (.mv (.t 8)), .op (some 4) none (.mv (.t 9))]) (.seq (.region [.op (some 10) none (.mv (.t 4)), .op (some 11) none (.mv (.t 10)), .split 11, .op (some 12) (some (11, false)) (.mv (.t 0)), .op (some 13) (some (11, false)) (.call id_tailRest [.t 12] (.bytes)), .op (some 14) (some (11, false)) (.len (.t 13) false), .op (some 15) (some (11, false)) (.bin .eql (.t 14) (.k (AV.int .i64 0))), .op (some 16) none (.pick (.t 11) (.k (AV.bool true)) (.t 15)), .op (some 2) none (.mv (.t 16))]) (.ret [2] [])))
def tailClear : AFunc := ⟨1, 17, [.tmp 2], tailClear_c0⟩
def tailClearr (R : Nat → List AV → Option Res) (N : Nat) (s1 : List UInt8) : Option Res :=
  (R id_tailComment [AV.bytes s1]).bind fun r1 =>
  asIBT r1.v fun i1 b1 =>
  bif b1 then
    (some ⟨AV.bool true, false, []⟩)
  else
    (R id_tailRest [AV.bytes s1]).bind fun r2 =>
    asY r2.v fun s2 =>
    some ⟨AV.bool ((((s2.length : Nat) : Int) : Int) == 0), false, []⟩
theorem tailClear_eq (R : Nat → List AV → Option Res) (N : Nat) (s1 : List UInt8) : runF gl R N tailClear [AV.bytes s1] = tailClearr R N s1 := by
  kernel_rfl
theorem tailClear_fit : fitF Tryd.prog tailClear Tryd.f29 = true := by
  kernel_rfl

def bytesEqual_c0 : AC := .seq (.region [.op (some 4) none (.mv (.k (AV.bool false)))]) (.seq (.region [.op (some 5) none (.mv (.t 0)), .op (some 6) none (.cvStr (.t 5)), .op (some 7) none (.mv (.t 1)), .op (some 8) none (.cvStr (.t 7)), .op (some 9) none (.bin .eql (.t 6) (.t 8)), .op (some 4) none (.mv (.t 9))]) (.ret [4] []))
def bytesEqual : AFunc := ⟨2, 10, [.tmp 4], bytesEqual_c0⟩
def bytesEqualr (R : Nat → List AV → Option Res) (N : Nat) (s1 : List UInt8) (s2 : List UInt8) : Option Res :=
  some ⟨AV.bool (s1 == s2), false, []⟩
theorem bytesEqual_eq (R : Nat → List AV → Option Res) (N : Nat) (s1 : List UInt8) (s2 : List UInt8) : runF gl R N bytesEqual [AV.bytes s1, AV.bytes s2] = bytesEqualr R N s1 s2 := by
  kernel_rfl
theorem bytesEqual_fit : fitF Tryd.prog bytesEqual Tryd.f56 = true := by
  kernel_rfl

def bytesHasPrefix_c0 : AC := .seq (.region [.op (some 4) none (.mv (.k (AV.bool false)))]) (.seq (.region [.op (some 5) none (.mv (.t 0)), .op (some 6) none (.len (.t 5) false), .op (some 7) none (.mv (.t 1)), .op (some 8) none (.len (.t 7) false), .op (some 9) none (.bin .geq (.t 6) (.t 8)), .op (some 10) none (.mv (.t 9)), .split 10, .op (some 11) (some (10, true)) (.mv (.t 0)), .op (some 12) (some (10, true)) (.mv (.t 1)), .op (some 13) (some (10, true)) (.len (.t 12) false), .op (some 14) (some (10, true)) (.slice (.t 11) none (some (.t 13)) 1), .op (some 15) (some (10, true)) (.mv (.t 1)), .op (some 16) (some (10, true)) (.call id_bytesEqual [.t 14, .t 15] (.bool)), .op (some 17) none (.pick (.t 10) (.t 16) (.k (AV.bool false))), .op (some 4) none (.mv (.t 17))]) (.ret [4] []))
def bytesHasPrefix : AFunc := ⟨2, 18, [.tmp 4], bytesHasPrefix_c0⟩
def bytesHasPrefixr (R : Nat → List AV → Option Res) (N : Nat) (s1 : List UInt8) (s2 : List UInt8) : Option Res :=
  bif decide ((((s1.length : Nat) : Int) : Int) ≥ ((s2.length : Nat) : Int)) then
    (need (decide (0 ≤ (((s2.length : Nat) : Int) : Int)) && decide ((((s2.length : Nat) : Int) : Int) ≤ ((s1.length : Nat) : Int))) <|
    (R id_bytesEqual [AV.bytes ((s1.take (Int.toNat ((s2.length : Nat) : Int))).drop 0), AV.bytes s2]).bind fun r1 =>
    asB r1.v fun b1 =>
    some ⟨AV.bool b1, false, []⟩)
  else
    some ⟨AV.bool false, false, []⟩
theorem bytesHasPrefix_eq (R : Nat → List AV → Option Res) (N : Nat) (s1 : List UInt8) (s2 : List UInt8) : runF gl R N bytesHasPrefix [AV.bytes s1, AV.bytes s2] = bytesHasPrefixr R N s1 s2 := by
  kernel_rfl
theorem bytesHasPrefix_fit : fitF Tryd.prog bytesHasPrefix Tryd.f49 = true := by
  kernel_rfl

def bytesCutPrefix_c0 : AC := .seq (.region [.op (some 4) none (.mv (.k (AV.bytes []))), .op (some 5) none (.mv (.k (AV.bool false)))]) (.seq (.seq (.region [.op (some 6) none (.mv (.t 0)), .op (some 7) none (.mv (.t 1)), .op (some 8) none (.call id_bytesHasPrefix [.t 6, .t 7] (.bool)), .op (some 9) none (.un .not (.t 8))]) (.cond (.t 9) (.seq (.region [.op (some 10) none (.mv (.t 0)), .op (some 4) none (.mv (.t 10)), .op (some 5) none (.mv (.k (AV.bool false)))]) (.ret [4, 5] [])) (.skip))) (.seq (.region [.op (some 11) none (.mv (.t 0)), .op (some 12) none (.mv (.t 1)), .op (some 13) none (.len (.t 12) false), .op (some 14) none (.slice (.t 11) (some (.t 13)) none 1), .op (some 4) none (.mv (.t 14)), .op (some 5) none (.mv (.k (AV.bool true)))]) (.ret [4, 5] [])))
def bytesCutPrefix : AFunc := ⟨2, 15, [.tmp 4, .tmp 5], bytesCutPrefix_c0⟩
def bytesCutPrefixr (R : Nat → List AV → Option Res) (N : Nat) (s1 : List UInt8) (s2 : List UInt8) : Option Res :=
  (R id_bytesHasPrefix [AV.bytes s1, AV.bytes s2]).bind fun r1 =>
  asB r1.v fun b1 =>
  bif !b1 then
    (some ⟨AV.tup [AV.bytes s1, AV.bool false], false, []⟩)
  else
    need (decide (0 ≤ (((s2.length : Nat) : Int) : Int)) && decide ((((s2.length : Nat) : Int) : Int) ≤ ((s1.length : Nat) : Int))) <|
    some ⟨AV.tup [AV.bytes ((s1.take s1.length).drop (Int.toNat ((s2.length : Nat) : Int))), AV.bool true], false, []⟩
theorem bytesCutPrefix_eq (R : Nat → List AV → Option Res) (N : Nat) (s1 : List UInt8) (s2 : List UInt8) : runF gl R N bytesCutPrefix [AV.bytes s1, AV.bytes s2] = bytesCutPrefixr R N s1 s2 := by
  kernel_rfl
theorem bytesCutPrefix_fit : fitF Tryd.prog bytesCutPrefix Tryd.f40 = true := by
  kernel_rfl

def tailMarker_L1s (R : Nat → List AV → Option Res) (N : Nat) (go : List UInt8 → List AV → Int → Int → Option Res) (k0 : Int → Option Res) (k1 : Option Res) (s2 : List UInt8) (l1 : List AV) (i1 : Int) (i2 : Int) : Option Res :=
  bif decide ((i2 : Int) < i1) then
    (need (decide (0 ≤ (i2 : Int))) <|
    (l1[Int.toNat i2]?).bind fun e1 =>
    asS e1 fun s3 =>
    (R id_bytesCutPrefix [AV.bytes s2, AV.bytes s3]).bind fun r1 =>
    asYBT r1.v fun s4 b1 =>
    bif s3 == ([] : List UInt8) then
      (go s2 l1 i1 (IntKind.i64.wrap (i2 + 1)))
    else
      bif !b1 then
        (go s2 l1 i1 (IntKind.i64.wrap (i2 + 1)))
      else
        (R id_tailClear [AV.bytes s4]).bind fun r2 =>
        asB r2.v fun b2 =>
        bif b2 then
          (k0 i2)
        else
          need (decide (0 ≤ (0 : Int))) <|
          (s4[Int.toNat 0]?).bind fun c1 =>
          bif ((c1.toNat : Int) : Int) == 32 then
            (k0 3)
          else
            need (decide (0 ≤ (0 : Int))) <|
            (s4[Int.toNat 0]?).bind fun c2 =>
            bif ((c2.toNat : Int) : Int) == 9 then
              (k0 3)
            else
              go s2 l1 i1 (IntKind.i64.wrap (i2 + 1)))
  else
    k1
def tailMarker_L1 (R : Nat → List AV → Option Res) (N : Nat) (k0 : Int → Option Res) (k1 : Option Res) : Nat → List UInt8 → List AV → Int → Int → Option Res
  | 0, _, _, _, _ => none
  | n + 1, s2, l1, i1, i2 => tailMarker_L1s R N (tailMarker_L1 R N k0 k1 n) k0 k1 s2 l1 i1 i2
def tailMarker_c0 : AC := .seq (.region [.op (some 10) none (.bin .lss (.t 9) (.t 8))]) (.seq (.cond (.t 10) (.skip) (.exit 0 [] [])) (.seq (.block 1 (.seq (.region [.op (some 11) none (.mv (.t 9)), .op (some 12) none (.iaddr (.t 7) (.t 9) 1 (.str)), .op (some 13) none (.load (.t 12) none (.str)), .op (some 3) none (.mv (.t 11)), .op (some 4) none (.mv (.t 13))]) (.seq (.region [.op (some 15) none (.mv (.t 0)), .op (some 16) none (.mv (.t 4)), .op (some 17) none (.cvBytes (.t 16)), .op (some 18) none (.call id_bytesCutPrefix [.t 15, .t 17] (.tup [.bytes, .bool])), .op (some 14) none (.mv (.t 18)), .op (some 19) none (.extract (.t 14) 0), .op (some 20) none (.extract (.t 14) 1), .op (some 5) none (.mv (.t 19)), .op (some 6) none (.mv (.t 20))]) (.seq (.seq (.region [.op (some 21) none (.mv (.t 4)), .op (some 22) none (.bin .eql (.t 21) (.k (AV.str ([] : List UInt8)))), .op (some 23) none (.mv (.t 22)), .split 23, .op (some 24) (some (23, false)) (.mv (.t 6)), .op (some 25) (some (23, false)) (.un .not (.t 24)), .op (some 26) none (.pick (.t 23) (.k (AV.bool true)) (.t 25))]) (.cond (.t 26) (.exit 1 [0, 7, 8, 9] []) (.skip))) (.seq (.seq (.region [.op (some 27) none (.mv (.t 5)), .op (some 28) none (.call id_tailClear [.t 27] (.bool))]) (.cond (.t 28) (.seq (.region [.op (some 29) none (.mv (.t 3)), .op (some 2) none (.mv (.t 29))]) (.ret [2] [])) (.skip))) (.seq (.region [.op (some 30) none (.mv (.t 5)), .op (some 31) none (.iaddr (.t 30) (.k (AV.int .i64 0)) 1 (.int .u8)), .op (some 32) none (.load (.t 31) none (.int .u8)), .op (some 33) none (.bin .eql (.t 32) (.k (AV.int .u8 32))), .op (some 34) none (.mv (.t 33)), .split 34, .op (some 35) (some (34, false)) (.mv (.t 5)), .op (some 36) (some (34, false)) (.iaddr (.t 35) (.k (AV.int .i64 0)) 1 (.int .u8)), .op (some 37) (some (34, false)) (.load (.t 36) none (.int .u8)), .op (some 38) (some (34, false)) (.bin .eql (.t 37) (.k (AV.int .u8 9))), .op (some 39) none (.pick (.t 34) (.k (AV.bool true)) (.t 38))]) (.cond (.t 39) (.seq (.region [.op (some 2) none (.mv (.k (AV.int .i64 3)))]) (.ret [2] [])) (.skip)))))))) (.region [.op (some 40) none (.bin .add (.t 9) (.k (AV.int .i64 1))), .op (some 9) none (.mv (.t 40))])))
theorem tailMarker_L1s_eq (R : Nat → List AV → Option Res) (N : Nat) (K : Ex → St → Option Res) (W : St → Option Res) (s2 : List UInt8) (l1 : List AV) (i1 : Int) (i2 : Int) :
    evC gl R N tailMarker_c0 (Kseq (fun st' => W (prune [0, 7, 8, 9] [] st')) K) ⟨[(0, .imm (AV.bytes s2)), (7, .imm (AV.row 1 l1)), (8, .imm (AV.int .i64 i1)), (9, .imm (AV.int .i64 i2))], []⟩ =
    tailMarker_L1s R N (fun (s2 : List UInt8) (l1 : List AV) (i1 : Int) (i2 : Int) => W ⟨[(0, .imm (AV.bytes s2)), (7, .imm (AV.row 1 l1)), (8, .imm (AV.int .i64 i1)), (9, .imm (AV.int .i64 i2))], []⟩) (fun (i3 : Int) => K .ret ⟨[(2, .imm (AV.int .i64 i3))], []⟩) (K (.exit 0) ⟨[], []⟩) s2 l1 i1 i2 := by
  kernel_rfl
theorem tailMarker_L1_eq (R : Nat → List AV → Option Res) (N : Nat) (K : Ex → St → Option Res) : ∀ (n : Nat) (s2 : List UInt8) (l1 : List AV) (i1 : Int) (i2 : Int),
    rounds [0, 7, 8, 9] [] (evC gl R N tailMarker_c0) K n ⟨[(0, .imm (AV.bytes s2)), (7, .imm (AV.row 1 l1)), (8, .imm (AV.int .i64 i1)), (9, .imm (AV.int .i64 i2))], []⟩ = tailMarker_L1 R N (fun (i3 : Int) => K .ret ⟨[(2, .imm (AV.int .i64 i3))], []⟩) (K (.exit 0) ⟨[], []⟩) n s2 l1 i1 i2
  | 0, _, _, _, _ => rfl
  | n + 1, s2, l1, i1, i2 => (tailMarker_L1s_eq R N K (rounds [0, 7, 8, 9] [] (evC gl R N tailMarker_c0) K n) s2 l1 i1 i2).trans
      (congrArg (fun go => tailMarker_L1s R N go (fun (i3 : Int) => K .ret ⟨[(2, .imm (AV.int .i64 i3))], []⟩) (K (.exit 0) ⟨[], []⟩) s2 l1 i1 i2) (funext fun s2 => funext fun l1 => funext fun i1 => funext fun i2 => tailMarker_L1_eq R N K n s2 l1 i1 i2))
def tailMarker_c1 : AC := .seq (.region [.op (some 2) none (.mv (.k (AV.int .i64 0)))]) (.ret [2] [])
def tailMarker_c2 : AC := .seq (.region [.op (some 2) none (.mv (.k (AV.int .i64 0)))]) (.seq (.seq (.region [.op (some 7) none (.bsliceG (AV.str []) [none, some (.k (AV.str ([45, 45, 45] : List UInt8))), some (.k (AV.str ([46, 46, 46] : List UInt8)))] 1), .op (some 8) none (.len (.t 7) false), .op (some 9) none (.mv (.k (AV.int .i64 0)))]) (.block 0 (.loop [0, 7, 8, 9] [] (tailMarker_c0)))) (tailMarker_c1))
def tailMarker : AFunc := ⟨1, 41, [.tmp 2], tailMarker_c2⟩
def tailMarkerr (R : Nat → List AV → Option Res) (N : Nat) (s1 : List UInt8) : Option Res :=
  tailMarker_L1 R N
    (fun i5 =>
      some ⟨AV.int .i64 i5, false, []⟩)
    (
      some ⟨AV.int .i64 0, false, []⟩)
    N s1 [AV.str [], AV.str ([45, 45, 45] : List UInt8), AV.str ([46, 46, 46] : List UInt8)] (([AV.str [], AV.str ([45, 45, 45] : List UInt8), AV.str ([46, 46, 46] : List UInt8)].length : Nat) : Int) 0
theorem tailMarker_eq (R : Nat → List AV → Option Res) (N : Nat) (s1 : List UInt8) : runF gl R N tailMarker [AV.bytes s1] = tailMarkerr R N s1 := by
  refine Eq.trans (b :=
      rounds [0, 7, 8, 9] [] (evC gl R N tailMarker_c0) (Kblock 0 (Kthen gl R N tailMarker_c1 (Kret tailMarker.rets []))) N ⟨[(0, .imm (AV.bytes s1)), (7, .imm (AV.row 1 [AV.str [], AV.str ([45, 45, 45] : List UInt8), AV.str ([46, 46, 46] : List UInt8)])), (8, .imm (AV.int .i64 (([AV.str [], AV.str ([45, 45, 45] : List UInt8), AV.str ([46, 46, 46] : List UInt8)].length : Nat) : Int))), (9, .imm (AV.int .i64 0))], []⟩) (by kernel_rfl) ?_
  simp (config := { maxSteps := 100000000 }) only [tailMarker_L1_eq]
  kernel_rfl
theorem tailMarker_fit : fitF Tryd.prog tailMarker Tryd.f22 = true := by
  kernel_rfl

def law11Wakes_c0 : AC := .seq (.region [.op (some 0) none (.mv (.k (AV.bool false)))]) (.seq (.region [.op (some 1) none (.bsliceOwn 1 [.k (AV.int .u8 45), .k (AV.int .u8 45), .k (AV.int .u8 45), .k (AV.int .u8 32), .k (AV.int .u8 35), .k (AV.int .u8 32), .k (AV.int .u8 120)] 1 .any true), .op (some 2) none (.cvSame (.t 1)), .op (some 3) none (.call id_tailMarker [.t 2] (.int .i64)), .op (some 4) none (.bin .eql (.t 3) (.k (AV.int .i64 1))), .op (some 0) none (.mv (.t 4))]) (.ret [0] []))
def law11Wakes : AFunc := ⟨0, 5, [.tmp 0], law11Wakes_c0⟩
def law11Wakesr (R : Nat → List AV → Option Res) (N : Nat) : Option Res :=
  (R id_tailMarker [AV.bytes ((([45, 45, 45, 32, 35, 32, 120] : List UInt8).drop 0).take 7)]).bind fun r1 =>
  asI .i64 r1.v fun i1 =>
  some ⟨AV.bool ((i1 : Int) == 1), false, []⟩
theorem law11Wakes_eq (R : Nat → List AV → Option Res) (N : Nat) : runF gl R N law11Wakes [] = law11Wakesr R N := by
  kernel_rfl
theorem law11Wakes_fit : fitF Tryd.prog law11Wakes Tryd.f23 = true := by
  kernel_rfl

def law11TailMarkers_L1s (R : Nat → List AV → Option Res) (N : Nat) (go : List UInt8 → Int → List UInt8 → List UInt8 → List UInt8 → Int → Int → Option Res) (k0 : List UInt8 → Int → List UInt8 → List UInt8 → Option Res) (s3 : List UInt8) (i3 : Int) (s4 : List UInt8) (s5 : List UInt8) (s6 : List UInt8) (i4 : Int) (i5 : Int) : Option Res :=
  bif decide ((i5 : Int) < i4) then
    (need (decide (0 ≤ (i5 : Int))) <|
    (s6[Int.toNat i5]?).bind fun c1 =>
    bif ((c1.toNat : Int) : Int) != 10 then
      (bif ((c1.toNat : Int) : Int) != 13 then
        (need (decide (0 ≤ ((c1.toNat : Int) : Int)) && decide (((c1.toNat : Int) : Int) < 256)) <|
        need (decide (s5.length + ([UInt8.ofNat (Int.toNat (c1.toNat : Int))] : List UInt8).length ≤ 9223372036854775807)) <|
        go s3 i3 s4 (s5 ++ [UInt8.ofNat (Int.toNat (c1.toNat : Int))]) s6 i4 (IntKind.i64.wrap (i5 + 1)))
      else
        go s3 i3 s4 s5 s6 i4 (IntKind.i64.wrap (i5 + 1)))
    else
      go s3 i3 s4 s5 s6 i4 (IntKind.i64.wrap (i5 + 1)))
  else
    k0 s3 i3 s4 s5
def law11TailMarkers_L1 (R : Nat → List AV → Option Res) (N : Nat) (k0 : List UInt8 → Int → List UInt8 → List UInt8 → Option Res) : Nat → List UInt8 → Int → List UInt8 → List UInt8 → List UInt8 → Int → Int → Option Res
  | 0, _, _, _, _, _, _, _ => none
  | n + 1, s3, i3, s4, s5, s6, i4, i5 => law11TailMarkers_L1s R N (law11TailMarkers_L1 R N k0 n) k0 s3 i3 s4 s5 s6 i4 i5
def law11TailMarkers_c0 : AC := .seq (.region [.op (some 23) none (.bin .lss (.t 22) (.t 21))]) (.seq (.cond (.t 23) (.skip) (.exit 0 [7, 8, 9, 10] [])) (.seq (.block 1 (.seq (.region [.op (some 24) none (.iaddr (.t 20) (.t 22) 1 (.int .u8)), .op (some 25) none (.load (.t 24) none (.int .u8)), .op (some 12) none (.mv (.t 25))]) (.seq (.region [.op (some 26) none (.mv (.t 12)), .op (some 27) none (.bin .neq (.t 26) (.k (AV.int .u8 10))), .op (some 28) none (.mv (.t 27)), .split 28, .op (some 29) (some (28, true)) (.mv (.t 12)), .op (some 30) (some (28, true)) (.bin .neq (.t 29) (.k (AV.int .u8 13))), .op (some 31) none (.pick (.t 28) (.t 30) (.k (AV.bool false)))]) (.cond (.t 31) (.region [.op (some 32) none (.mv (.t 10)), .op (some 33) none (.mv (.t 12)), .op (some 34) none (.bslice [.t 33] 1 true), .op (some 35) none (.cvStr (.t 34)), .op (some 36) none (.bin .add (.t 32) (.t 35)), .op (some 10) none (.mv (.t 36))]) (.skip))))) (.region [.op (some 37) none (.bin .add (.t 22) (.k (AV.int .i64 1))), .op (some 22) none (.mv (.t 37))])))
theorem law11TailMarkers_L1s_eq (R : Nat → List AV → Option Res) (N : Nat) (K : Ex → St → Option Res) (W : St → Option Res) (s3 : List UInt8) (i3 : Int) (s4 : List UInt8) (s5 : List UInt8) (s6 : List UInt8) (i4 : Int) (i5 : Int) :
    evC gl R N law11TailMarkers_c0 (Kseq (fun st' => W (prune [7, 8, 9, 10, 20, 21, 22] [] st')) K) ⟨[(7, .imm (AV.str s3)), (8, .imm (AV.int .i64 i3)), (9, .imm (AV.str s4)), (10, .imm (AV.str s5)), (20, .imm (AV.bytes s6)), (21, .imm (AV.int .i64 i4)), (22, .imm (AV.int .i64 i5))], []⟩ =
    law11TailMarkers_L1s R N (fun (s3 : List UInt8) (i3 : Int) (s4 : List UInt8) (s5 : List UInt8) (s6 : List UInt8) (i4 : Int) (i5 : Int) => W ⟨[(7, .imm (AV.str s3)), (8, .imm (AV.int .i64 i3)), (9, .imm (AV.str s4)), (10, .imm (AV.str s5)), (20, .imm (AV.bytes s6)), (21, .imm (AV.int .i64 i4)), (22, .imm (AV.int .i64 i5))], []⟩) (fun (s7 : List UInt8) (i6 : Int) (s8 : List UInt8) (s9 : List UInt8) => K (.exit 0) ⟨[(7, .imm (AV.str s7)), (8, .imm (AV.int .i64 i6)), (9, .imm (AV.str s8)), (10, .imm (AV.str s9))], []⟩) s3 i3 s4 s5 s6 i4 i5 := by
  kernel_rfl
theorem law11TailMarkers_L1_eq (R : Nat → List AV → Option Res) (N : Nat) (K : Ex → St → Option Res) : ∀ (n : Nat) (s3 : List UInt8) (i3 : Int) (s4 : List UInt8) (s5 : List UInt8) (s6 : List UInt8) (i4 : Int) (i5 : Int),
    rounds [7, 8, 9, 10, 20, 21, 22] [] (evC gl R N law11TailMarkers_c0) K n ⟨[(7, .imm (AV.str s3)), (8, .imm (AV.int .i64 i3)), (9, .imm (AV.str s4)), (10, .imm (AV.str s5)), (20, .imm (AV.bytes s6)), (21, .imm (AV.int .i64 i4)), (22, .imm (AV.int .i64 i5))], []⟩ = law11TailMarkers_L1 R N (fun (s7 : List UInt8) (i6 : Int) (s8 : List UInt8) (s9 : List UInt8) => K (.exit 0) ⟨[(7, .imm (AV.str s7)), (8, .imm (AV.int .i64 i6)), (9, .imm (AV.str s8)), (10, .imm (AV.str s9))], []⟩) n s3 i3 s4 s5 s6 i4 i5
  | 0, _, _, _, _, _, _, _ => rfl
  | n + 1, s3, i3, s4, s5, s6, i4, i5 => (law11TailMarkers_L1s_eq R N K (rounds [7, 8, 9, 10, 20, 21, 22] [] (evC gl R N law11TailMarkers_c0) K n) s3 i3 s4 s5 s6 i4 i5).trans
      (congrArg (fun go => law11TailMarkers_L1s R N go (fun (s7 : List UInt8) (i6 : Int) (s8 : List UInt8) (s9 : List UInt8) => K (.exit 0) ⟨[(7, .imm (AV.str s7)), (8, .imm (AV.int .i64 i6)), (9, .imm (AV.str s8)), (10, .imm (AV.str s9))], []⟩) s3 i3 s4 s5 s6 i4 i5) (funext fun s3 => funext fun i3 => funext fun s4 => funext fun s5 => funext fun s6 => funext fun i4 => funext fun i5 => law11TailMarkers_L1_eq R N K n s3 i3 s4 s5 s6 i4 i5))
def law11TailMarkers_c1 : AC := .seq (.region [.op (some 38) none (.mv (.t 7)), .op (some 39) none (.cvBytes (.t 38)), .op (some 40) none (.call id_tailMarker [.t 39] (.int .i64)), .op (some 41) none (.mv (.t 8)), .op (some 42) none (.bin .eql (.t 40) (.t 41)), .op (some 43) none (.mv (.t 42)), .split 43, .op (some 44) (some (43, true)) (.mv (.t 7)), .op (some 45) (some (43, true)) (.mv (.t 9)), .op (some 46) (some (43, true)) (.bin .add (.t 44) (.t 45)), .op (some 47) (some (43, true)) (.cvBytes (.t 46)), .op (some 48) (some (43, true)) (.call id_tailMarker [.t 47] (.int .i64)), .op (some 49) (some (43, true)) (.mv (.t 8)), .op (some 50) (some (43, true)) (.bin .eql (.t 48) (.t 49)), .op (some 51) none (.pick (.t 43) (.t 50) (.k (AV.bool false))), .op (some 52) none (.mv (.t 51)), .split 52, .op (some 53) (some (52, true)) (.mv (.t 7)), .op (some 54) (some (52, true)) (.bin .add (.t 53) (.k (AV.str ([32] : List UInt8)))), .op (some 55) (some (52, true)) (.mv (.t 9)), .op (some 56) (some (52, true)) (.bin .add (.t 54) (.t 55)), .op (some 57) (some (52, true)) (.mv (.t 10)), .op (some 58) (some (52, true)) (.bin .add (.t 56) (.t 57)), .op (some 59) (some (52, true)) (.cvBytes (.t 58)), .op (some 60) (some (52, true)) (.call id_tailMarker [.t 59] (.int .i64)), .op (some 61) (some (52, true)) (.mv (.t 8)), .op (some 62) (some (52, true)) (.bin .eql (.t 60) (.t 61)), .op (some 63) none (.pick (.t 52) (.t 62) (.k (AV.bool false))), .op (some 64) none (.mv (.t 63)), .split 64, .op (some 65) (some (64, true)) (.mv (.t 7)), .op (some 66) (some (64, true)) (.mv (.t 10)), .op (some 67) (some (64, true)) (.bin .add (.t 65) (.t 66)), .op (some 68) (some (64, true)) (.cvBytes (.t 67)), .op (some 69) (some (64, true)) (.call id_tailMarker [.t 68] (.int .i64)), .op (some 70) (some (64, true)) (.bin .eql (.t 69) (.k (AV.int .i64 0))), .op (some 71) none (.pick (.t 64) (.t 70) (.k (AV.bool false))), .op (some 72) none (.mv (.t 71)), .split 72, .op (some 73) (some (72, true)) (.mv (.t 7)), .op (some 74) (some (72, true)) (.bin .add (.t 73) (.k (AV.str ([32] : List UInt8)))), .op (some 75) (some (72, true)) (.mv (.t 9)), .op (some 76) (some (72, true)) (.bin .add (.t 74) (.t 75)), .op (some 77) (some (72, true)) (.bin .add (.t 76) (.k (AV.str ([120] : List UInt8)))), .op (some 78) (some (72, true)) (.cvBytes (.t 77)), .op (some 79) (some (72, true)) (.call id_tailMarker [.t 78] (.int .i64)), .op (some 80) (some (72, true)) (.bin .eql (.t 79) (.k (AV.int .i64 3))), .op (some 81) none (.pick (.t 72) (.t 80) (.k (AV.bool false))), .op (some 82) none (.mv (.t 81)), .split 82, .op (some 83) (some (82, true)) (.mv (.t 7)), .op (some 84) (some (82, true)) (.bin .add (.t 83) (.k (AV.str ([9] : List UInt8)))), .op (some 85) (some (82, true)) (.cvBytes (.t 84)), .op (some 86) (some (82, true)) (.call id_tailMarker [.t 85] (.int .i64)), .op (some 87) (some (82, true)) (.bin .eql (.t 86) (.k (AV.int .i64 3))), .op (some 88) none (.pick (.t 82) (.t 87) (.k (AV.bool false))), .op (some 89) none (.mv (.t 88)), .split 89, .op (some 90) (some (89, true)) (.mv (.t 7)), .op (some 91) (some (89, true)) (.sliceS (.t 90) none (some (.k (AV.int .i64 2)))), .op (some 92) (some (89, true)) (.cvBytes (.t 91)), .op (some 93) (some (89, true)) (.call id_tailMarker [.t 92] (.int .i64)), .op (some 94) (some (89, true)) (.bin .eql (.t 93) (.k (AV.int .i64 0))), .op (some 95) none (.pick (.t 89) (.t 94) (.k (AV.bool false))), .op (some 96) none (.mv (.t 95)), .split 96, .op (some 97) (some (96, true)) (.mv (.t 7)), .op (some 98) (some (96, true)) (.sliceS (.t 97) none (some (.k (AV.int .i64 2)))), .op (some 99) (some (96, true)) (.bin .add (.k (AV.str ([45] : List UInt8))) (.t 98)), .op (some 100) (some (96, true)) (.bin .add (.t 99) (.k (AV.str ([120] : List UInt8)))), .op (some 101) (some (96, true)) (.cvBytes (.t 100)), .op (some 102) (some (96, true)) (.call id_tailMarker [.t 101] (.int .i64)), .op (some 103) (some (96, true)) (.bin .eql (.t 102) (.k (AV.int .i64 0))), .op (some 104) none (.pick (.t 96) (.t 103) (.k (AV.bool false))), .op (some 105) none (.mv (.t 104)), .split 105, .op (some 106) (some (105, true)) (.call id_law11Wakes [] (.bool)), .op (some 107) none (.pick (.t 105) (.t 106) (.k (AV.bool false))), .op (some 6) none (.mv (.t 107))]) (.ret [6] [])
def law11TailMarkers_c2 : AC := .seq (.region [.op (some 6) none (.mv (.k (AV.bool false)))]) (.seq (.region [.op (some 7) none (.mv (.k (AV.str ([45, 45, 45] : List UInt8)))), .op (some 8) none (.mv (.k (AV.int .i64 1)))]) (.seq (.seq (.region [.op (some 13) none (.mv (.t 2))]) (.cond (.t 13) (.region [.op (some 7) none (.mv (.k (AV.str ([46, 46, 46] : List UInt8)))), .op (some 8) none (.mv (.k (AV.int .i64 2)))]) (.skip))) (.seq (.region [.op (some 14) none (.mv (.t 0)), .op (some 15) none (.call id_keepWithin [.t 14, .k (AV.int .i64 6)] (.int .i64)), .op (some 16) none (.sliceS (.k (AV.str ([32, 32, 32, 32, 32, 32] : List UInt8))) none (some (.t 15))), .op (some 9) none (.mv (.t 16))]) (.seq (.region [.op (some 17) none (.mv (.t 1)), .op (some 18) none (.call id_keepText [.t 17, .k (AV.int .i64 12)] (.str)), .op (some 1) none (.mv (.t 18))]) (.seq (.region [.op (some 10) none (.mv (.k (AV.str ([35, 32] : List UInt8))))]) (.seq (.seq (.region [.op (some 19) none (.mv (.t 1)), .op (some 20) none (.cvBytes (.t 19)), .op (some 21) none (.len (.t 20) false), .op (some 22) none (.mv (.k (AV.int .i64 0)))]) (.block 0 (.loop [7, 8, 9, 10, 20, 21, 22] [] (law11TailMarkers_c0)))) (law11TailMarkers_c1)))))))
def law11TailMarkers : AFunc := ⟨3, 108, [.tmp 6], law11TailMarkers_c2⟩
def law11TailMarkersr (R : Nat → List AV → Option Res) (N : Nat) (i1 : Int) (s1 : List UInt8) (b1 : Bool) : Option Res :=
  bif b1 then
    ((R id_keepWithin [AV.int .i64 i1, AV.int .i64 6]).bind fun r1 =>
    asI .i64 r1.v fun i2 =>
    need (decide (0 ≤ (i2 : Int)) && decide ((i2 : Int) ≤ (((([32, 32, 32, 32, 32, 32] : List UInt8) : List UInt8).length : Nat) : Int))) <|
    (R id_keepText [AV.str s1, AV.int .i64 12]).bind fun r2 =>
    asS r2.v fun s2 =>
    law11TailMarkers_L1 R N
      (fun s13 i8 s14 s15 =>
        (R id_tailMarker [AV.bytes s13]).bind fun r3 =>
        asI .i64 r3.v fun i9 =>
        bif (i9 : Int) == i8 then
          (need (decide (s13.length + s14.length ≤ 9223372036854775807)) <|
          (R id_tailMarker [AV.bytes (s13 ++ s14)]).bind fun r4 =>
          asI .i64 r4.v fun i10 =>
          bif (i10 : Int) == i8 then
            (need (decide (s13.length + (([32] : List UInt8) : List UInt8).length ≤ 9223372036854775807)) <|
            need (decide ((s13 ++ ([32] : List UInt8)).length + s14.length ≤ 9223372036854775807)) <|
            need (decide (((s13 ++ ([32] : List UInt8)) ++ s14).length + s15.length ≤ 9223372036854775807)) <|
            (R id_tailMarker [AV.bytes (((s13 ++ ([32] : List UInt8)) ++ s14) ++ s15)]).bind fun r5 =>
            asI .i64 r5.v fun i11 =>
            bif (i11 : Int) == i8 then
              (need (decide (s13.length + s15.length ≤ 9223372036854775807)) <|
              (R id_tailMarker [AV.bytes (s13 ++ s15)]).bind fun r6 =>
              asI .i64 r6.v fun i12 =>
              bif (i12 : Int) == 0 then
                (need (decide (s13.length + (([32] : List UInt8) : List UInt8).length ≤ 9223372036854775807)) <|
                need (decide ((s13 ++ ([32] : List UInt8)).length + s14.length ≤ 9223372036854775807)) <|
                need (decide (((s13 ++ ([32] : List UInt8)) ++ s14).length + (([120] : List UInt8) : List UInt8).length ≤ 9223372036854775807)) <|
                (R id_tailMarker [AV.bytes (((s13 ++ ([32] : List UInt8)) ++ s14) ++ ([120] : List UInt8))]).bind fun r7 =>
                asI .i64 r7.v fun i13 =>
                bif (i13 : Int) == 3 then
                  (need (decide (s13.length + (([9] : List UInt8) : List UInt8).length ≤ 9223372036854775807)) <|
                  (R id_tailMarker [AV.bytes (s13 ++ ([9] : List UInt8))]).bind fun r8 =>
                  asI .i64 r8.v fun i14 =>
                  bif (i14 : Int) == 3 then
                    (need (decide (0 ≤ (2 : Int)) && decide ((2 : Int) ≤ ((s13.length : Nat) : Int))) <|
                    (R id_tailMarker [AV.bytes ((s13.take (Int.toNat 2)).drop 0)]).bind fun r9 =>
                    asI .i64 r9.v fun i15 =>
                    bif (i15 : Int) == 0 then
                      (need (decide (0 ≤ (2 : Int)) && decide ((2 : Int) ≤ ((s13.length : Nat) : Int))) <|
                      need (decide ((([45] : List UInt8) : List UInt8).length + ((s13.take (Int.toNat 2)).drop 0).length ≤ 9223372036854775807)) <|
                      need (decide ((([45] : List UInt8) ++ ((s13.take (Int.toNat 2)).drop 0) : List UInt8).length + (([120] : List UInt8) : List UInt8).length ≤ 9223372036854775807)) <|
                      (R id_tailMarker [AV.bytes ((([45] : List UInt8) ++ ((s13.take (Int.toNat 2)).drop 0)) ++ ([120] : List UInt8))]).bind fun r10 =>
                      asI .i64 r10.v fun i16 =>
                      bif (i16 : Int) == 0 then
                        ((R id_law11Wakes []).bind fun r11 =>
                        asB r11.v fun b2 =>
                        some ⟨AV.bool b2, false, []⟩)
                      else
                        some ⟨AV.bool false, false, []⟩)
                    else
                      some ⟨AV.bool false, false, []⟩)
                  else
                    some ⟨AV.bool false, false, []⟩)
                else
                  some ⟨AV.bool false, false, []⟩)
              else
                some ⟨AV.bool false, false, []⟩)
            else
              some ⟨AV.bool false, false, []⟩)
          else
            some ⟨AV.bool false, false, []⟩)
        else
          some ⟨AV.bool false, false, []⟩)
      N ([46, 46, 46] : List UInt8) 2 ((([32, 32, 32, 32, 32, 32] : List UInt8).take (Int.toNat i2)).drop 0) ([35, 32] : List UInt8) s2 ((s2.length : Nat) : Int) 0)
  else
    (R id_keepWithin [AV.int .i64 i1, AV.int .i64 6]).bind fun r12 =>
    asI .i64 r12.v fun i17 =>
    need (decide (0 ≤ (i17 : Int)) && decide ((i17 : Int) ≤ (((([32, 32, 32, 32, 32, 32] : List UInt8) : List UInt8).length : Nat) : Int))) <|
    (R id_keepText [AV.str s1, AV.int .i64 12]).bind fun r13 =>
    asS r13.v fun s16 =>
    law11TailMarkers_L1 R N
      (fun s17 i18 s18 s19 =>
        (R id_tailMarker [AV.bytes s17]).bind fun r14 =>
        asI .i64 r14.v fun i19 =>
        bif (i19 : Int) == i18 then
          (need (decide (s17.length + s18.length ≤ 9223372036854775807)) <|
          (R id_tailMarker [AV.bytes (s17 ++ s18)]).bind fun r15 =>
          asI .i64 r15.v fun i20 =>
          bif (i20 : Int) == i18 then
            (need (decide (s17.length + (([32] : List UInt8) : List UInt8).length ≤ 9223372036854775807)) <|
            need (decide ((s17 ++ ([32] : List UInt8)).length + s18.length ≤ 9223372036854775807)) <|
            need (decide (((s17 ++ ([32] : List UInt8)) ++ s18).length + s19.length ≤ 9223372036854775807)) <|
            (R id_tailMarker [AV.bytes (((s17 ++ ([32] : List UInt8)) ++ s18) ++ s19)]).bind fun r16 =>
            asI .i64 r16.v fun i21 =>
            bif (i21 : Int) == i18 then
              (need (decide (s17.length + s19.length ≤ 9223372036854775807)) <|
              (R id_tailMarker [AV.bytes (s17 ++ s19)]).bind fun r17 =>
              asI .i64 r17.v fun i22 =>
              bif (i22 : Int) == 0 then
                (need (decide (s17.length + (([32] : List UInt8) : List UInt8).length ≤ 9223372036854775807)) <|
                need (decide ((s17 ++ ([32] : List UInt8)).length + s18.length ≤ 9223372036854775807)) <|
                need (decide (((s17 ++ ([32] : List UInt8)) ++ s18).length + (([120] : List UInt8) : List UInt8).length ≤ 9223372036854775807)) <|
                (R id_tailMarker [AV.bytes (((s17 ++ ([32] : List UInt8)) ++ s18) ++ ([120] : List UInt8))]).bind fun r18 =>
                asI .i64 r18.v fun i23 =>
                bif (i23 : Int) == 3 then
                  (need (decide (s17.length + (([9] : List UInt8) : List UInt8).length ≤ 9223372036854775807)) <|
                  (R id_tailMarker [AV.bytes (s17 ++ ([9] : List UInt8))]).bind fun r19 =>
                  asI .i64 r19.v fun i24 =>
                  bif (i24 : Int) == 3 then
                    (need (decide (0 ≤ (2 : Int)) && decide ((2 : Int) ≤ ((s17.length : Nat) : Int))) <|
                    (R id_tailMarker [AV.bytes ((s17.take (Int.toNat 2)).drop 0)]).bind fun r20 =>
                    asI .i64 r20.v fun i25 =>
                    bif (i25 : Int) == 0 then
                      (need (decide (0 ≤ (2 : Int)) && decide ((2 : Int) ≤ ((s17.length : Nat) : Int))) <|
                      need (decide ((([45] : List UInt8) : List UInt8).length + ((s17.take (Int.toNat 2)).drop 0).length ≤ 9223372036854775807)) <|
                      need (decide ((([45] : List UInt8) ++ ((s17.take (Int.toNat 2)).drop 0) : List UInt8).length + (([120] : List UInt8) : List UInt8).length ≤ 9223372036854775807)) <|
                      (R id_tailMarker [AV.bytes ((([45] : List UInt8) ++ ((s17.take (Int.toNat 2)).drop 0)) ++ ([120] : List UInt8))]).bind fun r21 =>
                      asI .i64 r21.v fun i26 =>
                      bif (i26 : Int) == 0 then
                        ((R id_law11Wakes []).bind fun r22 =>
                        asB r22.v fun b3 =>
                        some ⟨AV.bool b3, false, []⟩)
                      else
                        some ⟨AV.bool false, false, []⟩)
                    else
                      some ⟨AV.bool false, false, []⟩)
                  else
                    some ⟨AV.bool false, false, []⟩)
                else
                  some ⟨AV.bool false, false, []⟩)
              else
                some ⟨AV.bool false, false, []⟩)
            else
              some ⟨AV.bool false, false, []⟩)
          else
            some ⟨AV.bool false, false, []⟩)
        else
          some ⟨AV.bool false, false, []⟩)
      N ([45, 45, 45] : List UInt8) 1 ((([32, 32, 32, 32, 32, 32] : List UInt8).take (Int.toNat i17)).drop 0) ([35, 32] : List UInt8) s16 ((s16.length : Nat) : Int) 0
theorem law11TailMarkers_eq (R : Nat → List AV → Option Res) (N : Nat) (i1 : Int) (s1 : List UInt8) (b1 : Bool) : runF gl R N law11TailMarkers [AV.int .i64 i1, AV.str s1, AV.bool b1] = law11TailMarkersr R N i1 s1 b1 := by
  refine Eq.trans (b :=
      bif b1 then
        ((R id_keepWithin [AV.int .i64 i1, AV.int .i64 6]).bind fun r1 =>
        asI .i64 r1.v fun i2 =>
        need (decide (0 ≤ (i2 : Int)) && decide ((i2 : Int) ≤ (((([32, 32, 32, 32, 32, 32] : List UInt8) : List UInt8).length : Nat) : Int))) <|
        (R id_keepText [AV.str s1, AV.int .i64 12]).bind fun r2 =>
        asS r2.v fun s2 =>
        rounds [7, 8, 9, 10, 20, 21, 22] [] (evC gl R N law11TailMarkers_c0) (Kblock 0 (Kthen gl R N law11TailMarkers_c1 (Kret law11TailMarkers.rets []))) N ⟨[(7, .imm (AV.str ([46, 46, 46] : List UInt8))), (8, .imm (AV.int .i64 2)), (9, .imm (AV.str ((([32, 32, 32, 32, 32, 32] : List UInt8).take (Int.toNat i2)).drop 0))), (10, .imm (AV.str ([35, 32] : List UInt8))), (20, .imm (AV.bytes s2)), (21, .imm (AV.int .i64 ((s2.length : Nat) : Int))), (22, .imm (AV.int .i64 0))], []⟩)
      else
        (R id_keepWithin [AV.int .i64 i1, AV.int .i64 6]).bind fun r12 =>
        asI .i64 r12.v fun i17 =>
        need (decide (0 ≤ (i17 : Int)) && decide ((i17 : Int) ≤ (((([32, 32, 32, 32, 32, 32] : List UInt8) : List UInt8).length : Nat) : Int))) <|
        (R id_keepText [AV.str s1, AV.int .i64 12]).bind fun r13 =>
        asS r13.v fun s16 =>
        rounds [7, 8, 9, 10, 20, 21, 22] [] (evC gl R N law11TailMarkers_c0) (Kblock 0 (Kthen gl R N law11TailMarkers_c1 (Kret law11TailMarkers.rets []))) N ⟨[(7, .imm (AV.str ([45, 45, 45] : List UInt8))), (8, .imm (AV.int .i64 1)), (9, .imm (AV.str ((([32, 32, 32, 32, 32, 32] : List UInt8).take (Int.toNat i17)).drop 0))), (10, .imm (AV.str ([35, 32] : List UInt8))), (20, .imm (AV.bytes s16)), (21, .imm (AV.int .i64 ((s16.length : Nat) : Int))), (22, .imm (AV.int .i64 0))], []⟩) (by kernel_rfl) ?_
  simp (config := { maxSteps := 100000000 }) only [law11TailMarkers_L1_eq]
  kernel_rfl
theorem law11TailMarkers_fit : fitF Tryd.prog law11TailMarkers Tryd.f7 = true := by
  kernel_rfl

def keepSameByte_L1s (R : Nat → List AV → Option Res) (N : Nat) (go : List UInt8 → List UInt8 → Int → Option Res) (k0 : Bool → Option Res) (k1 : Option Res) (s3 : List UInt8) (s4 : List UInt8) (i1 : Int) : Option Res :=
  bif decide ((i1 : Int) < ((s3.length : Nat) : Int)) then
    (need (decide (0 ≤ (i1 : Int))) <|
    (s3[Int.toNat i1]?).bind fun c1 =>
    need (decide (0 ≤ (i1 : Int))) <|
    (s4[Int.toNat i1]?).bind fun c2 =>
    bif ((c1.toNat : Int) : Int) != (c2.toNat : Int) then
      (k0 false)
    else
      go s3 s4 (IntKind.i64.wrap (i1 + 1)))
  else
    k1
def keepSameByte_L1 (R : Nat → List AV → Option Res) (N : Nat) (k0 : Bool → Option Res) (k1 : Option Res) : Nat → List UInt8 → List UInt8 → Int → Option Res
  | 0, _, _, _ => none
  | n + 1, s3, s4, i1 => keepSameByte_L1s R N (keepSameByte_L1 R N k0 k1 n) k0 k1 s3 s4 i1
def keepSameByte_c0 : AC := .seq (.seq (.region [.op (some 11) none (.mv (.t 5)), .op (some 12) none (.mv (.t 0)), .op (some 13) none (.len (.t 12) false), .op (some 14) none (.bin .lss (.t 11) (.t 13))]) (.cond (.t 14) (.skip) (.exit 0 [] []))) (.seq (.block 1 (.seq (.regionD [0, 1, 5, 25] [] [.op (some 17) none (.mv (.t 0)), .op (some 18) none (.mv (.t 5)), .op (some 19) none (.iaddr (.t 17) (.t 18) 1 (.int .u8)), .op (some 20) none (.load (.t 19) none (.int .u8)), .op (some 21) none (.mv (.t 1)), .op (some 22) none (.mv (.t 5)), .op (some 23) none (.iaddr (.t 21) (.t 22) 1 (.int .u8)), .op (some 24) none (.load (.t 23) none (.int .u8)), .op (some 25) none (.bin .neq (.t 20) (.t 24))] []) (.cond (.t 25) (.seq (.region [.op (some 4) none (.mv (.k (AV.bool false)))]) (.ret [4] [])) (.skip)))) (.region [.op (some 15) none (.mv (.t 5)), .op (some 16) none (.bin .add (.t 15) (.k (AV.int .i64 1))), .op (some 5) none (.mv (.t 16))]))
theorem keepSameByte_L1s_eq (R : Nat → List AV → Option Res) (N : Nat) (K : Ex → St → Option Res) (W : St → Option Res) (s3 : List UInt8) (s4 : List UInt8) (i1 : Int) :
    evC gl R N keepSameByte_c0 (Kseq (fun st' => W (prune [0, 1, 5] [] st')) K) ⟨[(0, .imm (AV.bytes s3)), (1, .imm (AV.bytes s4)), (5, .imm (AV.int .i64 i1))], []⟩ =
    keepSameByte_L1s R N (fun (s3 : List UInt8) (s4 : List UInt8) (i1 : Int) => W ⟨[(0, .imm (AV.bytes s3)), (1, .imm (AV.bytes s4)), (5, .imm (AV.int .i64 i1))], []⟩) (fun (b1 : Bool) => K .ret ⟨[(4, .imm (AV.bool b1))], []⟩) (K (.exit 0) ⟨[], []⟩) s3 s4 i1 := by
  kernel_rfl
theorem keepSameByte_L1_eq (R : Nat → List AV → Option Res) (N : Nat) (K : Ex → St → Option Res) : ∀ (n : Nat) (s3 : List UInt8) (s4 : List UInt8) (i1 : Int),
    rounds [0, 1, 5] [] (evC gl R N keepSameByte_c0) K n ⟨[(0, .imm (AV.bytes s3)), (1, .imm (AV.bytes s4)), (5, .imm (AV.int .i64 i1))], []⟩ = keepSameByte_L1 R N (fun (b1 : Bool) => K .ret ⟨[(4, .imm (AV.bool b1))], []⟩) (K (.exit 0) ⟨[], []⟩) n s3 s4 i1
  | 0, _, _, _ => rfl
  | n + 1, s3, s4, i1 => (keepSameByte_L1s_eq R N K (rounds [0, 1, 5] [] (evC gl R N keepSameByte_c0) K n) s3 s4 i1).trans
      (congrArg (fun go => keepSameByte_L1s R N go (fun (b1 : Bool) => K .ret ⟨[(4, .imm (AV.bool b1))], []⟩) (K (.exit 0) ⟨[], []⟩) s3 s4 i1) (funext fun s3 => funext fun s4 => funext fun i1 => keepSameByte_L1_eq R N K n s3 s4 i1))
def keepSameByte_c1 : AC := .seq (.region [.op (some 4) none (.mv (.k (AV.bool true)))]) (.ret [4] [])
def keepSameByte_c2 : AC := .seq (.region [.op (some 4) none (.mv (.k (AV.bool false)))]) (.seq (.seq (.region [.op (some 6) none (.mv (.t 0)), .op (some 7) none (.len (.t 6) false), .op (some 8) none (.mv (.t 1)), .op (some 9) none (.len (.t 8) false), .op (some 10) none (.bin .neq (.t 7) (.t 9))]) (.cond (.t 10) (.seq (.region [.op (some 4) none (.mv (.k (AV.bool false)))]) (.ret [4] [])) (.skip))) (.seq (.seq (.region [.op (some 5) none (.mv (.k (AV.int .i64 0)))]) (.block 0 (.loop [0, 1, 5] [] (keepSameByte_c0)))) (keepSameByte_c1)))
def keepSameByte : AFunc := ⟨2, 26, [.tmp 4], keepSameByte_c2⟩
def keepSameByter (R : Nat → List AV → Option Res) (N : Nat) (s1 : List UInt8) (s2 : List UInt8) : Option Res :=
  bif (((s1.length : Nat) : Int) : Int) != ((s2.length : Nat) : Int) then
    (some ⟨AV.bool false, false, []⟩)
  else
    keepSameByte_L1 R N
      (fun b3 =>
        some ⟨AV.bool b3, false, []⟩)
      (
        some ⟨AV.bool true, false, []⟩)
      N s1 s2 0
theorem keepSameByte_eq (R : Nat → List AV → Option Res) (N : Nat) (s1 : List UInt8) (s2 : List UInt8) : runF gl R N keepSameByte [AV.bytes s1, AV.bytes s2] = keepSameByter R N s1 s2 := by
  refine Eq.trans (b :=
      bif (((s1.length : Nat) : Int) : Int) != ((s2.length : Nat) : Int) then
        (some ⟨AV.bool false, false, []⟩)
      else
        rounds [0, 1, 5] [] (evC gl R N keepSameByte_c0) (Kblock 0 (Kthen gl R N keepSameByte_c1 (Kret keepSameByte.rets []))) N ⟨[(0, .imm (AV.bytes s1)), (1, .imm (AV.bytes s2)), (5, .imm (AV.int .i64 0))], []⟩) (by kernel_rfl) ?_
  simp (config := { maxSteps := 100000000 }) only [keepSameByte_L1_eq]
  kernel_rfl
theorem keepSameByte_fit : fitF Tryd.prog keepSameByte Tryd.f25 = true := by
  kernel_rfl

def law11TailRests_L1s (R : Nat → List AV → Option Res) (N : Nat) (go : Int → List UInt8 → Option Res) (k0 : Int → List UInt8 → Option Res) (i3 : Int) (s3 : List UInt8) : Option Res :=
  bif decide ((((s3.length : Nat) : Int) : Int) > 0) then
    (need (decide (0 ≤ (0 : Int))) <|
    (s3[Int.toNat 0]?).bind fun c1 =>
    bif ((c1.toNat : Int) : Int) == 32 then
      (need (decide (0 ≤ (1 : Int)) && decide ((1 : Int) ≤ ((s3.length : Nat) : Int))) <|
      go i3 ((s3.take s3.length).drop (Int.toNat 1)))
    else
      k0 i3 s3)
  else
    k0 i3 s3
def law11TailRests_L1 (R : Nat → List AV → Option Res) (N : Nat) (k0 : Int → List UInt8 → Option Res) : Nat → Int → List UInt8 → Option Res
  | 0, _, _ => none
  | n + 1, i3, s3 => law11TailRests_L1s R N (law11TailRests_L1 R N k0 n) k0 i3 s3
def law11TailRests_c0 : AC := .seq (.seq (.region [.op (some 13) none (.mv (.t 1)), .op (some 14) none (.len (.t 13) true), .op (some 15) none (.bin .gtr (.t 14) (.k (AV.int .i64 0))), .op (some 16) none (.mv (.t 15)), .split 16, .op (some 17) (some (16, true)) (.mv (.t 1)), .op (some 18) (some (16, true)) (.index (.t 17) (.k (AV.int .i64 0))), .op (some 19) (some (16, true)) (.bin .eql (.t 18) (.k (AV.int .u8 32))), .op (some 20) none (.pick (.t 16) (.t 19) (.k (AV.bool false)))]) (.cond (.t 20) (.skip) (.exit 0 [0, 1] []))) (.block 1 (.region [.op (some 21) none (.mv (.t 1)), .op (some 22) none (.sliceS (.t 21) (some (.k (AV.int .i64 1))) none), .op (some 1) none (.mv (.t 22))]))
theorem law11TailRests_L1s_eq (R : Nat → List AV → Option Res) (N : Nat) (K : Ex → St → Option Res) (W : St → Option Res) (i3 : Int) (s3 : List UInt8) :
    evC gl R N law11TailRests_c0 (Kseq (fun st' => W (prune [0, 1] [] st')) K) ⟨[(0, .imm (AV.int .i64 i3)), (1, .imm (AV.str s3))], []⟩ =
    law11TailRests_L1s R N (fun (i3 : Int) (s3 : List UInt8) => W ⟨[(0, .imm (AV.int .i64 i3)), (1, .imm (AV.str s3))], []⟩) (fun (i4 : Int) (s4 : List UInt8) => K (.exit 0) ⟨[(0, .imm (AV.int .i64 i4)), (1, .imm (AV.str s4))], []⟩) i3 s3 := by
  kernel_rfl
theorem law11TailRests_L1_eq (R : Nat → List AV → Option Res) (N : Nat) (K : Ex → St → Option Res) : ∀ (n : Nat) (i3 : Int) (s3 : List UInt8),
    rounds [0, 1] [] (evC gl R N law11TailRests_c0) K n ⟨[(0, .imm (AV.int .i64 i3)), (1, .imm (AV.str s3))], []⟩ = law11TailRests_L1 R N (fun (i4 : Int) (s4 : List UInt8) => K (.exit 0) ⟨[(0, .imm (AV.int .i64 i4)), (1, .imm (AV.str s4))], []⟩) n i3 s3
  | 0, _, _ => rfl
  | n + 1, i3, s3 => (law11TailRests_L1s_eq R N K (rounds [0, 1] [] (evC gl R N law11TailRests_c0) K n) i3 s3).trans
      (congrArg (fun go => law11TailRests_L1s R N go (fun (i4 : Int) (s4 : List UInt8) => K (.exit 0) ⟨[(0, .imm (AV.int .i64 i4)), (1, .imm (AV.str s4))], []⟩) i3 s3) (funext fun i3 => funext fun s3 => law11TailRests_L1_eq R N K n i3 s3))
def law11TailRests_c1 : AC := .seq (.region [.op (some 23) none (.mv (.t 0)), .op (some 24) none (.sliceS (.k (AV.str ([32, 32, 32, 32, 32, 32, 32, 32] : List UInt8))) none (some (.t 23))), .op (some 25) none (.mv (.t 1)), .op (some 26) none (.bin .add (.t 24) (.t 25)), .op (some 27) none (.cvBytes (.t 26)), .op (some 5) none (.mv (.t 27))]) (.seq (.region [.op (some 28) none (.mv (.t 5)), .op (some 29) none (.call id_keepLend [.t 28] (.lent)), .op (some 6) none (.mv (.t 29))]) (.seq (.region [.op (some 30) none (.weak (.t 6)), .op (some 31) none (.callOwn 31 id_tailRest [.t 30] 1 .any true), .op (some 7) none (.mv (.t 31))]) (.seq (.region [.op (some 32) none (.mv (.t 7)), .op (some 33) none (.cvStr (.t 32)), .op (some 34) none (.mv (.t 1)), .op (some 35) none (.bin .eql (.t 33) (.t 34)), .op (some 36) none (.mv (.t 35)), .split 36, .op (some 37) (some (36, true)) (.mv (.t 7)), .op (some 38) (some (36, true)) (.callOwn 38 id_tailRest [.t 37] 1 .any true), .op (some 39) (some (36, true)) (.mv (.t 7)), .op (some 40) (some (36, true)) (.call id_keepSameByte [.t 38, .t 39] (.bool)), .op (some 41) none (.pick (.t 36) (.t 40) (.k (AV.bool false))), .op (some 8) none (.mv (.t 41))]) (.seq (.region [.op (some 42) none (.mv (.t 7)), .op (some 43) none (.callM none id_keepSpoil [.t 42] [true] [none] (.tup []))]) (.seq (.region [.op (some 44) none (.mv (.t 8)), .op (some 45) none (.mv (.t 44)), .split 45, .op (some 46) (some (45, true)) (.mv (.t 6)), .op (some 47) (some (45, true)) (.mv (.t 5)), .op (some 48) (some (45, true)) (.call id_keepIntact [.t 46, .t 47] (.bool)), .op (some 49) none (.pick (.t 45) (.t 48) (.k (AV.bool false))), .op (some 50) none (.mv (.t 49)), .split 50, .op (some 51) (some (50, true)) (.callOwn 51 id_tailRest [.k (AV.bytes [])] 1 .any true), .op (some 52) (some (50, true)) (.len (.t 51) false), .op (some 53) (some (50, true)) (.bin .eql (.t 52) (.k (AV.int .i64 0))), .op (some 54) none (.pick (.t 50) (.t 53) (.k (AV.bool false))), .op (some 55) none (.mv (.t 54)), .split 55, .op (some 56) (some (55, true)) (.call id_law11Wakes [] (.bool)), .op (some 57) none (.pick (.t 55) (.t 56) (.k (AV.bool false))), .op (some 4) none (.mv (.t 57))]) (.ret [4] []))))))
def law11TailRests_c2 : AC := .seq (.region [.op (some 4) none (.mv (.k (AV.bool false)))]) (.seq (.region [.op (some 9) none (.mv (.t 0)), .op (some 10) none (.call id_keepWithin [.t 9, .k (AV.int .i64 8)] (.int .i64)), .op (some 11) none (.mv (.t 1)), .op (some 12) none (.call id_keepText [.t 11, .k (AV.int .i64 30)] (.str)), .op (some 0) none (.mv (.t 10)), .op (some 1) none (.mv (.t 12))]) (.seq (.block 0 (.loop [0, 1] [] (law11TailRests_c0))) (law11TailRests_c1)))
def law11TailRests : AFunc := ⟨2, 58, [.tmp 4], law11TailRests_c2⟩
def law11TailRestsr (R : Nat → List AV → Option Res) (N : Nat) (i1 : Int) (s1 : List UInt8) : Option Res :=
  (R id_keepWithin [AV.int .i64 i1, AV.int .i64 8]).bind fun r1 =>
  asI .i64 r1.v fun i2 =>
  (R id_keepText [AV.str s1, AV.int .i64 30]).bind fun r2 =>
  asS r2.v fun s2 =>
  law11TailRests_L1 R N
    (fun i6 s6 =>
      need (decide (0 ≤ (i6 : Int)) && decide ((i6 : Int) ≤ (((([32, 32, 32, 32, 32, 32, 32, 32] : List UInt8) : List UInt8).length : Nat) : Int))) <|
      need (decide (((([32, 32, 32, 32, 32, 32, 32, 32] : List UInt8).take (Int.toNat i6)).drop 0 : List UInt8).length + s6.length ≤ 9223372036854775807)) <|
      (R id_keepLend [AV.bytes (((([32, 32, 32, 32, 32, 32, 32, 32] : List UInt8).take (Int.toNat i6)).drop 0) ++ s6)]).bind fun r3 =>
      asL r3.v fun s7 =>
      (R id_tailRest [AV.bytes s7]).bind fun r4 =>
      need r4.own <|
      asY r4.v fun s8 =>
      bif ((s8.drop 0).take s8.length) == s6 then
        ((R id_tailRest [AV.bytes ((s8.drop 0).take s8.length)]).bind fun r5 =>
        need r5.own <|
        asY r5.v fun s9 =>
        (R id_keepSameByte [AV.bytes ((s9.drop 0).take s9.length), AV.bytes ((s8.drop 0).take s8.length)]).bind fun r6 =>
        asB r6.v fun b1 =>
        need (Nat.beq s8.length s8.length) <|
        (R id_keepSpoil [AV.ref (AV.bytes s8)]).bind fun r7 =>
        asC r7.outs fun o1 q1 =>
        asN q1 <|
        as0T r7.v <|
        bif b1 then
          ((R id_keepIntact [AV.lent s7, AV.bytes (((([32, 32, 32, 32, 32, 32, 32, 32] : List UInt8).take (Int.toNat i6)).drop 0) ++ s6)]).bind fun r8 =>
          asB r8.v fun b2 =>
          bif b2 then
            ((R id_tailRest [AV.bytes []]).bind fun r9 =>
            need r9.own <|
            asY r9.v fun s10 =>
            bif (((s10.length : Nat) : Int) : Int) == 0 then
              ((R id_law11Wakes []).bind fun r10 =>
              asB r10.v fun b3 =>
              some ⟨AV.bool b3, false, []⟩)
            else
              some ⟨AV.bool false, false, []⟩)
          else
            some ⟨AV.bool false, false, []⟩)
        else
          some ⟨AV.bool false, false, []⟩)
      else
        need (Nat.beq s8.length s8.length) <|
        (R id_keepSpoil [AV.ref (AV.bytes s8)]).bind fun r11 =>
        asC r11.outs fun o2 q2 =>
        asN q2 <|
        as0T r11.v <|
        some ⟨AV.bool false, false, []⟩)
    N i2 s2
theorem law11TailRests_eq (R : Nat → List AV → Option Res) (N : Nat) (i1 : Int) (s1 : List UInt8) : runF gl R N law11TailRests [AV.int .i64 i1, AV.str s1] = law11TailRestsr R N i1 s1 := by
  refine Eq.trans (b :=
      (R id_keepWithin [AV.int .i64 i1, AV.int .i64 8]).bind fun r1 =>
      asI .i64 r1.v fun i2 =>
      (R id_keepText [AV.str s1, AV.int .i64 30]).bind fun r2 =>
      asS r2.v fun s2 =>
      rounds [0, 1] [] (evC gl R N law11TailRests_c0) (Kblock 0 (Kthen gl R N law11TailRests_c1 (Kret law11TailRests.rets []))) N ⟨[(0, .imm (AV.int .i64 i2)), (1, .imm (AV.str s2))], []⟩) (by kernel_rfl) ?_
  simp (config := { maxSteps := 100000000 }) only [law11TailRests_L1_eq]
  kernel_rfl
theorem law11TailRests_fit : fitF Tryd.prog law11TailRests Tryd.f8 = true := by
  kernel_rfl

def ref08Blanks_L1s (R : Nat → List AV → Option Res) (N : Nat) (go : List UInt8 → Int → Option Res) (k0 : Int → Option Res) (s2 : List UInt8) (i1 : Int) : Option Res :=
  bif decide ((i1 : Int) < ((s2.length : Nat) : Int)) then
    (need (decide (0 ≤ (i1 : Int))) <|
    (s2[Int.toNat i1]?).bind fun c1 =>
    bif ((c1.toNat : Int) : Int) == 32 then
      (go s2 (IntKind.i64.wrap (i1 + 1)))
    else
      k0 i1)
  else
    k0 i1
def ref08Blanks_L1 (R : Nat → List AV → Option Res) (N : Nat) (k0 : Int → Option Res) : Nat → List UInt8 → Int → Option Res
  | 0, _, _ => none
  | n + 1, s2, i1 => ref08Blanks_L1s R N (ref08Blanks_L1 R N k0 n) k0 s2 i1
def ref08Blanks_c0 : AC := .seq (.seq (.region [.op (some 4) none (.mv (.t 3)), .op (some 5) none (.mv (.t 0)), .op (some 6) none (.len (.t 5) false), .op (some 7) none (.bin .lss (.t 4) (.t 6)), .op (some 8) none (.mv (.t 7)), .split 8, .op (some 9) (some (8, true)) (.mv (.t 0)), .op (some 10) (some (8, true)) (.mv (.t 3)), .op (some 11) (some (8, true)) (.iaddr (.t 9) (.t 10) 1 (.int .u8)), .op (some 12) (some (8, true)) (.load (.t 11) none (.int .u8)), .op (some 13) (some (8, true)) (.bin .eql (.t 12) (.k (AV.int .u8 32))), .op (some 14) none (.pick (.t 8) (.t 13) (.k (AV.bool false)))]) (.cond (.t 14) (.skip) (.exit 0 [3] []))) (.block 1 (.region [.op (some 15) none (.mv (.t 3)), .op (some 16) none (.bin .add (.t 15) (.k (AV.int .i64 1))), .op (some 3) none (.mv (.t 16))]))
theorem ref08Blanks_L1s_eq (R : Nat → List AV → Option Res) (N : Nat) (K : Ex → St → Option Res) (W : St → Option Res) (s2 : List UInt8) (i1 : Int) :
    evC gl R N ref08Blanks_c0 (Kseq (fun st' => W (prune [0, 3] [] st')) K) ⟨[(0, .imm (AV.bytes s2)), (3, .imm (AV.int .i64 i1))], []⟩ =
    ref08Blanks_L1s R N (fun (s2 : List UInt8) (i1 : Int) => W ⟨[(0, .imm (AV.bytes s2)), (3, .imm (AV.int .i64 i1))], []⟩) (fun (i2 : Int) => K (.exit 0) ⟨[(3, .imm (AV.int .i64 i2))], []⟩) s2 i1 := by
  kernel_rfl
theorem ref08Blanks_L1_eq (R : Nat → List AV → Option Res) (N : Nat) (K : Ex → St → Option Res) : ∀ (n : Nat) (s2 : List UInt8) (i1 : Int),
    rounds [0, 3] [] (evC gl R N ref08Blanks_c0) K n ⟨[(0, .imm (AV.bytes s2)), (3, .imm (AV.int .i64 i1))], []⟩ = ref08Blanks_L1 R N (fun (i2 : Int) => K (.exit 0) ⟨[(3, .imm (AV.int .i64 i2))], []⟩) n s2 i1
  | 0, _, _ => rfl
  | n + 1, s2, i1 => (ref08Blanks_L1s_eq R N K (rounds [0, 3] [] (evC gl R N ref08Blanks_c0) K n) s2 i1).trans
      (congrArg (fun go => ref08Blanks_L1s R N go (fun (i2 : Int) => K (.exit 0) ⟨[(3, .imm (AV.int .i64 i2))], []⟩) s2 i1) (funext fun s2 => funext fun i1 => ref08Blanks_L1_eq R N K n s2 i1))
def ref08Blanks_c1 : AC := .seq (.region [.op (some 17) none (.mv (.t 3)), .op (some 2) none (.mv (.t 17))]) (.ret [2] [])
def ref08Blanks_c2 : AC := .seq (.region [.op (some 2) none (.mv (.k (AV.int .i64 0)))]) (.seq (.region [.op (some 3) none (.mv (.k (AV.int .i64 0)))]) (.seq (.block 0 (.loop [0, 3] [] (ref08Blanks_c0))) (ref08Blanks_c1)))
def ref08Blanks : AFunc := ⟨1, 18, [.tmp 2], ref08Blanks_c2⟩
def ref08Blanksr (R : Nat → List AV → Option Res) (N : Nat) (s1 : List UInt8) : Option Res :=
  ref08Blanks_L1 R N
    (fun i4 =>
      some ⟨AV.int .i64 i4, false, []⟩)
    N s1 0
theorem ref08Blanks_eq (R : Nat → List AV → Option Res) (N : Nat) (s1 : List UInt8) : runF gl R N ref08Blanks [AV.bytes s1] = ref08Blanksr R N s1 := by
  refine Eq.trans (b :=
      rounds [0, 3] [] (evC gl R N ref08Blanks_c0) (Kblock 0 (Kthen gl R N ref08Blanks_c1 (Kret ref08Blanks.rets []))) N ⟨[(0, .imm (AV.bytes s1)), (3, .imm (AV.int .i64 0))], []⟩) (by kernel_rfl) ?_
  simp (config := { maxSteps := 100000000 }) only [ref08Blanks_L1_eq]
  kernel_rfl
theorem ref08Blanks_fit : fitF Tryd.prog ref08Blanks Tryd.f43 = true := by
  kernel_rfl

def ref08Clear_c0 : AC := .seq (.region [.op (some 2) none (.mv (.k (AV.bool false)))]) (.seq (.region [.op (some 4) none (.mv (.t 0)), .op (some 5) none (.call id_ref08Blanks [.t 4] (.int .i64)), .op (some 3) none (.mv (.t 5))]) (.seq (.region [.op (some 6) none (.mv (.t 3)), .op (some 7) none (.mv (.t 0)), .op (some 8) none (.len (.t 7) false), .op (some 9) none (.bin .eql (.t 6) (.t 8)), .op (some 10) none (.mv (.t 9)), .split 10, .op (some 11) (some (10, false)) (.mv (.t 3)), .op (some 12) (some (10, false)) (.bin .gtr (.t 11) (.k (AV.int .i64 0))), .op (some 13) (some (10, false)) (.mv (.t 12)), .split 13, .op (some 14) (some (13, true)) (.mv (.t 0)), .op (some 15) (some (13, true)) (.mv (.t 3)), .op (some 16) (some (13, true)) (.iaddr (.t 14) (.t 15) 1 (.int .u8)), .op (some 17) (some (13, true)) (.load (.t 16) none (.int .u8)), .op (some 18) (some (13, true)) (.bin .eql (.t 17) (.k (AV.int .u8 35))), .op (some 19) (some (10, false)) (.pick (.t 13) (.t 18) (.k (AV.bool false))), .op (some 20) none (.pick (.t 10) (.k (AV.bool true)) (.t 19)), .op (some 2) none (.mv (.t 20))]) (.ret [2] [])))
def ref08Clear : AFunc := ⟨1, 21, [.tmp 2], ref08Clear_c0⟩
def ref08Clearr (R : Nat → List AV → Option Res) (N : Nat) (s1 : List UInt8) : Option Res :=
  (R id_ref08Blanks [AV.bytes s1]).bind fun r1 =>
  asI .i64 r1.v fun i1 =>
  bif (i1 : Int) == ((s1.length : Nat) : Int) then
    (some ⟨AV.bool true, false, []⟩)
  else
    bif decide ((i1 : Int) > 0) then
      (need (decide (0 ≤ (i1 : Int))) <|
      (s1[Int.toNat i1]?).bind fun c1 =>
      some ⟨AV.bool (((c1.toNat : Int) : Int) == 35), false, []⟩)
    else
      some ⟨AV.bool false, false, []⟩
theorem ref08Clear_eq (R : Nat → List AV → Option Res) (N : Nat) (s1 : List UInt8) : runF gl R N ref08Clear [AV.bytes s1] = ref08Clearr R N s1 := by
  kernel_rfl
theorem ref08Clear_fit : fitF Tryd.prog ref08Clear Tryd.f30 = true := by
  kernel_rfl

def ref08Comment_c0 : AC := .seq (.region [.op (some 2) none (.mv (.k (AV.int .i64 0))), .op (some 3) none (.mv (.k (AV.bool false)))]) (.seq (.region [.op (some 5) none (.mv (.t 0)), .op (some 6) none (.call id_ref08Blanks [.t 5] (.int .i64)), .op (some 4) none (.mv (.t 6))]) (.seq (.seq (.region [.op (some 7) none (.mv (.t 0)), .op (some 8) none (.call id_ref08Clear [.t 7] (.bool)), .op (some 9) none (.un .not (.t 8)), .op (some 10) none (.mv (.t 9)), .split 10, .op (some 11) (some (10, false)) (.mv (.t 4)), .op (some 12) (some (10, false)) (.mv (.t 0)), .op (some 13) (some (10, false)) (.len (.t 12) false), .op (some 14) (some (10, false)) (.bin .eql (.t 11) (.t 13)), .op (some 15) none (.pick (.t 10) (.k (AV.bool true)) (.t 14))]) (.cond (.t 15) (.seq (.region [.op (some 2) none (.mv (.k (AV.int .i64 0))), .op (some 3) none (.mv (.k (AV.bool false)))]) (.ret [2, 3] [])) (.skip))) (.seq (.region [.op (some 16) none (.mv (.t 4)), .op (some 2) none (.mv (.t 16)), .op (some 3) none (.mv (.k (AV.bool true)))]) (.ret [2, 3] []))))
def ref08Comment : AFunc := ⟨1, 17, [.tmp 2, .tmp 3], ref08Comment_c0⟩
def ref08Commentr (R : Nat → List AV → Option Res) (N : Nat) (s1 : List UInt8) : Option Res :=
  (R id_ref08Blanks [AV.bytes s1]).bind fun r1 =>
  asI .i64 r1.v fun i1 =>
  (R id_ref08Clear [AV.bytes s1]).bind fun r2 =>
  asB r2.v fun b1 =>
  bif !b1 then
    (some ⟨AV.tup [AV.int .i64 0, AV.bool false], false, []⟩)
  else
    bif (i1 : Int) == ((s1.length : Nat) : Int) then
      (some ⟨AV.tup [AV.int .i64 0, AV.bool false], false, []⟩)
    else
      some ⟨AV.tup [AV.int .i64 i1, AV.bool true], false, []⟩
theorem ref08Comment_eq (R : Nat → List AV → Option Res) (N : Nat) (s1 : List UInt8) : runF gl R N ref08Comment [AV.bytes s1] = ref08Commentr R N s1 := by
  kernel_rfl
theorem ref08Comment_fit : fitF Tryd.prog ref08Comment Tryd.f28 = true := by
  kernel_rfl

def ref08Marker_c0 : AC := .seq (.region [.op (some 2) none (.mv (.k (AV.int .i64 0)))]) (.seq (.seq (.region [.op (some 3) none (.mv (.t 0)), .op (some 4) none (.len (.t 3) false), .op (some 5) none (.bin .lss (.t 4) (.k (AV.int .i64 3))), .op (some 6) none (.mv (.t 5)), .split 6, .op (some 7) (some (6, false)) (.mv (.t 0)), .op (some 8) (some (6, false)) (.slice (.t 7) none (some (.k (AV.int .i64 3))) 1), .op (some 9) (some (6, false)) (.cvStr (.t 8)), .op (some 10) (some (6, false)) (.bin .neq (.t 9) (.k (AV.str ([45, 45, 45] : List UInt8)))), .op (some 11) (some (6, false)) (.mv (.t 10)), .split 11, .op (some 12) (some (11, true)) (.mv (.t 0)), .op (some 13) (some (11, true)) (.slice (.t 12) none (some (.k (AV.int .i64 3))) 1), .op (some 14) (some (11, true)) (.cvStr (.t 13)), .op (some 15) (some (11, true)) (.bin .neq (.t 14) (.k (AV.str ([46, 46, 46] : List UInt8)))), .op (some 16) (some (6, false)) (.pick (.t 11) (.t 15) (.k (AV.bool false))), .op (some 17) none (.pick (.t 6) (.k (AV.bool true)) (.t 16))]) (.cond (.t 17) (.seq (.region [.op (some 2) none (.mv (.k (AV.int .i64 0)))]) (.ret [2] [])) (.skip))) (.seq (.block 0 (.seq (.region [.op (some 19) none (.mv (.t 0)), .op (some 20) none (.slice (.t 19) (some (.k (AV.int .i64 3))) none 1), .op (some 21) none (.call id_ref08Clear [.t 20] (.bool)), .op (some 22) none (.mv (.t 21)), .split 22, .op (some 23) (some (22, true)) (.mv (.t 0)), .op (some 24) (some (22, true)) (.iaddr (.t 23) (.k (AV.int .i64 0)) 1 (.int .u8)), .op (some 25) (some (22, true)) (.load (.t 24) none (.int .u8)), .op (some 26) (some (22, true)) (.bin .eql (.t 25) (.k (AV.int .u8 45))), .op (some 27) none (.pick (.t 22) (.t 26) (.k (AV.bool false))), .op (some 18) none (.mv (.t 27))]) (.cond (.t 18) (.seq (.region [.op (some 2) none (.mv (.k (AV.int .i64 1)))]) (.ret [2] [])) (.seq (.region [.op (some 29) none (.mv (.t 0)), .op (some 30) none (.slice (.t 29) (some (.k (AV.int .i64 3))) none 1), .op (some 31) none (.call id_ref08Clear [.t 30] (.bool)), .op (some 28) none (.mv (.t 31))]) (.cond (.t 28) (.seq (.region [.op (some 2) none (.mv (.k (AV.int .i64 2)))]) (.ret [2] [])) (.seq (.region [.op (some 33) none (.mv (.t 0)), .op (some 34) none (.iaddr (.t 33) (.k (AV.int .i64 3)) 1 (.int .u8)), .op (some 35) none (.load (.t 34) none (.int .u8)), .op (some 36) none (.bin .eql (.t 35) (.k (AV.int .u8 32))), .op (some 37) none (.mv (.t 36)), .split 37, .op (some 38) (some (37, false)) (.mv (.t 0)), .op (some 39) (some (37, false)) (.iaddr (.t 38) (.k (AV.int .i64 3)) 1 (.int .u8)), .op (some 40) (some (37, false)) (.load (.t 39) none (.int .u8)), .op (some 41) (some (37, false)) (.bin .eql (.t 40) (.k (AV.int .u8 9))), .op (some 42) none (.pick (.t 37) (.k (AV.bool true)) (.t 41)), .op (some 32) none (.mv (.t 42))]) (.cond (.t 32) (.seq (.region [.op (some 2) none (.mv (.k (AV.int .i64 3)))]) (.ret [2] [])) (.skip)))))))) (.seq (.region [.op (some 2) none (.mv (.k (AV.int .i64 0)))]) (.ret [2] []))))
def ref08Marker : AFunc := ⟨1, 43, [.tmp 2], ref08Marker_c0⟩
def ref08Markerr (R : Nat → List AV → Option Res) (N : Nat) (s1 : List UInt8) : Option Res :=
  bif decide ((((s1.length : Nat) : Int) : Int) < 3) then
    (some ⟨AV.int .i64 0, false, []⟩)
  else
    need (decide (0 ≤ (3 : Int)) && decide ((3 : Int) ≤ ((s1.length : Nat) : Int))) <|
    bif !(((s1.take (Int.toNat 3)).drop 0) == ([45, 45, 45] : List UInt8)) then
      (need (decide (0 ≤ (3 : Int)) && decide ((3 : Int) ≤ ((s1.length : Nat) : Int))) <|
      bif !(((s1.take (Int.toNat 3)).drop 0) == ([46, 46, 46] : List UInt8)) then
        (some ⟨AV.int .i64 0, false, []⟩)
      else
        need (decide (0 ≤ (3 : Int)) && decide ((3 : Int) ≤ ((s1.length : Nat) : Int))) <|
        (R id_ref08Clear [AV.bytes ((s1.take s1.length).drop (Int.toNat 3))]).bind fun r1 =>
        asB r1.v fun b1 =>
        bif b1 then
          (need (decide (0 ≤ (0 : Int))) <|
          (s1[Int.toNat 0]?).bind fun c1 =>
          bif ((c1.toNat : Int) : Int) == 45 then
            (some ⟨AV.int .i64 1, false, []⟩)
          else
            need (decide (0 ≤ (3 : Int)) && decide ((3 : Int) ≤ ((s1.length : Nat) : Int))) <|
            (R id_ref08Clear [AV.bytes ((s1.take s1.length).drop (Int.toNat 3))]).bind fun r2 =>
            asB r2.v fun b2 =>
            bif b2 then
              (some ⟨AV.int .i64 2, false, []⟩)
            else
              need (decide (0 ≤ (3 : Int))) <|
              (s1[Int.toNat 3]?).bind fun c2 =>
              bif ((c2.toNat : Int) : Int) == 32 then
                (some ⟨AV.int .i64 3, false, []⟩)
              else
                need (decide (0 ≤ (3 : Int))) <|
                (s1[Int.toNat 3]?).bind fun c3 =>
                bif ((c3.toNat : Int) : Int) == 9 then
                  (some ⟨AV.int .i64 3, false, []⟩)
                else
                  some ⟨AV.int .i64 0, false, []⟩)
        else
          need (decide (0 ≤ (3 : Int)) && decide ((3 : Int) ≤ ((s1.length : Nat) : Int))) <|
          (R id_ref08Clear [AV.bytes ((s1.take s1.length).drop (Int.toNat 3))]).bind fun r3 =>
          asB r3.v fun b3 =>
          bif b3 then
            (some ⟨AV.int .i64 2, false, []⟩)
          else
            need (decide (0 ≤ (3 : Int))) <|
            (s1[Int.toNat 3]?).bind fun c4 =>
            bif ((c4.toNat : Int) : Int) == 32 then
              (some ⟨AV.int .i64 3, false, []⟩)
            else
              need (decide (0 ≤ (3 : Int))) <|
              (s1[Int.toNat 3]?).bind fun c5 =>
              bif ((c5.toNat : Int) : Int) == 9 then
                (some ⟨AV.int .i64 3, false, []⟩)
              else
                some ⟨AV.int .i64 0, false, []⟩)
    else
      need (decide (0 ≤ (3 : Int)) && decide ((3 : Int) ≤ ((s1.length : Nat) : Int))) <|
      (R id_ref08Clear [AV.bytes ((s1.take s1.length).drop (Int.toNat 3))]).bind fun r4 =>
      asB r4.v fun b4 =>
      bif b4 then
        (need (decide (0 ≤ (0 : Int))) <|
        (s1[Int.toNat 0]?).bind fun c6 =>
        bif ((c6.toNat : Int) : Int) == 45 then
          (some ⟨AV.int .i64 1, false, []⟩)
        else
          need (decide (0 ≤ (3 : Int)) && decide ((3 : Int) ≤ ((s1.length : Nat) : Int))) <|
          (R id_ref08Clear [AV.bytes ((s1.take s1.length).drop (Int.toNat 3))]).bind fun r5 =>
          asB r5.v fun b5 =>
          bif b5 then
            (some ⟨AV.int .i64 2, false, []⟩)
          else
            need (decide (0 ≤ (3 : Int))) <|
            (s1[Int.toNat 3]?).bind fun c7 =>
            bif ((c7.toNat : Int) : Int) == 32 then
              (some ⟨AV.int .i64 3, false, []⟩)
            else
              need (decide (0 ≤ (3 : Int))) <|
              (s1[Int.toNat 3]?).bind fun c8 =>
              bif ((c8.toNat : Int) : Int) == 9 then
                (some ⟨AV.int .i64 3, false, []⟩)
              else
                some ⟨AV.int .i64 0, false, []⟩)
      else
        need (decide (0 ≤ (3 : Int)) && decide ((3 : Int) ≤ ((s1.length : Nat) : Int))) <|
        (R id_ref08Clear [AV.bytes ((s1.take s1.length).drop (Int.toNat 3))]).bind fun r6 =>
        asB r6.v fun b6 =>
        bif b6 then
          (some ⟨AV.int .i64 2, false, []⟩)
        else
          need (decide (0 ≤ (3 : Int))) <|
          (s1[Int.toNat 3]?).bind fun c9 =>
          bif ((c9.toNat : Int) : Int) == 32 then
            (some ⟨AV.int .i64 3, false, []⟩)
          else
            need (decide (0 ≤ (3 : Int))) <|
            (s1[Int.toNat 3]?).bind fun c10 =>
            bif ((c10.toNat : Int) : Int) == 9 then
              (some ⟨AV.int .i64 3, false, []⟩)
            else
              some ⟨AV.int .i64 0, false, []⟩
theorem ref08Marker_eq (R : Nat → List AV → Option Res) (N : Nat) (s1 : List UInt8) : runF gl R N ref08Marker [AV.bytes s1] = ref08Markerr R N s1 := by
  kernel_rfl
theorem ref08Marker_fit : fitF Tryd.prog ref08Marker Tryd.f31 = true := by
  kernel_rfl
end Go.Proofs.YtojfiifjjgfpaaaDoor.Vf
