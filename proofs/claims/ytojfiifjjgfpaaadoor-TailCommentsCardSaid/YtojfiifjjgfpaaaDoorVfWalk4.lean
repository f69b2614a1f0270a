/- The code of the functions that the statements reach, as our evaluator takes it, and what each of them comes to, readably: printed by a program of ours. No condition. -/
import Derived.Test.YtojfiifjjgfpaaaDoorVfWalk3
namespace Go.Proofs.YtojfiifjjgfpaaaDoor.Vf
set_option linter.unusedVariables false
set_option linter.unusedSimpArgs false
set_option maxRecDepth 100000


def slicesCloneByteByte_c0 : AC := .seq (.region [.op (some 2) none (.nilOwn 5 none)]) (.seq (.seq (.region [.op (some 3) none (.mv (.t 0)), .op (some 4) none (.isNil false (.t 3) false)]) (.cond (.t 4) (.seq (.region [.op (some 2) none (.nilOwn 5 none)]) (.ret [] [])) (.skip))) (.seq (.region [.op (some 5) none (.bsliceOwn 5 [] 1 .any true), .op (some 6) none (.mv (.t 0)), .op (some 7) none (.app 5 (.t 5) (.t 6) 1 .any true), .op (some 2) none (.mv (.t 7))]) (.ret [2] [5])))
def slicesCloneByteByte : AFunc := ⟨1, 8, [.tmp 2], slicesCloneByteByte_c0⟩
def slicesCloneByteByter (R : Nat → List AV → Option Res) (N : Nat) (s1 : List UInt8) : Option Res :=
  need (decide (0 < s1.length)) <|
  need (decide (((([] : List UInt8).drop 0).take 0).length + s1.length ≤ 1099511627776)) <|
  some ⟨AV.bytes (((((([] : List UInt8).drop 0).take 0) ++ s1 : List UInt8).drop 0).take ((((([] : List UInt8).drop 0).take 0) ++ s1).length)), true, []⟩
theorem slicesCloneByteByte_eq (R : Nat → List AV → Option Res) (N : Nat) (s1 : List UInt8) : runF gl R N slicesCloneByteByte [AV.bytes s1] = slicesCloneByteByter R N s1 := by
  kernel_rfl
theorem slicesCloneByteByte_fit : fitF Tryd.prog slicesCloneByteByte Tryd.f41 = true := by
  kernel_rfl

def bytesTrimLeftByte_L1s (R : Nat → List AV → Option Res) (N : Nat) (go : List UInt8 → Int → Option Res) (k0 : List UInt8 → Option Res) (s2 : List UInt8) (i2 : Int) : Option Res :=
  bif decide ((((s2.length : Nat) : Int) : Int) > 0) then
    (need (decide (0 ≤ (0 : Int))) <|
    (s2[Int.toNat 0]?).bind fun c1 =>
    bif ((c1.toNat : Int) : Int) == i2 then
      (need (decide (0 ≤ (1 : Int)) && decide ((1 : Int) ≤ ((s2.length : Nat) : Int))) <|
      go ((s2.take s2.length).drop (Int.toNat 1)) i2)
    else
      k0 s2)
  else
    k0 s2
def bytesTrimLeftByte_L1 (R : Nat → List AV → Option Res) (N : Nat) (k0 : List UInt8 → Option Res) : Nat → List UInt8 → Int → Option Res
  | 0, _, _ => none
  | n + 1, s2, i2 => bytesTrimLeftByte_L1s R N (bytesTrimLeftByte_L1 R N k0 n) k0 s2 i2
def bytesTrimLeftByte_c0 : AC := .seq (.seq (.region [.op (some 5) none (.mv (.t 0)), .op (some 6) none (.len (.t 5) false), .op (some 7) none (.bin .gtr (.t 6) (.k (AV.int .i64 0))), .op (some 8) none (.mv (.t 7)), .split 8, .op (some 9) (some (8, true)) (.mv (.t 0)), .op (some 10) (some (8, true)) (.iaddr (.t 9) (.k (AV.int .i64 0)) 1 (.int .u8)), .op (some 11) (some (8, true)) (.load (.t 10) none (.int .u8)), .op (some 12) (some (8, true)) (.mv (.t 1)), .op (some 13) (some (8, true)) (.bin .eql (.t 11) (.t 12)), .op (some 14) none (.pick (.t 8) (.t 13) (.k (AV.bool false)))]) (.cond (.t 14) (.skip) (.exit 0 [0] []))) (.block 1 (.region [.op (some 15) none (.mv (.t 0)), .op (some 16) none (.slice (.t 15) (some (.k (AV.int .i64 1))) none 1), .op (some 0) none (.mv (.t 16))]))
theorem bytesTrimLeftByte_L1s_eq (R : Nat → List AV → Option Res) (N : Nat) (K : Ex → St → Option Res) (W : St → Option Res) (s2 : List UInt8) (i2 : Int) :
    evC gl R N bytesTrimLeftByte_c0 (Kseq (fun st' => W (prune [0, 1] [] st')) K) ⟨[(0, .imm (AV.bytes s2)), (1, .imm (AV.int .u8 i2))], []⟩ =
    bytesTrimLeftByte_L1s R N (fun (s2 : List UInt8) (i2 : Int) => W ⟨[(0, .imm (AV.bytes s2)), (1, .imm (AV.int .u8 i2))], []⟩) (fun (s3 : List UInt8) => K (.exit 0) ⟨[(0, .imm (AV.bytes s3))], []⟩) s2 i2 := by
  kernel_rfl
theorem bytesTrimLeftByte_L1_eq (R : Nat → List AV → Option Res) (N : Nat) (K : Ex → St → Option Res) : ∀ (n : Nat) (s2 : List UInt8) (i2 : Int),
    rounds [0, 1] [] (evC gl R N bytesTrimLeftByte_c0) K n ⟨[(0, .imm (AV.bytes s2)), (1, .imm (AV.int .u8 i2))], []⟩ = bytesTrimLeftByte_L1 R N (fun (s3 : List UInt8) => K (.exit 0) ⟨[(0, .imm (AV.bytes s3))], []⟩) n s2 i2
  | 0, _, _ => rfl
  | n + 1, s2, i2 => (bytesTrimLeftByte_L1s_eq R N K (rounds [0, 1] [] (evC gl R N bytesTrimLeftByte_c0) K n) s2 i2).trans
      (congrArg (fun go => bytesTrimLeftByte_L1s R N go (fun (s3 : List UInt8) => K (.exit 0) ⟨[(0, .imm (AV.bytes s3))], []⟩) s2 i2) (funext fun s2 => funext fun i2 => bytesTrimLeftByte_L1_eq R N K n s2 i2))
def bytesTrimLeftByte_c1 : AC := .seq (.seq (.region [.op (some 17) none (.mv (.t 0)), .op (some 18) none (.len (.t 17) false), .op (some 19) none (.bin .eql (.t 18) (.k (AV.int .i64 0)))]) (.cond (.t 19) (.seq (.region [.op (some 4) none (.mv (.k (AV.bytes [])))]) (.ret [4] [])) (.skip))) (.seq (.region [.op (some 20) none (.mv (.t 0)), .op (some 4) none (.mv (.t 20))]) (.ret [4] []))
def bytesTrimLeftByte_c2 : AC := .seq (.region [.op (some 4) none (.mv (.k (AV.bytes [])))]) (.seq (.block 0 (.loop [0, 1] [] (bytesTrimLeftByte_c0))) (bytesTrimLeftByte_c1))
def bytesTrimLeftByte : AFunc := ⟨2, 21, [.tmp 4], bytesTrimLeftByte_c2⟩
def bytesTrimLeftByter (R : Nat → List AV → Option Res) (N : Nat) (s1 : List UInt8) (i1 : Int) : Option Res :=
  bytesTrimLeftByte_L1 R N
    (fun s5 =>
      bif (((s5.length : Nat) : Int) : Int) == 0 then
        (some ⟨AV.bytes [], false, []⟩)
      else
        some ⟨AV.bytes s5, false, []⟩)
    N s1 i1
theorem bytesTrimLeftByte_eq (R : Nat → List AV → Option Res) (N : Nat) (s1 : List UInt8) (i1 : Int) : runF gl R N bytesTrimLeftByte [AV.bytes s1, AV.int .u8 i1] = bytesTrimLeftByter R N s1 i1 := by
  refine Eq.trans (b :=
      rounds [0, 1] [] (evC gl R N bytesTrimLeftByte_c0) (Kblock 0 (Kthen gl R N bytesTrimLeftByte_c1 (Kret bytesTrimLeftByte.rets []))) N ⟨[(0, .imm (AV.bytes s1)), (1, .imm (AV.int .u8 i1))], []⟩) (by kernel_rfl) ?_
  simp (config := { maxSteps := 100000000 }) only [bytesTrimLeftByte_L1_eq]
  kernel_rfl
theorem bytesTrimLeftByte_fit : fitF Tryd.prog bytesTrimLeftByte Tryd.f50 = true := by
  kernel_rfl

def bytesMakeASCIISet : AFunc := ⟨1, 21, [.cell 2 256, .tmp 3], .stuck⟩
def bytesMakeASCIISetr (R : Nat → List AV → Option Res) (N : Nat) (s1 : List UInt8) : Option Res :=
  none
theorem bytesMakeASCIISet_eq (R : Nat → List AV → Option Res) (N : Nat) (s1 : List UInt8) : runF gl R N bytesMakeASCIISet [AV.str s1] = bytesMakeASCIISetr R N s1 := by
  kernel_rfl
theorem bytesMakeASCIISet_fit : fitF Tryd.prog bytesMakeASCIISet Tryd.f51 = true := by
  kernel_rfl

def bytesContainsRune_L1s (R : Nat → List AV → Option Res) (N : Nat) (go : Int → List UInt8 → Nat → Option Res) (k0 : Bool → Option Res) (k1 : Option Res) (i2 : Int) (s2 : List UInt8) (n1 : Nat) : Option Res :=
  bif decide (n1 < s2.length) then
    (bif (((runeAt s2 n1).1 : Int) : Int) == i2 then
      (k0 true)
    else
      go i2 s2 (n1 + (runeAt s2 n1).2))
  else
    k1
def bytesContainsRune_L1 (R : Nat → List AV → Option Res) (N : Nat) (k0 : Bool → Option Res) (k1 : Option Res) : Nat → Int → List UInt8 → Nat → Option Res
  | 0, _, _, _ => none
  | n + 1, i2, s2, n1 => bytesContainsRune_L1s R N (bytesContainsRune_L1 R N k0 k1 n) k0 k1 i2 s2 n1
def bytesContainsRune_c0 : AC := .seq (.region [.op (some 9) none (.nextS (.t 8)), .op (some 10) none (.extract (.t 9) 0)]) (.seq (.cond (.t 10) (.skip) (.exit 0 [] [])) (.block 1 (.seq (.region [.op (some 11) none (.extract (.t 9) 2), .op (some 6) none (.mv (.t 11))]) (.seq (.region [.op (some 12) none (.mv (.t 6)), .op (some 13) none (.mv (.t 1)), .op (some 14) none (.bin .eql (.t 12) (.t 13))]) (.cond (.t 14) (.seq (.region [.op (some 4) none (.mv (.k (AV.bool true)))]) (.ret [4] [])) (.skip))))))
theorem bytesContainsRune_L1s_eq (R : Nat → List AV → Option Res) (N : Nat) (K : Ex → St → Option Res) (W : St → Option Res) (i2 : Int) (s2 : List UInt8) (n1 : Nat) :
    evC gl R N bytesContainsRune_c0 (Kseq (fun st' => W (prune [1, 8] [1008] st')) K) ⟨[(1, .imm (AV.int .i32 i2)), (8, .ptr 1008 0 0)], [(1008, .iter s2 n1)]⟩ =
    bytesContainsRune_L1s R N (fun (i2 : Int) (s2 : List UInt8) (n1 : Nat) => W ⟨[(1, .imm (AV.int .i32 i2)), (8, .ptr 1008 0 0)], [(1008, .iter s2 n1)]⟩) (fun (b1 : Bool) => K .ret ⟨[(4, .imm (AV.bool b1))], []⟩) (K (.exit 0) ⟨[], []⟩) i2 s2 n1 := by
  kernel_rfl
theorem bytesContainsRune_L1_eq (R : Nat → List AV → Option Res) (N : Nat) (K : Ex → St → Option Res) : ∀ (n : Nat) (i2 : Int) (s2 : List UInt8) (n1 : Nat),
    rounds [1, 8] [1008] (evC gl R N bytesContainsRune_c0) K n ⟨[(1, .imm (AV.int .i32 i2)), (8, .ptr 1008 0 0)], [(1008, .iter s2 n1)]⟩ = bytesContainsRune_L1 R N (fun (b1 : Bool) => K .ret ⟨[(4, .imm (AV.bool b1))], []⟩) (K (.exit 0) ⟨[], []⟩) n i2 s2 n1
  | 0, _, _, _ => rfl
  | n + 1, i2, s2, n1 => (bytesContainsRune_L1s_eq R N K (rounds [1, 8] [1008] (evC gl R N bytesContainsRune_c0) K n) i2 s2 n1).trans
      (congrArg (fun go => bytesContainsRune_L1s R N go (fun (b1 : Bool) => K .ret ⟨[(4, .imm (AV.bool b1))], []⟩) (K (.exit 0) ⟨[], []⟩) i2 s2 n1) (funext fun i2 => funext fun s2 => funext fun n1 => bytesContainsRune_L1_eq R N K n i2 s2 n1))
def bytesContainsRune_c1 : AC := .seq (.region [.op (some 4) none (.mv (.k (AV.bool false)))]) (.ret [4] [])
def bytesContainsRune_c2 : AC := .seq (.region [.op (some 4) none (.mv (.k (AV.bool false)))]) (.seq (.seq (.region [.op (some 7) none (.mv (.t 0)), .op (some 8) none (.rangeS 1008 (.t 7))]) (.block 0 (.loop [1, 8] [1008] (bytesContainsRune_c0)))) (bytesContainsRune_c1))
def bytesContainsRune : AFunc := ⟨2, 15, [.tmp 4], bytesContainsRune_c2⟩
def bytesContainsRuner (R : Nat → List AV → Option Res) (N : Nat) (s1 : List UInt8) (i1 : Int) : Option Res :=
  bytesContainsRune_L1 R N
    (fun b3 =>
      some ⟨AV.bool b3, false, []⟩)
    (
      some ⟨AV.bool false, false, []⟩)
    N i1 s1 0
theorem bytesContainsRune_eq (R : Nat → List AV → Option Res) (N : Nat) (s1 : List UInt8) (i1 : Int) : runF gl R N bytesContainsRune [AV.str s1, AV.int .i32 i1] = bytesContainsRuner R N s1 i1 := by
  refine Eq.trans (b :=
      rounds [1, 8] [1008] (evC gl R N bytesContainsRune_c0) (Kblock 0 (Kthen gl R N bytesContainsRune_c1 (Kret bytesContainsRune.rets []))) N ⟨[(1, .imm (AV.int .i32 i1)), (8, .ptr 1008 0 0)], [(1008, .iter s1 0)]⟩) (by kernel_rfl) ?_
  simp (config := { maxSteps := 100000000 }) only [bytesContainsRune_L1_eq]
  kernel_rfl
theorem bytesContainsRune_fit : fitF Tryd.prog bytesContainsRune Tryd.f58 = true := by
  kernel_rfl

def bytesTrimLeftUnicode_L1s (R : Nat → List AV → Option Res) (N : Nat) (go : List UInt8 → List UInt8 → Option Res) (k0 : List UInt8 → Option Res) (s3 : List UInt8) (s4 : List UInt8) : Option Res :=
  bif decide ((((s3.length : Nat) : Int) : Int) > 0) then
    ((R id_unicodeUtf8DecodeRune [AV.bytes s3]).bind fun r1 =>
    asJIT r1.v fun i1 i2 =>
    none)
  else
    k0 s3
def bytesTrimLeftUnicode_L1 (R : Nat → List AV → Option Res) (N : Nat) (k0 : List UInt8 → Option Res) : Nat → List UInt8 → List UInt8 → Option Res
  | 0, _, _ => none
  | n + 1, s3, s4 => bytesTrimLeftUnicode_L1s R N (bytesTrimLeftUnicode_L1 R N k0 n) k0 s3 s4
def bytesTrimLeftUnicode_c1 : AC := .seq (.seq (.region [.op (some 7) none (.mv (.t 0)), .op (some 8) none (.len (.t 7) false), .op (some 9) none (.bin .gtr (.t 8) (.k (AV.int .i64 0)))]) (.cond (.t 9) (.skip) (.exit 0 [0] []))) (.block 1 (.seq (.region [.op (some 11) none (.mv (.t 0)), .op (some 12) none (.call id_unicodeUtf8DecodeRune [.t 11] (.tup [.int .i32, .int .i64])), .op (some 10) none (.mv (.t 12)), .op (some 13) none (.extract (.t 10) 0), .op (some 14) none (.extract (.t 10) 1), .op (some 5) none (.mv (.t 13)), .op (some 6) none (.mv (.t 14))]) (.stuck)))
theorem bytesTrimLeftUnicode_L1s_eq (R : Nat → List AV → Option Res) (N : Nat) (K : Ex → St → Option Res) (W : St → Option Res) (s3 : List UInt8) (s4 : List UInt8) :
    evC gl R N bytesTrimLeftUnicode_c1 (Kseq (fun st' => W (prune [0, 1] [] st')) K) ⟨[(0, .imm (AV.bytes s3)), (1, .imm (AV.str s4))], []⟩ =
    bytesTrimLeftUnicode_L1s R N (fun (s3 : List UInt8) (s4 : List UInt8) => W ⟨[(0, .imm (AV.bytes s3)), (1, .imm (AV.str s4))], []⟩) (fun (s5 : List UInt8) => K (.exit 0) ⟨[(0, .imm (AV.bytes s5))], []⟩) s3 s4 := by
  kernel_rfl
theorem bytesTrimLeftUnicode_L1_eq (R : Nat → List AV → Option Res) (N : Nat) (K : Ex → St → Option Res) : ∀ (n : Nat) (s3 : List UInt8) (s4 : List UInt8),
    rounds [0, 1] [] (evC gl R N bytesTrimLeftUnicode_c1) K n ⟨[(0, .imm (AV.bytes s3)), (1, .imm (AV.str s4))], []⟩ = bytesTrimLeftUnicode_L1 R N (fun (s5 : List UInt8) => K (.exit 0) ⟨[(0, .imm (AV.bytes s5))], []⟩) n s3 s4
  | 0, _, _ => rfl
  | n + 1, s3, s4 => (bytesTrimLeftUnicode_L1s_eq R N K (rounds [0, 1] [] (evC gl R N bytesTrimLeftUnicode_c1) K n) s3 s4).trans
      (congrArg (fun go => bytesTrimLeftUnicode_L1s R N go (fun (s5 : List UInt8) => K (.exit 0) ⟨[(0, .imm (AV.bytes s5))], []⟩) s3 s4) (funext fun s3 => funext fun s4 => bytesTrimLeftUnicode_L1_eq R N K n s3 s4))
def bytesTrimLeftUnicode_c2 : AC := .seq (.seq (.region [.op (some 22) none (.mv (.t 0)), .op (some 23) none (.len (.t 22) false), .op (some 24) none (.bin .eql (.t 23) (.k (AV.int .i64 0)))]) (.cond (.t 24) (.seq (.region [.op (some 4) none (.mv (.k (AV.bytes [])))]) (.ret [4] [])) (.skip))) (.seq (.region [.op (some 25) none (.mv (.t 0)), .op (some 4) none (.mv (.t 25))]) (.ret [4] []))
def bytesTrimLeftUnicode_c3 : AC := .seq (.region [.op (some 4) none (.mv (.k (AV.bytes [])))]) (.seq (.block 0 (.loop [0, 1] [] (bytesTrimLeftUnicode_c1))) (bytesTrimLeftUnicode_c2))
def bytesTrimLeftUnicode : AFunc := ⟨2, 26, [.tmp 4], bytesTrimLeftUnicode_c3⟩
def bytesTrimLeftUnicoder (R : Nat → List AV → Option Res) (N : Nat) (s1 : List UInt8) (s2 : List UInt8) : Option Res :=
  bytesTrimLeftUnicode_L1 R N
    (fun s7 =>
      bif (((s7.length : Nat) : Int) : Int) == 0 then
        (some ⟨AV.bytes [], false, []⟩)
      else
        some ⟨AV.bytes s7, false, []⟩)
    N s1 s2
theorem bytesTrimLeftUnicode_eq (R : Nat → List AV → Option Res) (N : Nat) (s1 : List UInt8) (s2 : List UInt8) : runF gl R N bytesTrimLeftUnicode [AV.bytes s1, AV.str s2] = bytesTrimLeftUnicoder R N s1 s2 := by
  refine Eq.trans (b :=
      rounds [0, 1] [] (evC gl R N bytesTrimLeftUnicode_c1) (Kblock 0 (Kthen gl R N bytesTrimLeftUnicode_c2 (Kret bytesTrimLeftUnicode.rets []))) N ⟨[(0, .imm (AV.bytes s1)), (1, .imm (AV.str s2))], []⟩) (by kernel_rfl) ?_
  simp (config := { maxSteps := 100000000 }) only [bytesTrimLeftUnicode_L1_eq]
  kernel_rfl
theorem bytesTrimLeftUnicode_fit : fitF Tryd.prog bytesTrimLeftUnicode Tryd.f53 = true := by
  kernel_rfl

def bytesTrimLeft_c1 : AC := .seq (.region [.op (some 4) none (.mv (.k (AV.bytes [])))]) (.seq (.seq (.region [.op (some 7) none (.mv (.t 0)), .op (some 8) none (.len (.t 7) false), .op (some 9) none (.bin .eql (.t 8) (.k (AV.int .i64 0)))]) (.cond (.t 9) (.seq (.region [.op (some 4) none (.mv (.k (AV.bytes [])))]) (.ret [4] [])) (.skip))) (.seq (.seq (.region [.op (some 10) none (.mv (.t 1)), .op (some 11) none (.bin .eql (.t 10) (.k (AV.str ([] : List UInt8))))]) (.cond (.t 11) (.seq (.region [.op (some 12) none (.mv (.t 0)), .op (some 4) none (.mv (.t 12))]) (.ret [4] [])) (.skip))) (.seq (.seq (.region [.op (some 13) none (.mv (.t 1)), .op (some 14) none (.len (.t 13) true), .op (some 15) none (.bin .eql (.t 14) (.k (AV.int .i64 1))), .op (some 16) none (.mv (.t 15)), .split 16, .op (some 17) (some (16, true)) (.mv (.t 1)), .op (some 18) (some (16, true)) (.index (.t 17) (.k (AV.int .i64 0))), .op (some 19) (some (16, true)) (.bin .lss (.t 18) (.k (AV.int .u8 128))), .op (some 20) none (.pick (.t 16) (.t 19) (.k (AV.bool false)))]) (.cond (.t 20) (.seq (.region [.op (some 21) none (.mv (.t 0)), .op (some 22) none (.mv (.t 1)), .op (some 23) none (.index (.t 22) (.k (AV.int .i64 0))), .op (some 24) none (.call id_bytesTrimLeftByte [.t 21, .t 23] (.bytes)), .op (some 4) none (.mv (.t 24))]) (.ret [4] [])) (.skip))) (.stuck))))
def bytesTrimLeft : AFunc := ⟨2, 36, [.tmp 4], bytesTrimLeft_c1⟩
def bytesTrimLeftr (R : Nat → List AV → Option Res) (N : Nat) (s1 : List UInt8) (s2 : List UInt8) : Option Res :=
  bif (((s1.length : Nat) : Int) : Int) == 0 then
    (some ⟨AV.bytes [], false, []⟩)
  else
    bif s2 == ([] : List UInt8) then
      (some ⟨AV.bytes s1, false, []⟩)
    else
      bif (((s2.length : Nat) : Int) : Int) == 1 then
        (need (decide (0 ≤ (0 : Int))) <|
        (s2[Int.toNat 0]?).bind fun c1 =>
        bif decide (((c1.toNat : Int) : Int) < 128) then
          (need (decide (0 ≤ (0 : Int))) <|
          (s2[Int.toNat 0]?).bind fun c2 =>
          (R id_bytesTrimLeftByte [AV.bytes s1, AV.int .u8 (c2.toNat : Int)]).bind fun r1 =>
          asY r1.v fun s3 =>
          some ⟨AV.bytes s3, false, []⟩)
        else
          none)
      else
        none
theorem bytesTrimLeft_eq (R : Nat → List AV → Option Res) (N : Nat) (s1 : List UInt8) (s2 : List UInt8) : runF gl R N bytesTrimLeft [AV.bytes s1, AV.str s2] = bytesTrimLeftr R N s1 s2 := by
  kernel_rfl
theorem bytesTrimLeft_fit : fitF Tryd.prog bytesTrimLeft Tryd.f42 = true := by
  kernel_rfl

def tailRest_c0 : AC := .seq (.region [.op (some 2) none (.mv (.k (AV.bytes [])))]) (.seq (.region [.op (some 3) none (.mv (.t 0)), .op (some 4) none (.call id_bytesTrimLeft [.t 3, .k (AV.str ([32] : List UInt8))] (.bytes)), .op (some 5) none (.call id_slicesCloneByteByte [.t 4] (.bytes)), .op (some 2) none (.mv (.t 5))]) (.ret [2] []))
def tailRest : AFunc := ⟨1, 6, [.tmp 2], tailRest_c0⟩
def tailRestr (R : Nat → List AV → Option Res) (N : Nat) (s1 : List UInt8) : Option Res :=
  (R id_bytesTrimLeft [AV.bytes s1, AV.str ([32] : List UInt8)]).bind fun r1 =>
  asY r1.v fun s2 =>
  (R id_slicesCloneByteByte [AV.bytes s2]).bind fun r2 =>
  asY r2.v fun s3 =>
  some ⟨AV.bytes s3, false, []⟩
theorem tailRest_eq (R : Nat → List AV → Option Res) (N : Nat) (s1 : List UInt8) : runF gl R N tailRest [AV.bytes s1] = tailRestr R N s1 := by
  kernel_rfl
theorem tailRest_fit : fitF Tryd.prog tailRest Tryd.f24 = true := by
  kernel_rfl

def tailComment_c0 : AC := .seq (.region [.op (some 2) none (.mv (.k (AV.int .i64 0))), .op (some 3) none (.mv (.k (AV.bool false)))]) (.seq (.region [.op (some 4) none (.mv (.t 0)), .op (some 5) none (.len (.t 4) false), .op (some 6) none (.mv (.t 0)), .op (some 7) none (.call id_tailRest [.t 6] (.bytes)), .op (some 8) none (.len (.t 7) false), .op (some 9) none (.bin .sub (.t 5) (.t 8)), .op (some 2) none (.mv (.t 9))]) (.seq (.seq (.region [.op (some 10) none (.mv (.t 2)), .op (some 11) none (.bin .eql (.t 10) (.k (AV.int .i64 0))), .op (some 12) none (.mv (.t 11)), .split 12, .op (some 13) (some (12, false)) (.mv (.t 2)), .op (some 14) (some (12, false)) (.mv (.t 0)), .op (some 15) (some (12, false)) (.len (.t 14) false), .op (some 16) (some (12, false)) (.bin .eql (.t 13) (.t 15)), .op (some 17) none (.pick (.t 12) (.k (AV.bool true)) (.t 16)), .op (some 18) none (.mv (.t 17)), .split 18, .op (some 19) (some (18, false)) (.mv (.t 0)), .op (some 20) (some (18, false)) (.mv (.t 2)), .op (some 21) (some (18, false)) (.iaddr (.t 19) (.t 20) 1 (.int .u8)), .op (some 22) (some (18, false)) (.load (.t 21) none (.int .u8)), .op (some 23) (some (18, false)) (.bin .neq (.t 22) (.k (AV.int .u8 35))), .op (some 24) none (.pick (.t 18) (.k (AV.bool true)) (.t 23))]) (.cond (.t 24) (.seq (.region [.op (some 2) none (.mv (.k (AV.int .i64 0))), .op (some 3) none (.mv (.k (AV.bool false)))]) (.ret [2, 3] [])) (.skip))) (.seq (.region [.op (some 25) none (.mv (.t 2)), .op (some 2) none (.mv (.t 25)), .op (some 3) none (.mv (.k (AV.bool true)))]) (.ret [2, 3] []))))
def tailComment : AFunc := ⟨1, 26, [.tmp 2, .tmp 3], tailComment_c0⟩
def tailCommentr (R : Nat → List AV → Option Res) (N : Nat) (s1 : List UInt8) : Option Res :=
  (R id_tailRest [AV.bytes s1]).bind fun r1 =>
  asY r1.v fun s2 =>
  bif ((IntKind.i64.wrap (((s1.length : Nat) : Int) - ((s2.length : Nat) : Int))) : Int) == 0 then
    (some ⟨AV.tup [AV.int .i64 0, AV.bool false], false, []⟩)
  else
    bif ((IntKind.i64.wrap (((s1.length : Nat) : Int) - ((s2.length : Nat) : Int))) : Int) == ((s1.length : Nat) : Int) then
      (some ⟨AV.tup [AV.int .i64 0, AV.bool false], false, []⟩)
    else
      need (decide (0 ≤ (IntKind.i64.wrap (((s1.length : Nat) : Int) - ((s2.length : Nat) : Int)) : Int))) <|
      (s1[Int.toNat (IntKind.i64.wrap (((s1.length : Nat) : Int) - ((s2.length : Nat) : Int)))]?).bind fun c1 =>
      bif ((c1.toNat : Int) : Int) != 35 then
        (some ⟨AV.tup [AV.int .i64 0, AV.bool false], false, []⟩)
      else
        some ⟨AV.tup [AV.int .i64 (IntKind.i64.wrap (((s1.length : Nat) : Int) - ((s2.length : Nat) : Int))), AV.bool true], false, []⟩
theorem tailComment_eq (R : Nat → List AV → Option Res) (N : Nat) (s1 : List UInt8) : runF gl R N tailComment [AV.bytes s1] = tailCommentr R N s1 := by
  kernel_rfl
theorem tailComment_fit : fitF Tryd.prog tailComment Tryd.f27 = true := by
  kernel_rfl

def tailClear_c0 : AC := .seq (.region [.op (some 2) none (.mv (.k (AV.bool false)))]) (.seq (.region [.op (some 6) none (.mv (.t 0)), .op (some 7) none (.call id_tailComment [.t 6] (.tup [.int .i64, .bool])), .op (some 5) none (.mv (.t 7)), .op (some 8) none (.extract (.t 5) 0), .op (some 9) none (.extract (.t 5) 1), .op (some 3) none (.mv (.t 8)), .op (some 4) none (.mv (.t 9))]) (.seq (.region [.op (some 10) none (.mv (.t 4)), .op (some 11) none (.mv (.t 10)), .split 11, .op (some 12) (some (11, false)) (.mv (.t 0)), .op (some 13) (some (11, false)) (.call id_tailRest [.t 12] (.bytes)), .op (some 14) (some (11, false)) (.len (.t 13) false), .op (some 15) (some (11, false)) (.bin .eql (.t 14) (.k (AV.int .i64 0))), .op (some 16) none (.pick (.t 11) (.k (AV.bool true)) (.t 15)), .op (some 2) none (.mv (.t 16))]) (.ret [2] [])))
def tailClear : AFunc := ⟨1, 17, [.tmp 2], tailClear_c0⟩
def tailClearr (R : Nat → List AV → Option Res) (N : Nat) (s1 : List UInt8) : Option Res :=
  (R id_tailComment [AV.bytes s1]).bind fun r1 =>
  asIBT r1.v fun i1 b1 =>
  bif b1 then
    (some ⟨AV.bool true, false, []⟩)
  else
    (R id_tailRest [AV.bytes s1]).bind fun r2 =>
    asY r2.v fun s2 =>
    some ⟨AV.bool ((((s2.length : Nat) : Int) : Int) == 0), false, []⟩
theorem tailClear_eq (R : Nat → List AV → Option Res) (N : Nat) (s1 : List UInt8) : runF gl R N tailClear [AV.bytes s1] = tailClearr R N s1 := by
  kernel_rfl
theorem tailClear_fit : fitF Tryd.prog tailClear Tryd.f29 = true := by
  kernel_rfl

def bytesEqual_c0 : AC := .seq (.region [.op (some 4) none (.mv (.k (AV.bool false)))]) (.seq (.region [.op (some 5) none (.mv (.t 0)), .op (some 6) none (.cvStr (.t 5)), .op (some 7) none (.mv (.t 1)), .op (some 8) none (.cvStr (.t 7)), .op (some 9) none (.bin .eql (.t 6) (.t 8)), .op (some 4) none (.mv (.t 9))]) (.ret [4] []))
def bytesEqual : AFunc := ⟨2, 10, [.tmp 4], bytesEqual_c0⟩
def bytesEqualr (R : Nat → List AV → Option Res) (N : Nat) (s1 : List UInt8) (s2 : List UInt8) : Option Res :=
  some ⟨AV.bool (s1 == s2), false, []⟩
theorem bytesEqual_eq (R : Nat → List AV → Option Res) (N : Nat) (s1 : List UInt8) (s2 : List UInt8) : runF gl R N bytesEqual [AV.bytes s1, AV.bytes s2] = bytesEqualr R N s1 s2 := by
  kernel_rfl
theorem bytesEqual_fit : fitF Tryd.prog bytesEqual Tryd.f56 = true := by
  kernel_rfl

def bytesHasPrefix_c0 : AC := .seq (.region [.op (some 4) none (.mv (.k (AV.bool false)))]) (.seq (.region [.op (some 5) none (.mv (.t 0)), .op (some 6) none (.len (.t 5) false), .op (some 7) none (.mv (.t 1)), .op (some 8) none (.len (.t 7) false), .op (some 9) none (.bin .geq (.t 6) (.t 8)), .op (some 10) none (.mv (.t 9)), .split 10, .op (some 11) (some (10, true)) (.mv (.t 0)), .op (some 12) (some (10, true)) (.mv (.t 1)), .op (some 13) (some (10, true)) (.len (.t 12) false), .op (some 14) (some (10, true)) (.slice (.t 11) none (some (.t 13)) 1), .op (some 15) (some (10, true)) (.mv (.t 1)), .op (some 16) (some (10, true)) (.call id_bytesEqual [.t 14, .t 15] (.bool)), .op (some 17) none (.pick (.t 10) (.t 16) (.k (AV.bool false))), .op (some 4) none (.mv (.t 17))]) (.ret [4] []))
def bytesHasPrefix : AFunc := ⟨2, 18, [.tmp 4], bytesHasPrefix_c0⟩
def bytesHasPrefixr (R : Nat → List AV → Option Res) (N : Nat) (s1 : List UInt8) (s2 : List UInt8) : Option Res :=
  bif decide ((((s1.length : Nat) : Int) : Int) ≥ ((s2.length : Nat) : Int)) then
    (need (decide (0 ≤ (((s2.length : Nat) : Int) : Int)) && decide ((((s2.length : Nat) : Int) : Int) ≤ ((s1.length : Nat) : Int))) <|
    (R id_bytesEqual [AV.bytes ((s1.take (Int.toNat ((s2.length : Nat) : Int))).drop 0), AV.bytes s2]).bind fun r1 =>
    asB r1.v fun b1 =>
    some ⟨AV.bool b1, false, []⟩)
  else
    some ⟨AV.bool false, false, []⟩
theorem bytesHasPrefix_eq (R : Nat → List AV → Option Res) (N : Nat) (s1 : List UInt8) (s2 : List UInt8) : runF gl R N bytesHasPrefix [AV.bytes s1, AV.bytes s2] = bytesHasPrefixr R N s1 s2 := by
  kernel_rfl
theorem bytesHasPrefix_fit : fitF Tryd.prog bytesHasPrefix Tryd.f49 = true := by
  kernel_rfl

def bytesCutPrefix_c0 : AC := .seq (.region [.op (some 4) none (.mv (.k (AV.bytes []))), .op (some 5) none (.mv (.k (AV.bool false)))]) (.seq (.seq (.region [.op (some 6) none (.mv (.t 0)), .op (some 7) none (.mv (.t 1)), .op (some 8) none (.call id_bytesHasPrefix [.t 6, .t 7] (.bool)), .op (some 9) none (.un .not (.t 8))]) (.cond (.t 9) (.seq (.region [.op (some 10) none (.mv (.t 0)), .op (some 4) none (.mv (.t 10)), .op (some 5) none (.mv (.k (AV.bool false)))]) (.ret [4, 5] [])) (.skip))) (.seq (.region [.op (some 11) none (.mv (.t 0)), .op (some 12) none (.mv (.t 1)), .op (some 13) none (.len (.t 12) false), .op (some 14) none (.slice (.t 11) (some (.t 13)) none 1), .op (some 4) none (.mv (.t 14)), .op (some 5) none (.mv (.k (AV.bool true)))]) (.ret [4, 5] [])))
def bytesCutPrefix : AFunc := ⟨2, 15, [.tmp 4, .tmp 5], bytesCutPrefix_c0⟩
def bytesCutPrefixr (R : Nat → List AV → Option Res) (N : Nat) (s1 : List UInt8) (s2 : List UInt8) : Option Res :=
  (R id_bytesHasPrefix [AV.bytes s1, AV.bytes s2]).bind fun r1 =>
  asB r1.v fun b1 =>
  bif !b1 then
    (some ⟨AV.tup [AV.bytes s1, AV.bool false], false, []⟩)
  else
    need (decide (0 ≤ (((s2.length : Nat) : Int) : Int)) && decide ((((s2.length : Nat) : Int) : Int) ≤ ((s1.length : Nat) : Int))) <|
    some ⟨AV.tup [AV.bytes ((s1.take s1.length).drop (Int.toNat ((s2.length : Nat) : Int))), AV.bool true], false, []⟩
theorem bytesCutPrefix_eq (R : Nat → List AV → Option Res) (N : Nat) (s1 : List UInt8) (s2 : List UInt8) : runF gl R N bytesCutPrefix [AV.bytes s1, AV.bytes s2] = bytesCutPrefixr R N s1 s2 := by
  kernel_rfl
theorem bytesCutPrefix_fit : fitF Tryd.prog bytesCutPrefix Tryd.f40 = true := by
  kernel_rfl

def tailMarker_L1s (R : Nat → List AV → Option Res) (N : Nat) (go : List UInt8 → List AV → Int → Int → Option Res) (k0 : Int → Option Res) (k1 : Option Res) (s2 : List UInt8) (l1 : List AV) (i1 : Int) (i2 : Int) : Option Res :=
  bif decide ((i2 : Int) < i1) then
    (need (decide (0 ≤ (i2 : Int))) <|
    (l1[Int.toNat i2]?).bind fun e1 =>
    asS e1 fun s3 =>
    (R id_bytesCutPrefix [AV.bytes s2, AV.bytes s3]).bind fun r1 =>
    asYBT r1.v fun s4 b1 =>
    bif s3 == ([] : List UInt8) then
      (go s2 l1 i1 (IntKind.i64.wrap (i2 + 1)))
    else
      bif !b1 then
        (go s2 l1 i1 (IntKind.i64.wrap (i2 + 1)))
      else
        (R id_tailClear [AV.bytes s4]).bind fun r2 =>
        asB r2.v fun b2 =>
        bif b2 then
          (k0 i2)
        else
          need (decide (0 ≤ (0 : Int))) <|
          (s4[Int.toNat 0]?).bind fun c1 =>
          bif ((c1.toNat : Int) : Int) == 32 then
            (k0 3)
          else
            need (decide (0 ≤ (0 : Int))) <|
            (s4[Int.toNat 0]?).bind fun c2 =>
            bif ((c2.toNat : Int) : Int) == 9 then
              (k0 3)
            else
              go s2 l1 i1 (IntKind.i64.wrap (i2 + 1)))
  else
    k1
def tailMarker_L1 (R : Nat → List AV → Option Res) (N : Nat) (k0 : Int → Option Res) (k1 : Option Res) : Nat → List UInt8 → List AV → Int → Int → Option Res
  | 0, _, _, _, _ => none
  | n + 1, s2, l1, i1, i2 => tailMarker_L1s R N (tailMarker_L1 R N k0 k1 n) k0 k1 s2 l1 i1 i2
def tailMarker_c0 : AC := .seq (.region [.op (some 10) none (.bin .lss (.t 9) (.t 8))]) (.seq (.cond (.t 10) (.skip) (.exit 0 [] [])) (.seq (.block 1 (.seq (.region [.op (some 11) none (.mv (.t 9)), .op (some 12) none (.iaddr (.t 7) (.t 9) 1 (.str)), .op (some 13) none (.load (.t 12) none (.str)), .op (some 3) none (.mv (.t 11)), .op (some 4) none (.mv (.t 13))]) (.seq (.region [.op (some 15) none (.mv (.t 0)), .op (some 16) none (.mv (.t 4)), .op (some 17) none (.cvBytes (.t 16)), .op (some 18) none (.call id_bytesCutPrefix [.t 15, .t 17] (.tup [.bytes, .bool])), .op (some 14) none (.mv (.t 18)), .op (some 19) none (.extract (.t 14) 0), .op (some 20) none (.extract (.t 14) 1), .op (some 5) none (.mv (.t 19)), .op (some 6) none (.mv (.t 20))]) (.seq (.seq (.region [.op (some 21) none (.mv (.t 4)), .op (some 22) none (.bin .eql (.t 21) (.k (AV.str ([] : List UInt8)))), .op (some 23) none (.mv (.t 22)), .split 23, .op (some 24) (some (23, false)) (.mv (.t 6)), .op (some 25) (some (23, false)) (.un .not (.t 24)), .op (some 26) none (.pick (.t 23) (.k (AV.bool true)) (.t 25))]) (.cond (.t 26) (.exit 1 [0, 7, 8, 9] []) (.skip))) (.seq (.seq (.region [.op (some 27) none (.mv (.t 5)), .op (some 28) none (.call id_tailClear [.t 27] (.bool))]) (.cond (.t 28) (.seq (.region [.op (some 29) none (.mv (.t 3)), .op (some 2) none (.mv (.t 29))]) (.ret [2] [])) (.skip))) (.seq (.region [.op (some 30) none (.mv (.t 5)), .op (some 31) none (.iaddr (.t 30) (.k (AV.int .i64 0)) 1 (.int .u8)), .op (some 32) none (.load (.t 31) none (.int .u8)), .op (some 33) none (.bin .eql (.t 32) (.k (AV.int .u8 32))), .op (some 34) none (.mv (.t 33)), .split 34, .op (some 35) (some (34, false)) (.mv (.t 5)), .op (some 36) (some (34, false)) (.iaddr (.t 35) (.k (AV.int .i64 0)) 1 (.int .u8)), .op (some 37) (some (34, false)) (.load (.t 36) none (.int .u8)), .op (some 38) (some (34, false)) (.bin .eql (.t 37) (.k (AV.int .u8 9))), .op (some 39) none (.pick (.t 34) (.k (AV.bool true)) (.t 38))]) (.cond (.t 39) (.seq (.region [.op (some 2) none (.mv (.k (AV.int .i64 3)))]) (.ret [2] [])) (.skip)))))))) (.region [.op (some 40) none (.bin .add (.t 9) (.k (AV.int .i64 1))), .op (some 9) none (.mv (.t 40))])))
theorem tailMarker_L1s_eq (R : Nat → List AV → Option Res) (N : Nat) (K : Ex → St → Option Res) (W : St → Option Res) (s2 : List UInt8) (l1 : List AV) (i1 : Int) (i2 : Int) :
    evC gl R N tailMarker_c0 (Kseq (fun st' => W (prune [0, 7, 8, 9] [] st')) K) ⟨[(0, .imm (AV.bytes s2)), (7, .imm (AV.row 1 l1)), (8, .imm (AV.int .i64 i1)), (9, .imm (AV.int .i64 i2))], []⟩ =
    tailMarker_L1s R N (fun (s2 : List UInt8) (l1 : List AV) (i1 : Int) (i2 : Int) => W ⟨[(0, .imm (AV.bytes s2)), (7, .imm (AV.row 1 l1)), (8, .imm (AV.int .i64 i1)), (9, .imm (AV.int .i64 i2))], []⟩) (fun (i3 : Int) => K .ret ⟨[(2, .imm (AV.int .i64 i3))], []⟩) (K (.exit 0) ⟨[], []⟩) s2 l1 i1 i2 := by
  kernel_rfl
theorem tailMarker_L1_eq (R : Nat → List AV → Option Res) (N : Nat) (K : Ex → St → Option Res) : ∀ (n : Nat) (s2 : List UInt8) (l1 : List AV) (i1 : Int) (i2 : Int),
    rounds [0, 7, 8, 9] [] (evC gl R N tailMarker_c0) K n ⟨[(0, .imm (AV.bytes s2)), (7, .imm (AV.row 1 l1)), (8, .imm (AV.int .i64 i1)), (9, .imm (AV.int .i64 i2))], []⟩ = tailMarker_L1 R N (fun (i3 : Int) => K .ret ⟨[(2, .imm (AV.int .i64 i3))], []⟩) (K (.exit 0) ⟨[], []⟩) n s2 l1 i1 i2
  | 0, _, _, _, _ => rfl
  | n + 1, s2, l1, i1, i2 => (tailMarker_L1s_eq R N K (rounds [0, 7, 8, 9] [] (evC gl R N tailMarker_c0) K n) s2 l1 i1 i2).trans
      (congrArg (fun go => tailMarker_L1s R N go (fun (i3 : Int) => K .ret ⟨[(2, .imm (AV.int .i64 i3))], []⟩) (K (.exit 0) ⟨[], []⟩) s2 l1 i1 i2) (funext fun s2 => funext fun l1 => funext fun i1 => funext fun i2 => tailMarker_L1_eq R N K n s2 l1 i1 i2))
def tailMarker_c1 : AC := .seq (.region [.op (some 2) none (.mv (.k (AV.int .i64 0)))]) (.ret [2] [])
def tailMarker_c2 : AC := .seq (.region [.op (some 2) none (.mv (.k (AV.int .i64 0)))]) (.seq (.seq (.region [.op (some 7) none (.bsliceG (AV.str []) [none, some (.k (AV.str ([45, 45, 45] : List UInt8))), some (.k (AV.str ([46, 46, 46] : List UInt8)))] 1), .op (some 8) none (.len (.t 7) false), .op (some 9) none (.mv (.k (AV.int .i64 0)))]) (.block 0 (.loop [0, 7, 8, 9] [] (tailMarker_c0)))) (tailMarker_c1))
def tailMarker : AFunc := ⟨1, 41, [.tmp 2], tailMarker_c2⟩
def tailMarkerr (R : Nat → List AV → Option Res) (N : Nat) (s1 : List UInt8) : Option Res :=
  tailMarker_L1 R N
    (fun i5 =>
      some ⟨AV.int .i64 i5, false, []⟩)
    (
      some ⟨AV.int .i64 0, false, []⟩)
    N s1 [AV.str [], AV.str ([45, 45, 45] : List UInt8), AV.str ([46, 46, 46] : List UInt8)] (([AV.str [], AV.str ([45, 45, 45] : List UInt8), AV.str ([46, 46, 46] : List UInt8)].length : Nat) : Int) 0
theorem tailMarker_eq (R : Nat → List AV → Option Res) (N : Nat) (s1 : List UInt8) : runF gl R N tailMarker [AV.bytes s1] = tailMarkerr R N s1 := by
  refine Eq.trans (b :=
      rounds [0, 7, 8, 9] [] (evC gl R N tailMarker_c0) (Kblock 0 (Kthen gl R N tailMarker_c1 (Kret tailMarker.rets []))) N ⟨[(0, .imm (AV.bytes s1)), (7, .imm (AV.row 1 [AV.str [], AV.str ([45, 45, 45] : List UInt8), AV.str ([46, 46, 46] : List UInt8)])), (8, .imm (AV.int .i64 (([AV.str [], AV.str ([45, 45, 45] : List UInt8), AV.str ([46, 46, 46] : List UInt8)].length : Nat) : Int))), (9, .imm (AV.int .i64 0))], []⟩) (by kernel_rfl) ?_
  simp (config := { maxSteps := 100000000 }) only [tailMarker_L1_eq]
  kernel_rfl
theorem tailMarker_fit : fitF Tryd.prog tailMarker Tryd.f22 = true := by
  kernel_rfl

def law11Wakes_c0 : AC := .seq (.region [.op (some 0) none (.mv (.k (AV.bool false)))]) (.seq (.region [.op (some 1) none (.bsliceOwn 1 [.k (AV.int .u8 45), .k (AV.int .u8 45), .k (AV.int .u8 45), .k (AV.int .u8 32), .k (AV.int .u8 35), .k (AV.int .u8 32), .k (AV.int .u8 120)] 1 .any true), .op (some 2) none (.cvSame (.t 1)), .op (some 3) none (.call id_tailMarker [.t 2] (.int .i64)), .op (some 4) none (.bin .eql (.t 3) (.k (AV.int .i64 1))), .op (some 0) none (.mv (.t 4))]) (.ret [0] []))
def law11Wakes : AFunc := ⟨0, 5, [.tmp 0], law11Wakes_c0⟩
def law11Wakesr (R : Nat → List AV → Option Res) (N : Nat) : Option Res :=
  (R id_tailMarker [AV.bytes ((([45, 45, 45, 32, 35, 32, 120] : List UInt8).drop 0).take 7)]).bind fun r1 =>
  asI .i64 r1.v fun i1 =>
  some ⟨AV.bool ((i1 : Int) == 1), false, []⟩
theorem law11Wakes_eq (R : Nat → List AV → Option Res) (N : Nat) : runF gl R N law11Wakes [] = law11Wakesr R N := by
  kernel_rfl
theorem law11Wakes_fit : fitF Tryd.prog law11Wakes Tryd.f23 = true := by
  kernel_rfl

def law11TailMarkers_L1s (R : Nat → List AV → Option Res) (N : Nat) (go : List UInt8 → Int → List UInt8 → List UInt8 → List UInt8 → Int → Int → Option Res) (k0 : List UInt8 → Int → List UInt8 → List UInt8 → Option Res) (s3 : List UInt8) (i3 : Int) (s4 : List UInt8) (s5 : List UInt8) (s6 : List UInt8) (i4 : Int) (i5 : Int) : Option Res :=
  bif decide ((i5 : Int) < i4) then
    (need (decide (0 ≤ (i5 : Int))) <|
    (s6[Int.toNat i5]?).bind fun c1 =>
    bif ((c1.toNat : Int) : Int) != 10 then
      (bif ((c1.toNat : Int) : Int) != 13 then
        (need (decide (0 ≤ ((c1.toNat : Int) : Int)) && decide (((c1.toNat : Int) : Int) < 256)) <|
        need (decide (s5.length + ([UInt8.ofNat (Int.toNat (c1.toNat : Int))] : List UInt8).length ≤ 9223372036854775807)) <|
        go s3 i3 s4 (s5 ++ [UInt8.ofNat (Int.toNat (c1.toNat : Int))]) s6 i4 (IntKind.i64.wrap (i5 + 1)))
      else
        go s3 i3 s4 s5 s6 i4 (IntKind.i64.wrap (i5 + 1)))
    else
      go s3 i3 s4 s5 s6 i4 (IntKind.i64.wrap (i5 + 1)))
  else
    k0 s3 i3 s4 s5
def law11TailMarkers_L1 (R : Nat → List AV → Option Res) (N : Nat) (k0 : List UInt8 → Int → List UInt8 → List UInt8 → Option Res) : Nat → List UInt8 → Int → List UInt8 → List UInt8 → List UInt8 → Int → Int → Option Res
  | 0, _, _, _, _, _, _, _ => none
  | n + 1, s3, i3, s4, s5, s6, i4, i5 => law11TailMarkers_L1s R N (law11TailMarkers_L1 R N k0 n) k0 s3 i3 s4 s5 s6 i4 i5
def law11TailMarkers_c0 : AC := .seq (.region [.op (some 23) none (.bin .lss (.t 22) (.t 21))]) (.seq (.cond (.t 23) (.skip) (.exit 0 [7, 8, 9, 10] [])) (.seq (.block 1 (.seq (.region [.op (some 24) none (.iaddr (.t 20) (.t 22) 1 (.int .u8)), .op (some 25) none (.load (.t 24) none (.int .u8)), .op (some 12) none (.mv (.t 25))]) (.seq (.region [.op (some 26) none (.mv (.t 12)), .op (some 27) none (.bin .neq (.t 26) (.k (AV.int .u8 10))), .op (some 28) none (.mv (.t 27)), .split 28, .op (some 29) (some (28, true)) (.mv (.t 12)), .op (some 30) (some (28, true)) (.bin .neq (.t 29) (.k (AV.int .u8 13))), .op (some 31) none (.pick (.t 28) (.t 30) (.k (AV.bool false)))]) (.cond (.t 31) (.region [.op (some 32) none (.mv (.t 10)), .op (some 33) none (.mv (.t 12)), .op (some 34) none (.bslice [.t 33] 1 true), .op (some 35) none (.cvStr (.t 34)), .op (some 36) none (.bin .add (.t 32) (.t 35)), .op (some 10) none (.mv (.t 36))]) (.skip))))) (.region [.op (some 37) none (.bin .add (.t 22) (.k (AV.int .i64 1))), .op (some 22) none (.mv (.t 37))])))
theorem law11TailMarkers_L1s_eq (R : Nat → List AV → Option Res) (N : Nat) (K : Ex → St → Option Res) (W : St → Option Res) (s3 : List UInt8) (i3 : Int) (s4 : List UInt8) (s5 : List UInt8) (s6 : List UInt8) (i4 : Int) (i5 : Int) :
    evC gl R N law11TailMarkers_c0 (Kseq (fun st' => W (prune [7, 8, 9, 10, 20, 21, 22] [] st')) K) ⟨[(7, .imm (AV.str s3)), (8, .imm (AV.int .i64 i3)), (9, .imm (AV.str s4)), (10, .imm (AV.str s5)), (20, .imm (AV.bytes s6)), (21, .imm (AV.int .i64 i4)), (22, .imm (AV.int .i64 i5))], []⟩ =
    law11TailMarkers_L1s R N (fun (s3 : List UInt8) (i3 : Int) (s4 : List UInt8) (s5 : List UInt8) (s6 : List UInt8) (i4 : Int) (i5 : Int) => W ⟨[(7, .imm (AV.str s3)), (8, .imm (AV.int .i64 i3)), (9, .imm (AV.str s4)), (10, .imm (AV.str s5)), (20, .imm (AV.bytes s6)), (21, .imm (AV.int .i64 i4)), (22, .imm (AV.int .i64 i5))], []⟩) (fun (s7 : List UInt8) (i6 : Int) (s8 : List UInt8) (s9 : List UInt8) => K (.exit 0) ⟨[(7, .imm (AV.str s7)), (8, .imm (AV.int .i64 i6)), (9, .imm (AV.str s8)), (10, .imm (AV.str s9))], []⟩) s3 i3 s4 s5 s6 i4 i5 := by
  kernel_rfl
theorem law11TailMarkers_L1_eq (R : Nat → List AV → Option Res) (N : Nat) (K : Ex → St → Option Res) : ∀ (n : Nat) (s3 : List UInt8) (i3 : Int) (s4 : List UInt8) (s5 : List UInt8) (s6 : List UInt8) (i4 : Int) (i5 : Int),
    rounds [7, 8, 9, 10, 20, 21, 22] [] (evC gl R N law11TailMarkers_c0) K n ⟨[(7, .imm (AV.str s3)), (8, .imm (AV.int .i64 i3)), (9, .imm (AV.str s4)), (10, .imm (AV.str s5)), (20, .imm (AV.bytes s6)), (21, .imm (AV.int .i64 i4)), (22, .imm (AV.int .i64 i5))], []⟩ = law11TailMarkers_L1 R N (fun (s7 : List UInt8) (i6 : Int) (s8 : List UInt8) (s9 : List UInt8) => K (.exit 0) ⟨[(7, .imm (AV.str s7)), (8, .imm (AV.int .i64 i6)), (9, .imm (AV.str s8)), (10, .imm (AV.str s9))], []⟩) n s3 i3 s4 s5 s6 i4 i5
  | 0, _, _, _, _, _, _, _ => rfl
  | n + 1, s3, i3, s4, s5, s6, i4, i5 => (law11TailMarkers_L1s_eq R N K (rounds [7, 8, 9, 10, 20, 21, 22] [] (evC gl R N law11TailMarkers_c0) K n) s3 i3 s4 s5 s6 i4 i5).trans
      (congrArg (fun go => law11TailMarkers_L1s R N go (fun (s7 : List UInt8) (i6 : Int) (s8 : List UInt8) (s9 : List UInt8) => K (.exit 0) ⟨[(7, .imm (AV.str s7)), (8, .imm (AV.int .i64 i6)), (9, .imm (AV.str s8)), (10, .imm (AV.str s9))], []⟩) s3 i3 s4 s5 s6 i4 i5) (funext fun s3 => funext fun i3 => funext fun s4 => funext fun s5 => funext fun s6 => funext fun i4 => funext fun i5 => law11TailMarkers_L1_eq R N K n s3 i3 s4 s5 s6 i4 i5))
def law11TailMarkers_c1 : AC := .seq (.region [.op (some 38) none (.mv (.t 7)), .op (some 39) none (.cvBytes (.t 38)), .op (some 40) none (.call id_tailMarker [.t 39] (.int .i64)), .op (some 41) none (.mv (.t 8)), .op (some 42) none (.bin .eql (.t 40) (.t 41)), .op (some 43) none (.mv (.t 42)), .split 43, .op (some 44) (some (43, true)) (.mv (.t 7)), .op (some 45) (some (43, true)) (.mv (.t 9)), .op (some 46) (some (43, true)) (.bin .add (.t 44) (.t 45)), .op (some 47) (some (43, true)) (.cvBytes (.t 46)), .op (some 48) (some (43, true)) (.call id_tailMarker [.t 47] (.int .i64)), .op (some 49) (some (43, true)) (.mv (.t 8)), .op (some 50) (some (43, true)) (.bin .eql (.t 48) (.t 49)), .op (some 51) none (.pick (.t 43) (.t 50) (.k (AV.bool false))), .op (some 52) none (.mv (.t 51)), .split 52, .op (some 53) (some (52, true)) (.mv (.t 7)), .op (some 54) (some (52, true)) (.bin .add (.t 53) (.k (AV.str ([32] : List UInt8)))), .op (some 55) (some (52, true)) (.mv (.t 9)), .op (some 56) (some (52, true)) (.bin .add (.t 54) (.t 55)), .op (some 57) (some (52, true)) (.mv (.t 10)), .op (some 58) (some (52, true)) (.bin .add (.t 56) (.t 57)), .op (some 59) (some (52, true)) (.cvBytes (.t 58)), .op (some 60) (some (52, true)) (.call id_tailMarker [.t 59] (.int .i64)), .op (some 61) (some (52, true)) (.mv (.t 8)), .op (some 62) (some (52, true)) (.bin .eql (.t 60) (.t 61)), .op (some 63) none (.pick (.t 52) (.t 62) (.k (AV.bool false))), .op (some 64) none (.mv (.t 63)), .split 64, .op (some 65) (some (64, true)) (.mv (.t 7)), .op (some 66) (some (64, true)) (.mv (.t 10)), .op (some 67) (some (64, true)) (.bin .add (.t 65) (.t 66)), .op (some 68) (some (64, true)) (.cvBytes (.t 67)), .op (some 69) (some (64, true)) (.call id_tailMarker [.t 68] (.int .i64)), .op (some 70) (some (64, true)) (.bin .eql (.t 69) (.k (AV.int .i64 0))), .op (some 71) none (.pick (.t 64) (.t 70) (.k (AV.bool false))), .op (some 72) none (.mv (.t 71)), .split 72, .op (some 73) (some (72, true)) (.mv (.t 7)), .op (some 74) (some (72, true)) (.bin .add (.t 73) (.k (AV.str ([32] : List UInt8)))), .op (some 75) (some (72, true)) (.mv (.t 9)), .op (some 76) (some (72, true)) (.bin .add (.t 74) (.t 75)), .op (some 77) (some (72, true)) (.bin .add (.t 76) (.k (AV.str ([120] : List UInt8)))), .op (some 78) (some (72, true)) (.cvBytes (.t 77)), .op (some 79) (some (72, true)) (.call id_tailMarker [.t 78] (.int .i64)), .op (some 80) (some (72, true)) (.bin .eql (.t 79) (.k (AV.int .i64 3))), .op (some 81) none (.pick (.t 72) (.t 80) (.k (AV.bool false))), .op (some 82) none (.mv (.t 81)), .split 82, .op (some 83) (some (82, true)) (.mv (.t 7)), .op (some 84) (some (82, true)) (.bin .add (.t 83) (.k (AV.str ([9] : List UInt8)))), .op (some 85) (some (82, true)) (.cvBytes (.t 84)), .op (some 86) (some (82, true)) (.call id_tailMarker [.t 85] (.int .i64)), .op (some 87) (some (82, true)) (.bin .eql (.t 86) (.k (AV.int .i64 3))), .op (some 88) none (.pick (.t 82) (.t 87) (.k (AV.bool false))), .op (some 89) none (.mv (.t 88)), .split 89, .op (some 90) (some (89, true)) (.mv (.t 7)), .op (some 91) (some (89, true)) (.sliceS (.t 90) none (some (.k (AV.int .i64 2)))), .op (some 92) (some (89, true)) (.cvBytes (.t 91)), .op (some 93) (some (89, true)) (.call id_tailMarker [.t 92] (.int .i64)), .op (some 94) (some (89, true)) (.bin .eql (.t 93) (.k (AV.int .i64 0))), .op (some 95) none (.pick (.t 89) (.t 94) (.k (AV.bool false))), .op (some 96) none (.mv (.t 95)), .split 96, .op (some 97) (some (96, true)) (.mv (.t 7)), .op (some 98) (some (96, true)) (.sliceS (.t 97) none (some (.k (AV.int .i64 2)))), .op (some 99) (some (96, true)) (.bin .add (.k (AV.str ([45] : List UInt8))) (.t 98)), .op (some 100) (some (96, true)) (.bin .add (.t 99) (.k (AV.str ([120] : List UInt8)))), .op (some 101) (some (96, true)) (.cvBytes (.t 100)), .op (some 102) (some (96, true)) (.call id_tailMarker [.t 101] (.int .i64)), .op (some 103) (some (96, true)) (.bin .eql (.t 102) (.k (AV.int .i64 0))), .op (some 104) none (.pick (.t 96) (.t 103) (.k (AV.bool false))), .op (some 105) none (.mv (.t 104)), .split 105, .op (some 106) (some (105, true)) (.call id_law11Wakes [] (.bool)), .op (some 107) none (.pick (.t 105) (.t 106) (.k (AV.bool false))), .op (some 6) none (.mv (.t 107))]) (.ret [6] [])
def law11TailMarkers_c2 : AC := .seq (.region [.op (some 6) none (.mv (.k (AV.bool false)))]) (.seq (.region [.op (some 7) none (.mv (.k (AV.str ([45, 45, 45] : List UInt8)))), .op (some 8) none (.mv (.k (AV.int .i64 1)))]) (.seq (.seq (.region [.op (some 13) none (.mv (.t 2))]) (.cond (.t 13) (.region [.op (some 7) none (.mv (.k (AV.str ([46, 46, 46] : List UInt8)))), .op (some 8) none (.mv (.k (AV.int .i64 2)))]) (.skip))) (.seq (.region [.op (some 14) none (.mv (.t 0)), .op (some 15) none (.call id_keepWithin [.t 14, .k (AV.int .i64 6)] (.int .i64)), .op (some 16) none (.sliceS (.k (AV.str ([32, 32, 32, 32, 32, 32] : List UInt8))) none (some (.t 15))), .op (some 9) none (.mv (.t 16))]) (.seq (.region [.op (some 17) none (.mv (.t 1)), .op (some 18) none (.call id_keepText [.t 17, .k (AV.int .i64 12)] (.str)), .op (some 1) none (.mv (.t 18))]) (.seq (.region [.op (some 10) none (.mv (.k (AV.str ([35, 32] : List UInt8))))]) (.seq (.seq (.region [.op (some 19) none (.mv (.t 1)), .op (some 20) none (.cvBytes (.t 19)), .op (some 21) none (.len (.t 20) false), .op (some 22) none (.mv (.k (AV.int .i64 0)))]) (.block 0 (.loop [7, 8, 9, 10, 20, 21, 22] [] (law11TailMarkers_c0)))) (law11TailMarkers_c1)))))))
def law11TailMarkers : AFunc := ⟨3, 108, [.tmp 6], law11TailMarkers_c2⟩
def law11TailMarkersr (R : Nat → List AV → Option Res) (N : Nat) (i1 : Int) (s1 : List UInt8) (b1 : Bool) : Option Res :=
  bif b1 then
    ((R id_keepWithin [AV.int .i64 i1, AV.int .i64 6]).bind fun r1 =>
    asI .i64 r1.v fun i2 =>
    need (decide (0 ≤ (i2 : Int)) && decide ((i2 : Int) ≤ (((([32, 32, 32, 32, 32, 32] : List UInt8) : List UInt8).length : Nat) : Int))) <|
    (R id_keepText [AV.str s1, AV.int .i64 12]).bind fun r2 =>
    asS r2.v fun s2 =>
    law11TailMarkers_L1 R N
      (fun s13 i8 s14 s15 =>
        (R id_tailMarker [AV.bytes s13]).bind fun r3 =>
        asI .i64 r3.v fun i9 =>
        bif (i9 : Int) == i8 then
          (need (decide (s13.length + s14.length ≤ 9223372036854775807)) <|
          (R id_tailMarker [AV.bytes (s13 ++ s14)]).bind fun r4 =>
          asI .i64 r4.v fun i10 =>
          bif (i10 : Int) == i8 then
            (need (decide (s13.length + (([32] : List UInt8) : List UInt8).length ≤ 9223372036854775807)) <|
            need (decide ((s13 ++ ([32] : List UInt8)).length + s14.length ≤ 9223372036854775807)) <|
            need (decide (((s13 ++ ([32] : List UInt8)) ++ s14).length + s15.length ≤ 9223372036854775807)) <|
            (R id_tailMarker [AV.bytes (((s13 ++ ([32] : List UInt8)) ++ s14) ++ s15)]).bind fun r5 =>
            asI .i64 r5.v fun i11 =>
            bif (i11 : Int) == i8 then
              (need (decide (s13.length + s15.length ≤ 9223372036854775807)) <|
              (R id_tailMarker [AV.bytes (s13 ++ s15)]).bind fun r6 =>
              asI .i64 r6.v fun i12 =>
              bif (i12 : Int) == 0 then
                (need (decide (s13.length + (([32] : List UInt8) : List UInt8).length ≤ 9223372036854775807)) <|
                need (decide ((s13 ++ ([32] : List UInt8)).length + s14.length ≤ 9223372036854775807)) <|
                need (decide (((s13 ++ ([32] : List UInt8)) ++ s14).length + (([120] : List UInt8) : List UInt8).length ≤ 9223372036854775807)) <|
                (R id_tailMarker [AV.bytes (((s13 ++ ([32] : List UInt8)) ++ s14) ++ ([120] : List UInt8))]).bind fun r7 =>
                asI .i64 r7.v fun i13 =>
                bif (i13 : Int) == 3 then
                  (need (decide (s13.length + (([9] : List UInt8) : List UInt8).length ≤ 9223372036854775807)) <|
                  (R id_tailMarker [AV.bytes (s13 ++ ([9] : List UInt8))]).bind fun r8 =>
                  asI .i64 r8.v fun i14 =>
                  bif (i14 : Int) == 3 then
                    (need (decide (0 ≤ (2 : Int)) && decide ((2 : Int) ≤ ((s13.length : Nat) : Int))) <|
                    (R id_tailMarker [AV.bytes ((s13.take (Int.toNat 2)).drop 0)]).bind fun r9 =>
                    asI .i64 r9.v fun i15 =>
                    bif (i15 : Int) == 0 then
                      (need (decide (0 ≤ (2 : Int)) && decide ((2 : Int) ≤ ((s13.length : Nat) : Int))) <|
                      need (decide ((([45] : List UInt8) : List UInt8).length + ((s13.take (Int.toNat 2)).drop 0).length ≤ 9223372036854775807)) <|
                      need (decide ((([45] : List UInt8) ++ ((s13.take (Int.toNat 2)).drop 0) : List UInt8).length + (([120] : List UInt8) : List UInt8).length ≤ 9223372036854775807)) <|
                      (R id_tailMarker [AV.bytes ((([45] : List UInt8) ++ ((s13.take (Int.toNat 2)).drop 0)) ++ ([120] : List UInt8))]).bind fun r10 =>
                      asI .i64 r10.v fun i16 =>
                      bif (i16 : Int) == 0 then
                        ((R id_law11Wakes []).bind fun r11 =>
                        asB r11.v fun b2 =>
                        some ⟨AV.bool b2, false, []⟩)
                      else
                        some ⟨AV.bool false, false, []⟩)
                    else
                      some ⟨AV.bool false, false, []⟩)
                  else
                    some ⟨AV.bool false, false, []⟩)
                else
                  some ⟨AV.bool false, false, []⟩)
              else
                some ⟨AV.bool false, false, []⟩)
            else
              some ⟨AV.bool false, false, []⟩)
          else
            some ⟨AV.bool false, false, []⟩)
        else
          some ⟨AV.bool false, false, []⟩)
      N ([46, 46, 46] : List UInt8) 2 ((([32, 32, 32, 32, 32, 32] : List UInt8).take (Int.toNat i2)).drop 0) ([35, 32] : List UInt8) s2 ((s2.length : Nat) : Int) 0)
  else
    (R id_keepWithin [AV.int .i64 i1, AV.int .i64 6]).bind fun r12 =>
    asI .i64 r12.v fun i17 =>
    need (decide (0 ≤ (i17 : Int)) && decide ((i17 : Int) ≤ (((([32, 32, 32, 32, 32, 32] : List UInt8) : List UInt8).length : Nat) : Int))) <|
    (R id_keepText [AV.str s1, AV.int .i64 12]).bind fun r13 =>
    asS r13.v fun s16 =>
    law11TailMarkers_L1 R N
      (fun s17 i18 s18 s19 =>
        (R id_tailMarker [AV.bytes s17]).bind fun r14 =>
        asI .i64 r14.v fun i19 =>
        bif (i19 : Int) == i18 then
          (need (decide (s17.length + s18.length ≤ 9223372036854775807)) <|
          (R id_tailMarker [AV.bytes (s17 ++ s18)]).bind fun r15 =>
          asI .i64 r15.v fun i20 =>
          bif (i20 : Int) == i18 then
            (need (decide (s17.length + (([32] : List UInt8) : List UInt8).length ≤ 9223372036854775807)) <|
            need (decide ((s17 ++ ([32] : List UInt8)).length + s18.length ≤ 9223372036854775807)) <|
            need (decide (((s17 ++ ([32] : List UInt8)) ++ s18).length + s19.length ≤ 9223372036854775807)) <|
            (R id_tailMarker [AV.bytes (((s17 ++ ([32] : List UInt8)) ++ s18) ++ s19)]).bind fun r16 =>
            asI .i64 r16.v fun i21 =>
            bif (i21 : Int) == i18 then
              (need (decide (s17.length + s19.length ≤ 9223372036854775807)) <|
              (R id_tailMarker [AV.bytes (s17 ++ s19)]).bind fun r17 =>
              asI .i64 r17.v fun i22 =>
              bif (i22 : Int) == 0 then
                (need (decide (s17.length + (([32] : List UInt8) : List UInt8).length ≤ 9223372036854775807)) <|
                need (decide ((s17 ++ ([32] : List UInt8)).length + s18.length ≤ 9223372036854775807)) <|
                need (decide (((s17 ++ ([32] : List UInt8)) ++ s18).length + (([120] : List UInt8) : List UInt8).length ≤ 9223372036854775807)) <|
                (R id_tailMarker [AV.bytes (((s17 ++ ([32] : List UInt8)) ++ s18) ++ ([120] : List UInt8))]).bind fun r18 =>
                asI .i64 r18.v fun i23 =>
                bif (i23 : Int) == 3 then
                  (need (decide (s17.length + (([9] : List UInt8) : List UInt8).length ≤ 9223372036854775807)) <|
                  (R id_tailMarker [AV.bytes (s17 ++ ([9] : List UInt8))]).bind fun r19 =>
                  asI .i64 r19.v fun i24 =>
                  bif (i24 : Int) == 3 then
                    (need (decide (0 ≤ (2 : Int)) && decide ((2 : Int) ≤ ((s17.length : Nat) : Int))) <|
                    (R id_tailMarker [AV.bytes ((s17.take (Int.toNat 2)).drop 0)]).bind fun r20 =>
                    asI .i64 r20.v fun i25 =>
                    bif (i25 : Int) == 0 then
                      (need (decide (0 ≤ (2 : Int)) && decide ((2 : Int) ≤ ((s17.length : Nat) : Int))) <|
                      need (decide ((([45] : List UInt8) : List UInt8).length + ((s17.take (Int.toNat 2)).drop 0).length ≤ 9223372036854775807)) <|
                      need (decide ((([45] : List UInt8) ++ ((s17.take (Int.toNat 2)).drop 0) : List UInt8).length + (([120] : List UInt8) : List UInt8).length ≤ 9223372036854775807)) <|
                      (R id_tailMarker [AV.bytes ((([45] : List UInt8) ++ ((s17.take (Int.toNat 2)).drop 0)) ++ ([120] : List UInt8))]).bind fun r21 =>
                      asI .i64 r21.v fun i26 =>
                      bif (i26 : Int) == 0 then
                        ((R id_law11Wakes []).bind fun r22 =>
                        asB r22.v fun b3 =>
                        some ⟨AV.bool b3, false, []⟩)
                      else
                        some ⟨AV.bool false, false, []⟩)
                    else
                      some ⟨AV.bool false, false, []⟩)
                  else
                    some ⟨AV.bool false, false, []⟩)
                else
                  some ⟨AV.bool false, false, []⟩)
              else
                some ⟨AV.bool false, false, []⟩)
            else
              some ⟨AV.bool false, false, []⟩)
          else
            some ⟨AV.bool false, false, []⟩)
        else
          some ⟨AV.bool false, false, []⟩)
      N ([45, 45, 45] : List UInt8) 1 ((([32, 32, 32, 32, 32, 32] : List UInt8).take (Int.toNat i17)).drop 0) ([35, 32] : List UInt8) s16 ((s16.length : Nat) : Int) 0
theorem law11TailMarkers_eq (R : Nat → List AV → Option Res) (N : Nat) (i1 : Int) (s1 : List UInt8) (b1 : Bool) : runF gl R N law11TailMarkers [AV.int .i64 i1, AV.str s1, AV.bool b1] = law11TailMarkersr R N i1 s1 b1 := by
  refine Eq.trans (b :=
      bif b1 then
        ((R id_keepWithin [AV.int .i64 i1, AV.int .i64 6]).bind fun r1 =>
        asI .i64 r1.v fun i2 =>
        need (decide (0 ≤ (i2 : Int)) && decide ((i2 : Int) ≤ (((([32, 32, 32, 32, 32, 32] : List UInt8) : List UInt8).length : Nat) : Int))) <|
        (R id_keepText [AV.str s1, AV.int .i64 12]).bind fun r2 =>
        asS r2.v fun s2 =>
        rounds [7, 8, 9, 10, 20, 21, 22] [] (evC gl R N law11TailMarkers_c0) (Kblock 0 (Kthen gl R N law11TailMarkers_c1 (Kret law11TailMarkers.rets []))) N ⟨[(7, .imm (AV.str ([46, 46, 46] : List UInt8))), (8, .imm (AV.int .i64 2)), (9, .imm (AV.str ((([32, 32, 32, 32, 32, 32] : List UInt8).take (Int.toNat i2)).drop 0))), (10, .imm (AV.str ([35, 32] : List UInt8))), (20, .imm (AV.bytes s2)), (21, .imm (AV.int .i64 ((s2.length : Nat) : Int))), (22, .imm (AV.int .i64 0))], []⟩)
      else
        (R id_keepWithin [AV.int .i64 i1, AV.int .i64 6]).bind fun r12 =>
        asI .i64 r12.v fun i17 =>
        need (decide (0 ≤ (i17 : Int)) && decide ((i17 : Int) ≤ (((([32, 32, 32, 32, 32, 32] : List UInt8) : List UInt8).length : Nat) : Int))) <|
        (R id_keepText [AV.str s1, AV.int .i64 12]).bind fun r13 =>
        asS r13.v fun s16 =>
        rounds [7, 8, 9, 10, 20, 21, 22] [] (evC gl R N law11TailMarkers_c0) (Kblock 0 (Kthen gl R N law11TailMarkers_c1 (Kret law11TailMarkers.rets []))) N ⟨[(7, .imm (AV.str ([45, 45, 45] : List UInt8))), (8, .imm (AV.int .i64 1)), (9, .imm (AV.str ((([32, 32, 32, 32, 32, 32] : List UInt8).take (Int.toNat i17)).drop 0))), (10, .imm (AV.str ([35, 32] : List UInt8))), (20, .imm (AV.bytes s16)), (21, .imm (AV.int .i64 ((s16.length : Nat) : Int))), (22, .imm (AV.int .i64 0))], []⟩) (by kernel_rfl) ?_
  simp (config := { maxSteps := 100000000 }) only [law11TailMarkers_L1_eq]
  kernel_rfl
theorem law11TailMarkers_fit : fitF Tryd.prog law11TailMarkers Tryd.f7 = true := by
  kernel_rfl

def keepSameByte_L1s (R : Nat → List AV → Option Res) (N : Nat) (go : List UInt8 → List UInt8 → Int → Option Res) (k0 : Bool → Option Res) (k1 : Option Res) (s3 : List UInt8) (s4 : List UInt8) (i1 : Int) : Option Res :=
  bif decide ((i1 : Int) < ((s3.length : Nat) : Int)) then
    (need (decide (0 ≤ (i1 : Int))) <|
    (s3[Int.toNat i1]?).bind fun c1 =>
    need (decide (0 ≤ (i1 : Int))) <|
    (s4[Int.toNat i1]?).bind fun c2 =>
    bif ((c1.toNat : Int) : Int) != (c2.toNat : Int) then
      (k0 false)
    else
      go s3 s4 (IntKind.i64.wrap (i1 + 1)))
  else
    k1
def keepSameByte_L1 (R : Nat → List AV → Option Res) (N : Nat) (k0 : Bool → Option Res) (k1 : Option Res) : Nat → List UInt8 → List UInt8 → Int → Option Res
  | 0, _, _, _ => none
  | n + 1, s3, s4, i1 => keepSameByte_L1s R N (keepSameByte_L1 R N k0 k1 n) k0 k1 s3 s4 i1
def keepSameByte_c0 : AC := .seq (.seq (.region [.op (some 11) none (.mv (.t 5)), .op (some 12) none (.mv (.t 0)), .op (some 13) none (.len (.t 12) false), .op (some 14) none (.bin .lss (.t 11) (.t 13))]) (.cond (.t 14) (.skip) (.exit 0 [] []))) (.seq (.block 1 (.seq (.regionD [0, 1, 5, 25] [] [.op (some 17) none (.mv (.t 0)), .op (some 18) none (.mv (.t 5)), .op (some 19) none (.iaddr (.t 17) (.t 18) 1 (.int .u8)), .op (some 20) none (.load (.t 19) none (.int .u8)), .op (some 21) none (.mv (.t 1)), .op (some 22) none (.mv (.t 5)), .op (some 23) none (.iaddr (.t 21) (.t 22) 1 (.int .u8)), .op (some 24) none (.load (.t 23) none (.int .u8)), .op (some 25) none (.bin .neq (.t 20) (.t 24))] []) (.cond (.t 25) (.seq (.region [.op (some 4) none (.mv (.k (AV.bool false)))]) (.ret [4] [])) (.skip)))) (.region [.op (some 15) none (.mv (.t 5)), .op (some 16) none (.bin .add (.t 15) (.k (AV.int .i64 1))), .op (some 5) none (.mv (.t 16))]))
theorem keepSameByte_L1s_eq (R : Nat → List AV → Option Res) (N : Nat) (K : Ex → St → Option Res) (W : St → Option Res) (s3 : List UInt8) (s4 : List UInt8) (i1 : Int) :
    evC gl R N keepSameByte_c0 (Kseq (fun st' => W (prune [0, 1, 5] [] st')) K) ⟨[(0, .imm (AV.bytes s3)), (1, .imm (AV.bytes s4)), (5, .imm (AV.int .i64 i1))], []⟩ =
    keepSameByte_L1s R N (fun (s3 : List UInt8) (s4 : List UInt8) (i1 : Int) => W ⟨[(0, .imm (AV.bytes s3)), (1, .imm (AV.bytes s4)), (5, .imm (AV.int .i64 i1))], []⟩) (fun (b1 : Bool) => K .ret ⟨[(4, .imm (AV.bool b1))], []⟩) (K (.exit 0) ⟨[], []⟩) s3 s4 i1 := by
  kernel_rfl
theorem keepSameByte_L1_eq (R : Nat → List AV → Option Res) (N : Nat) (K : Ex → St → Option Res) : ∀ (n : Nat) (s3 : List UInt8) (s4 : List UInt8) (i1 : Int),
    rounds [0, 1, 5] [] (evC gl R N keepSameByte_c0) K n ⟨[(0, .imm (AV.bytes s3)), (1, .imm (AV.bytes s4)), (5, .imm (AV.int .i64 i1))], []⟩ = keepSameByte_L1 R N (fun (b1 : Bool) => K .ret ⟨[(4, .imm (AV.bool b1))], []⟩) (K (.exit 0) ⟨[], []⟩) n s3 s4 i1
  | 0, _, _, _ => rfl
  | n + 1, s3, s4, i1 => (keepSameByte_L1s_eq R N K (rounds [0, 1, 5] [] (evC gl R N keepSameByte_c0) K n) s3 s4 i1).trans
      (congrArg (fun go => keepSameByte_L1s R N go (fun (b1 : Bool) => K .ret ⟨[(4, .imm (AV.bool b1))], []⟩) (K (.exit 0) ⟨[], []⟩) s3 s4 i1) (funext fun s3 => funext fun s4 => funext fun i1 => keepSameByte_L1_eq R N K n s3 s4 i1))
def keepSameByte_c1 : AC := .seq (.region [.op (some 4) none (.mv (.k (AV.bool true)))]) (.ret [4] [])
def keepSameByte_c2 : AC := .seq (.region [.op (some 4) none (.mv (.k (AV.bool false)))]) (.seq (.seq (.region [.op (some 6) none (.mv (.t 0)), .op (some 7) none (.len (.t 6) false), .op (some 8) none (.mv (.t 1)), .op (some 9) none (.len (.t 8) false), .op (some 10) none (.bin .neq (.t 7) (.t 9))]) (.cond (.t 10) (.seq (.region [.op (some 4) none (.mv (.k (AV.bool false)))]) (.ret [4] [])) (.skip))) (.seq (.seq (.region [.op (some 5) none (.mv (.k (AV.int .i64 0)))]) (.block 0 (.loop [0, 1, 5] [] (keepSameByte_c0)))) (keepSameByte_c1)))
def keepSameByte : AFunc := ⟨2, 26, [.tmp 4], keepSameByte_c2⟩
def keepSameByter (R : Nat → List AV → Option Res) (N : Nat) (s1 : List UInt8) (s2 : List UInt8) : Option Res :=
  bif (((s1.length : Nat) : Int) : Int) != ((s2.length : Nat) : Int) then
    (some ⟨AV.bool false, false, []⟩)
  else
    keepSameByte_L1 R N
      (fun b3 =>
        some ⟨AV.bool b3, false, []⟩)
      (
        some ⟨AV.bool true, false, []⟩)
      N s1 s2 0
theorem keepSameByte_eq (R : Nat → List AV → Option Res) (N : Nat) (s1 : List UInt8) (s2 : List UInt8) : runF gl R N keepSameByte [AV.bytes s1, AV.bytes s2] = keepSameByter R N s1 s2 := by
  refine Eq.trans (b :=
      bif (((s1.length : Nat) : Int) : Int) != ((s2.length : Nat) : Int) then
        (some ⟨AV.bool false, false, []⟩)
      else
        rounds [0, 1, 5] [] (evC gl R N keepSameByte_c0) (Kblock 0 (Kthen gl R N keepSameByte_c1 (Kret keepSameByte.rets []))) N ⟨[(0, .imm (AV.bytes s1)), (1, .imm (AV.bytes s2)), (5, .imm (AV.int .i64 0))], []⟩) (by kernel_rfl) ?_
  simp (config := { maxSteps := 100000000 }) only [keepSameByte_L1_eq]
  kernel_rfl
theorem keepSameByte_fit : fitF Tryd.prog keepSameByte Tryd.f25 = true := by
  kernel_rfl

def keepSpoil : AFunc := ⟨1, 20, [], .stuck⟩
def keepSpoilr (R : Nat → List AV → Option Res) (N : Nat) (s1 : List UInt8) : Option Res :=
  none
theorem keepSpoil_eq (R : Nat → List AV → Option Res) (N : Nat) (s1 : List UInt8) : runF gl R N keepSpoil [AV.ref (AV.bytes s1)] = keepSpoilr R N s1 := by
  kernel_rfl
theorem keepSpoil_fit : fitF Tryd.prog keepSpoil Tryd.f26 = true := by
  kernel_rfl

def ref08Blanks_L1s (R : Nat → List AV → Option Res) (N : Nat) (go : List UInt8 → Int → Option Res) (k0 : Int → Option Res) (s2 : List UInt8) (i1 : Int) : Option Res :=
  bif decide ((i1 : Int) < ((s2.length : Nat) : Int)) then
    (need (decide (0 ≤ (i1 : Int))) <|
    (s2[Int.toNat i1]?).bind fun c1 =>
    bif ((c1.toNat : Int) : Int) == 32 then
      (go s2 (IntKind.i64.wrap (i1 + 1)))
    else
      k0 i1)
  else
    k0 i1
def ref08Blanks_L1 (R : Nat → List AV → Option Res) (N : Nat) (k0 : Int → Option Res) : Nat → List UInt8 → Int → Option Res
  | 0, _, _ => none
  | n + 1, s2, i1 => ref08Blanks_L1s R N (ref08Blanks_L1 R N k0 n) k0 s2 i1
def ref08Blanks_c0 : AC := .seq (.seq (.region [.op (some 4) none (.mv (.t 3)), .op (some 5) none (.mv (.t 0)), .op (some 6) none (.len (.t 5) false), .op (some 7) none (.bin .lss (.t 4) (.t 6)), .op (some 8) none (.mv (.t 7)), .split 8, .op (some 9) (some (8, true)) (.mv (.t 0)), .op (some 10) (some (8, true)) (.mv (.t 3)), .op (some 11) (some (8, true)) (.iaddr (.t 9) (.t 10) 1 (.int .u8)), .op (some 12) (some (8, true)) (.load (.t 11) none (.int .u8)), .op (some 13) (some (8, true)) (.bin .eql (.t 12) (.k (AV.int .u8 32))), .op (some 14) none (.pick (.t 8) (.t 13) (.k (AV.bool false)))]) (.cond (.t 14) (.skip) (.exit 0 [3] []))) (.block 1 (.region [.op (some 15) none (.mv (.t 3)), .op (some 16) none (.bin .add (.t 15) (.k (AV.int .i64 1))), .op (some 3) none (.mv (.t 16))]))
theorem ref08Blanks_L1s_eq (R : Nat → List AV → Option Res) (N : Nat) (K : Ex → St → Option Res) (W : St → Option Res) (s2 : List UInt8) (i1 : Int) :
    evC gl R N ref08Blanks_c0 (Kseq (fun st' => W (prune [0, 3] [] st')) K) ⟨[(0, .imm (AV.bytes s2)), (3, .imm (AV.int .i64 i1))], []⟩ =
    ref08Blanks_L1s R N (fun (s2 : List UInt8) (i1 : Int) => W ⟨[(0, .imm (AV.bytes s2)), (3, .imm (AV.int .i64 i1))], []⟩) (fun (i2 : Int) => K (.exit 0) ⟨[(3, .imm (AV.int .i64 i2))], []⟩) s2 i1 := by
  kernel_rfl
theorem ref08Blanks_L1_eq (R : Nat → List AV → Option Res) (N : Nat) (K : Ex → St → Option Res) : ∀ (n : Nat) (s2 : List UInt8) (i1 : Int),
    rounds [0, 3] [] (evC gl R N ref08Blanks_c0) K n ⟨[(0, .imm (AV.bytes s2)), (3, .imm (AV.int .i64 i1))], []⟩ = ref08Blanks_L1 R N (fun (i2 : Int) => K (.exit 0) ⟨[(3, .imm (AV.int .i64 i2))], []⟩) n s2 i1
  | 0, _, _ => rfl
  | n + 1, s2, i1 => (ref08Blanks_L1s_eq R N K (rounds [0, 3] [] (evC gl R N ref08Blanks_c0) K n) s2 i1).trans
      (congrArg (fun go => ref08Blanks_L1s R N go (fun (i2 : Int) => K (.exit 0) ⟨[(3, .imm (AV.int .i64 i2))], []⟩) s2 i1) (funext fun s2 => funext fun i1 => ref08Blanks_L1_eq R N K n s2 i1))
def ref08Blanks_c1 : AC := .seq (.region [.op (some 17) none (.mv (.t 3)), .op (some 2) none (.mv (.t 17))]) (.ret [2] [])
def ref08Blanks_c2 : AC := .seq (.region [.op (some 2) none (.mv (.k (AV.int .i64 0)))]) (.seq (.region [.op (some 3) none (.mv (.k (AV.int .i64 0)))]) (.seq (.block 0 (.loop [0, 3] [] (ref08Blanks_c0))) (ref08Blanks_c1)))
def ref08Blanks : AFunc := ⟨1, 18, [.tmp 2], ref08Blanks_c2⟩
def ref08Blanksr (R : Nat → List AV → Option Res) (N : Nat) (s1 : List UInt8) : Option Res :=
  ref08Blanks_L1 R N
    (fun i4 =>
      some ⟨AV.int .i64 i4, false, []⟩)
    N s1 0
theorem ref08Blanks_eq (R : Nat → List AV → Option Res) (N : Nat) (s1 : List UInt8) : runF gl R N ref08Blanks [AV.bytes s1] = ref08Blanksr R N s1 := by
  refine Eq.trans (b :=
      rounds [0, 3] [] (evC gl R N ref08Blanks_c0) (Kblock 0 (Kthen gl R N ref08Blanks_c1 (Kret ref08Blanks.rets []))) N ⟨[(0, .imm (AV.bytes s1)), (3, .imm (AV.int .i64 0))], []⟩) (by kernel_rfl) ?_
  simp (config := { maxSteps := 100000000 }) only [ref08Blanks_L1_eq]
  kernel_rfl
theorem ref08Blanks_fit : fitF Tryd.prog ref08Blanks Tryd.f43 = true := by
  kernel_rfl

def ref08Clear_c0 : AC := .seq (.region [.op (some 2) none (.mv (.k (AV.bool false)))]) (.seq (.region [.op (some 4) none (.mv (.t 0)), .op (some 5) none (.call id_ref08Blanks [.t 4] (.int .i64)), .op (some 3) none (.mv (.t 5))]) (.seq (.region [.op (some 6) none (.mv (.t 3)), .op (some 7) none (.mv (.t 0)), .op (some 8) none (.len (.t 7) false), .op (some 9) none (.bin .eql (.t 6) (.t 8)), .op (some 10) none (.mv (.t 9)), .split 10, .op (some 11) (some (10, false)) (.mv (.t 3)), .op (some 12) (some (10, false)) (.bin .gtr (.t 11) (.k (AV.int .i64 0))), .op (some 13) (some (10, false)) (.mv (.t 12)), .split 13, .op (some 14) (some (13, true)) (.mv (.t 0)), .op (some 15) (some (13, true)) (.mv (.t 3)), .op (some 16) (some (13, true)) (.iaddr (.t 14) (.t 15) 1 (.int .u8)), .op (some 17) (some (13, true)) (.load (.t 16) none (.int .u8)), .op (some 18) (some (13, true)) (.bin .eql (.t 17) (.k (AV.int .u8 35))), .op (some 19) (some (10, false)) (.pick (.t 13) (.t 18) (.k (AV.bool false))), .op (some 20) none (.pick (.t 10) (.k (AV.bool true)) (.t 19)), .op (some 2) none (.mv (.t 20))]) (.ret [2] [])))
def ref08Clear : AFunc := ⟨1, 21, [.tmp 2], ref08Clear_c0⟩
def ref08Clearr (R : Nat → List AV → Option Res) (N : Nat) (s1 : List UInt8) : Option Res :=
  (R id_ref08Blanks [AV.bytes s1]).bind fun r1 =>
  asI .i64 r1.v fun i1 =>
  bif (i1 : Int) == ((s1.length : Nat) : Int) then
    (some ⟨AV.bool true, false, []⟩)
  else
    bif decide ((i1 : Int) > 0) then
      (need (decide (0 ≤ (i1 : Int))) <|
      (s1[Int.toNat i1]?).bind fun c1 =>
      some ⟨AV.bool (((c1.toNat : Int) : Int) == 35), false, []⟩)
    else
      some ⟨AV.bool false, false, []⟩
theorem ref08Clear_eq (R : Nat → List AV → Option Res) (N : Nat) (s1 : List UInt8) : runF gl R N ref08Clear [AV.bytes s1] = ref08Clearr R N s1 := by
  kernel_rfl
theorem ref08Clear_fit : fitF Tryd.prog ref08Clear Tryd.f30 = true := by
  kernel_rfl

def ref08Comment_c0 : AC := .seq (.region [.op (some 2) none (.mv (.k (AV.int .i64 0))), .op (some 3) none (.mv (.k (AV.bool false)))]) (.seq (.region [.op (some 5) none (.mv (.t 0)), .op (some 6) none (.call id_ref08Blanks [.t 5] (.int .i64)), .op (some 4) none (.mv (.t 6))]) (.seq (.seq (.region [.op (some 7) none (.mv (.t 0)), .op (some 8) none (.call id_ref08Clear [.t 7] (.bool)), .op (some 9) none (.un .not (.t 8)), .op (some 10) none (.mv (.t 9)), .split 10, .op (some 11) (some (10, false)) (.mv (.t 4)), .op (some 12) (some (10, false)) (.mv (.t 0)), .op (some 13) (some (10, false)) (.len (.t 12) false), .op (some 14) (some (10, false)) (.bin .eql (.t 11) (.t 13)), .op (some 15) none (.pick (.t 10) (.k (AV.bool true)) (.t 14))]) (.cond (.t 15) (.seq (.region [.op (some 2) none (.mv (.k (AV.int .i64 0))), .op (some 3) none (.mv (.k (AV.bool false)))]) (.ret [2, 3] [])) (.skip))) (.seq (.region [.op (some 16) none (.mv (.t 4)), .op (some 2) none (.mv (.t 16)), .op (some 3) none (.mv (.k (AV.bool true)))]) (.ret [2, 3] []))))
def ref08Comment : AFunc := ⟨1, 17, [.tmp 2, .tmp 3], ref08Comment_c0⟩
def ref08Commentr (R : Nat → List AV → Option Res) (N : Nat) (s1 : List UInt8) : Option Res :=
  (R id_ref08Blanks [AV.bytes s1]).bind fun r1 =>
  asI .i64 r1.v fun i1 =>
  (R id_ref08Clear [AV.bytes s1]).bind fun r2 =>
  asB r2.v fun b1 =>
  bif !b1 then
    (some ⟨AV.tup [AV.int .i64 0, AV.bool false], false, []⟩)
  else
    bif (i1 : Int) == ((s1.length : Nat) : Int) then
      (some ⟨AV.tup [AV.int .i64 0, AV.bool false], false, []⟩)
    else
      some ⟨AV.tup [AV.int .i64 i1, AV.bool true], false, []⟩
theorem ref08Comment_eq (R : Nat → List AV → Option Res) (N : Nat) (s1 : List UInt8) : runF gl R N ref08Comment [AV.bytes s1] = ref08Commentr R N s1 := by
  kernel_rfl
theorem ref08Comment_fit : fitF Tryd.prog ref08Comment Tryd.f28 = true := by
  kernel_rfl

def ref08Marker_c0 : AC := .seq (.region [.op (some 2) none (.mv (.k (AV.int .i64 0)))]) (.seq (.seq (.region [.op (some 3) none (.mv (.t 0)), .op (some 4) none (.len (.t 3) false), .op (some 5) none (.bin .lss (.t 4) (.k (AV.int .i64 3))), .op (some 6) none (.mv (.t 5)), .split 6, .op (some 7) (some (6, false)) (.mv (.t 0)), .op (some 8) (some (6, false)) (.slice (.t 7) none (some (.k (AV.int .i64 3))) 1), .op (some 9) (some (6, false)) (.cvStr (.t 8)), .op (some 10) (some (6, false)) (.bin .neq (.t 9) (.k (AV.str ([45, 45, 45] : List UInt8)))), .op (some 11) (some (6, false)) (.mv (.t 10)), .split 11, .op (some 12) (some (11, true)) (.mv (.t 0)), .op (some 13) (some (11, true)) (.slice (.t 12) none (some (.k (AV.int .i64 3))) 1), .op (some 14) (some (11, true)) (.cvStr (.t 13)), .op (some 15) (some (11, true)) (.bin .neq (.t 14) (.k (AV.str ([46, 46, 46] : List UInt8)))), .op (some 16) (some (6, false)) (.pick (.t 11) (.t 15) (.k (AV.bool false))), .op (some 17) none (.pick (.t 6) (.k (AV.bool true)) (.t 16))]) (.cond (.t 17) (.seq (.region [.op (some 2) none (.mv (.k (AV.int .i64 0)))]) (.ret [2] [])) (.skip))) (.seq (.block 0 (.seq (.region [.op (some 19) none (.mv (.t 0)), .op (some 20) none (.slice (.t 19) (some (.k (AV.int .i64 3))) none 1), .op (some 21) none (.call id_ref08Clear [.t 20] (.bool)), .op (some 22) none (.mv (.t 21)), .split 22, .op (some 23) (some (22, true)) (.mv (.t 0)), .op (some 24) (some (22, true)) (.iaddr (.t 23) (.k (AV.int .i64 0)) 1 (.int .u8)), .op (some 25) (some (22, true)) (.load (.t 24) none (.int .u8)), .op (some 26) (some (22, true)) (.bin .eql (.t 25) (.k (AV.int .u8 45))), .op (some 27) none (.pick (.t 22) (.t 26) (.k (AV.bool false))), .op (some 18) none (.mv (.t 27))]) (.cond (.t 18) (.seq (.region [.op (some 2) none (.mv (.k (AV.int .i64 1)))]) (.ret [2] [])) (.seq (.region [.op (some 29) none (.mv (.t 0)), .op (some 30) none (.slice (.t 29) (some (.k (AV.int .i64 3))) none 1), .op (some 31) none (.call id_ref08Clear [.t 30] (.bool)), .op (some 28) none (.mv (.t 31))]) (.cond (.t 28) (.seq (.region [.op (some 2) none (.mv (.k (AV.int .i64 2)))]) (.ret [2] [])) (.seq (.region [.op (some 33) none (.mv (.t 0)), .op (some 34) none (.iaddr (.t 33) (.k (AV.int .i64 3)) 1 (.int .u8)), .op (some 35) none (.load (.t 34) none (.int .u8)), .op (some 36) none (.bin .eql (.t 35) (.k (AV.int .u8 32))), .op (some 37) none (.mv (.t 36)), .split 37, .op (some 38) (some (37, false)) (.mv (.t 0)), .op (some 39) (some (37, false)) (.iaddr (.t 38) (.k (AV.int .i64 3)) 1 (.int .u8)), .op (some 40) (some (37, false)) (.load (.t 39) none (.int .u8)), .op (some 41) (some (37, false)) (.bin .eql (.t 40) (.k (AV.int .u8 9))), .op (some 42) none (.pick (.t 37) (.k (AV.bool true)) (.t 41)), .op (some 32) none (.mv (.t 42))]) (.cond (.t 32) (.seq (.region [.op (some 2) none (.mv (.k (AV.int .i64 3)))]) (.ret [2] [])) (.skip)))))))) (.seq (.region [.op (some 2) none (.mv (.k (AV.int .i64 0)))]) (.ret [2] []))))
def ref08Marker : AFunc := ⟨1, 43, [.tmp 2], ref08Marker_c0⟩
def ref08Markerr (R : Nat → List AV → Option Res) (N : Nat) (s1 : List UInt8) : Option Res :=
  bif decide ((((s1.length : Nat) : Int) : Int) < 3) then
    (some ⟨AV.int .i64 0, false, []⟩)
  else
    need (decide (0 ≤ (3 : Int)) && decide ((3 : Int) ≤ ((s1.length : Nat) : Int))) <|
    bif !(((s1.take (Int.toNat 3)).drop 0) == ([45, 45, 45] : List UInt8)) then
      (need (decide (0 ≤ (3 : Int)) && decide ((3 : Int) ≤ ((s1.length : Nat) : Int))) <|
      bif !(((s1.take (Int.toNat 3)).drop 0) == ([46, 46, 46] : List UInt8)) then
        (some ⟨AV.int .i64 0, false, []⟩)
      else
        need (decide (0 ≤ (3 : Int)) && decide ((3 : Int) ≤ ((s1.length : Nat) : Int))) <|
        (R id_ref08Clear [AV.bytes ((s1.take s1.length).drop (Int.toNat 3))]).bind fun r1 =>
        asB r1.v fun b1 =>
        bif b1 then
          (need (decide (0 ≤ (0 : Int))) <|
          (s1[Int.toNat 0]?).bind fun c1 =>
          bif ((c1.toNat : Int) : Int) == 45 then
            (some ⟨AV.int .i64 1, false, []⟩)
          else
            need (decide (0 ≤ (3 : Int)) && decide ((3 : Int) ≤ ((s1.length : Nat) : Int))) <|
            (R id_ref08Clear [AV.bytes ((s1.take s1.length).drop (Int.toNat 3))]).bind fun r2 =>
            asB r2.v fun b2 =>
            bif b2 then
              (some ⟨AV.int .i64 2, false, []⟩)
            else
              need (decide (0 ≤ (3 : Int))) <|
              (s1[Int.toNat 3]?).bind fun c2 =>
              bif ((c2.toNat : Int) : Int) == 32 then
                (some ⟨AV.int .i64 3, false, []⟩)
              else
                need (decide (0 ≤ (3 : Int))) <|
                (s1[Int.toNat 3]?).bind fun c3 =>
                bif ((c3.toNat : Int) : Int) == 9 then
                  (some ⟨AV.int .i64 3, false, []⟩)
                else
                  some ⟨AV.int .i64 0, false, []⟩)
        else
          need (decide (0 ≤ (3 : Int)) && decide ((3 : Int) ≤ ((s1.length : Nat) : Int))) <|
          (R id_ref08Clear [AV.bytes ((s1.take s1.length).drop (Int.toNat 3))]).bind fun r3 =>
          asB r3.v fun b3 =>
          bif b3 then
            (some ⟨AV.int .i64 2, false, []⟩)
          else
            need (decide (0 ≤ (3 : Int))) <|
            (s1[Int.toNat 3]?).bind fun c4 =>
            bif ((c4.toNat : Int) : Int) == 32 then
              (some ⟨AV.int .i64 3, false, []⟩)
            else
              need (decide (0 ≤ (3 : Int))) <|
              (s1[Int.toNat 3]?).bind fun c5 =>
              bif ((c5.toNat : Int) : Int) == 9 then
                (some ⟨AV.int .i64 3, false, []⟩)
              else
                some ⟨AV.int .i64 0, false, []⟩)
    else
      need (decide (0 ≤ (3 : Int)) && decide ((3 : Int) ≤ ((s1.length : Nat) : Int))) <|
      (R id_ref08Clear [AV.bytes ((s1.take s1.length).drop (Int.toNat 3))]).bind fun r4 =>
      asB r4.v fun b4 =>
      bif b4 then
        (need (decide (0 ≤ (0 : Int))) <|
        (s1[Int.toNat 0]?).bind fun c6 =>
        bif ((c6.toNat : Int) : Int) == 45 then
          (some ⟨AV.int .i64 1, false, []⟩)
        else
          need (decide (0 ≤ (3 : Int)) && decide ((3 : Int) ≤ ((s1.length : Nat) : Int))) <|
          (R id_ref08Clear [AV.bytes ((s1.take s1.length).drop (Int.toNat 3))]).bind fun r5 =>
          asB r5.v fun b5 =>
          bif b5 then
            (some ⟨AV.int .i64 2, false, []⟩)
          else
            need (decide (0 ≤ (3 : Int))) <|
            (s1[Int.toNat 3]?).bind fun c7 =>
            bif ((c7.toNat : Int) : Int) == 32 then
              (some ⟨AV.int .i64 3, false, []⟩)
            else
              need (decide (0 ≤ (3 : Int))) <|
              (s1[Int.toNat 3]?).bind fun c8 =>
              bif ((c8.toNat : Int) : Int) == 9 then
                (some ⟨AV.int .i64 3, false, []⟩)
              else
                some ⟨AV.int .i64 0, false, []⟩)
      else
        need (decide (0 ≤ (3 : Int)) && decide ((3 : Int) ≤ ((s1.length : Nat) : Int))) <|
        (R id_ref08Clear [AV.bytes ((s1.take s1.length).drop (Int.toNat 3))]).bind fun r6 =>
        asB r6.v fun b6 =>
        bif b6 then
          (some ⟨AV.int .i64 2, false, []⟩)
        else
          need (decide (0 ≤ (3 : Int))) <|
          (s1[Int.toNat 3]?).bind fun c9 =>
          bif ((c9.toNat : Int) : Int) == 32 then
            (some ⟨AV.int .i64 3, false, []⟩)
          else
            need (decide (0 ≤ (3 : Int))) <|
            (s1[Int.toNat 3]?).bind fun c10 =>
            bif ((c10.toNat : Int) : Int) == 9 then
              (some ⟨AV.int .i64 3, false, []⟩)
            else
              some ⟨AV.int .i64 0, false, []⟩
theorem ref08Marker_eq (R : Nat → List AV → Option Res) (N : Nat) (s1 : List UInt8) : runF gl R N ref08Marker [AV.bytes s1] = ref08Markerr R N s1 := by
  kernel_rfl
theorem ref08Marker_fit : fitF Tryd.prog ref08Marker Tryd.f31 = true := by
  kernel_rfl

def law11TailTells_L1s (R : Nat → List AV → Option Res) (N : Nat) (go : List UInt8 → List UInt8 → Int → Bool → Int → Bool → Int → List UInt8 → Option Res) (k0 : List UInt8 → List UInt8 → Int → Bool → Int → Bool → Int → List UInt8 → Option Res) (s6 : List UInt8) (s7 : List UInt8) (i5 : Int) (b3 : Bool) (i6 : Int) (b4 : Bool) (i7 : Int) (s8 : List UInt8) : Option Res :=
  bif decide ((i7 : Int) < ((s6.length : Nat) : Int)) then
    (need (decide (0 ≤ (i7 : Int))) <|
    (s6[Int.toNat i7]?).bind fun c1 =>
    bif ((c1.toNat : Int) : Int) == 32 then
      (go s6 s7 i5 b3 i6 b4 (IntKind.i64.wrap (i7 + 1)) s8)
    else
      k0 s6 s7 i5 b3 i6 b4 i7 s8)
  else
    k0 s6 s7 i5 b3 i6 b4 i7 s8
def law11TailTells_L1 (R : Nat → List AV → Option Res) (N : Nat) (k0 : List UInt8 → List UInt8 → Int → Bool → Int → Bool → Int → List UInt8 → Option Res) : Nat → List UInt8 → List UInt8 → Int → Bool → Int → Bool → Int → List UInt8 → Option Res
  | 0, _, _, _, _, _, _, _, _ => none
  | n + 1, s6, s7, i5, b3, i6, b4, i7, s8 => law11TailTells_L1s R N (law11TailTells_L1 R N k0 n) k0 s6 s7 i5 b3 i6 b4 i7 s8
def law11TailTells_c0 : AC := .seq (.seq (.region [.op (some 39) none (.mv (.t 12)), .op (some 40) none (.mv (.t 5)), .op (some 41) none (.len (.t 40) false), .op (some 42) none (.bin .lss (.t 39) (.t 41)), .op (some 43) none (.mv (.t 42)), .split 43, .op (some 44) (some (43, true)) (.mv (.t 5)), .op (some 45) (some (43, true)) (.mv (.t 12)), .op (some 46) (some (43, true)) (.iaddr (.t 44) (.t 45) 1 (.int .u8)), .op (some 47) (some (43, true)) (.load (.t 46) none (.int .u8)), .op (some 48) (some (43, true)) (.bin .eql (.t 47) (.k (AV.int .u8 32))), .op (some 49) none (.pick (.t 43) (.t 48) (.k (AV.bool false)))]) (.cond (.t 49) (.skip) (.exit 0 [5, 6, 7, 8, 9, 10, 11, 12] [38]))) (.block 1 (.region [.op (some 50) none (.mv (.t 12)), .op (some 51) none (.bin .add (.t 50) (.k (AV.int .i64 1))), .op (some 12) none (.mv (.t 51))]))
theorem law11TailTells_L1s_eq (R : Nat → List AV → Option Res) (N : Nat) (K : Ex → St → Option Res) (W : St → Option Res) (s6 : List UInt8) (s7 : List UInt8) (i5 : Int) (b3 : Bool) (i6 : Int) (b4 : Bool) (i7 : Int) (s8 : List UInt8) :
    evC gl R N law11TailTells_c0 (Kseq (fun st' => W (prune [5, 6, 7, 8, 9, 10, 11, 12] [38] st')) K) ⟨[(5, .imm (AV.bytes s6)), (6, .imm (AV.lent s7)), (7, .imm (AV.int .i64 i5)), (8, .imm (AV.bool b3)), (9, .imm (AV.int .i64 i6)), (10, .imm (AV.bool b4)), (11, .own 38 0 s8.length none), (12, .imm (AV.int .i64 i7))], [(38, .bytes s8 false)]⟩ =
    law11TailTells_L1s R N (fun (s6 : List UInt8) (s7 : List UInt8) (i5 : Int) (b3 : Bool) (i6 : Int) (b4 : Bool) (i7 : Int) (s8 : List UInt8) => W ⟨[(5, .imm (AV.bytes s6)), (6, .imm (AV.lent s7)), (7, .imm (AV.int .i64 i5)), (8, .imm (AV.bool b3)), (9, .imm (AV.int .i64 i6)), (10, .imm (AV.bool b4)), (11, .own 38 0 s8.length none), (12, .imm (AV.int .i64 i7))], [(38, .bytes s8 false)]⟩) (fun (s9 : List UInt8) (s10 : List UInt8) (i8 : Int) (b5 : Bool) (i9 : Int) (b6 : Bool) (i10 : Int) (s11 : List UInt8) => K (.exit 0) ⟨[(5, .imm (AV.bytes s9)), (6, .imm (AV.lent s10)), (7, .imm (AV.int .i64 i8)), (8, .imm (AV.bool b5)), (9, .imm (AV.int .i64 i9)), (10, .imm (AV.bool b6)), (11, .own 38 0 s11.length none), (12, .imm (AV.int .i64 i10))], [(38, .bytes s11 false)]⟩) s6 s7 i5 b3 i6 b4 i7 s8 := by
  kernel_rfl
theorem law11TailTells_L1_eq (R : Nat → List AV → Option Res) (N : Nat) (K : Ex → St → Option Res) : ∀ (n : Nat) (s6 : List UInt8) (s7 : List UInt8) (i5 : Int) (b3 : Bool) (i6 : Int) (b4 : Bool) (i7 : Int) (s8 : List UInt8),
    rounds [5, 6, 7, 8, 9, 10, 11, 12] [38] (evC gl R N law11TailTells_c0) K n ⟨[(5, .imm (AV.bytes s6)), (6, .imm (AV.lent s7)), (7, .imm (AV.int .i64 i5)), (8, .imm (AV.bool b3)), (9, .imm (AV.int .i64 i6)), (10, .imm (AV.bool b4)), (11, .own 38 0 s8.length none), (12, .imm (AV.int .i64 i7))], [(38, .bytes s8 false)]⟩ = law11TailTells_L1 R N (fun (s9 : List UInt8) (s10 : List UInt8) (i8 : Int) (b5 : Bool) (i9 : Int) (b6 : Bool) (i10 : Int) (s11 : List UInt8) => K (.exit 0) ⟨[(5, .imm (AV.bytes s9)), (6, .imm (AV.lent s10)), (7, .imm (AV.int .i64 i8)), (8, .imm (AV.bool b5)), (9, .imm (AV.int .i64 i9)), (10, .imm (AV.bool b6)), (11, .own 38 0 s11.length none), (12, .imm (AV.int .i64 i10))], [(38, .bytes s11 false)]⟩) n s6 s7 i5 b3 i6 b4 i7 s8
  | 0, _, _, _, _, _, _, _, _ => rfl
  | n + 1, s6, s7, i5, b3, i6, b4, i7, s8 => (law11TailTells_L1s_eq R N K (rounds [5, 6, 7, 8, 9, 10, 11, 12] [38] (evC gl R N law11TailTells_c0) K n) s6 s7 i5 b3 i6 b4 i7 s8).trans
      (congrArg (fun go => law11TailTells_L1s R N go (fun (s9 : List UInt8) (s10 : List UInt8) (i8 : Int) (b5 : Bool) (i9 : Int) (b6 : Bool) (i10 : Int) (s11 : List UInt8) => K (.exit 0) ⟨[(5, .imm (AV.bytes s9)), (6, .imm (AV.lent s10)), (7, .imm (AV.int .i64 i8)), (8, .imm (AV.bool b5)), (9, .imm (AV.int .i64 i9)), (10, .imm (AV.bool b6)), (11, .own 38 0 s11.length none), (12, .imm (AV.int .i64 i10))], [(38, .bytes s11 false)]⟩) s6 s7 i5 b3 i6 b4 i7 s8) (funext fun s6 => funext fun s7 => funext fun i5 => funext fun b3 => funext fun i6 => funext fun b4 => funext fun i7 => funext fun s8 => law11TailTells_L1_eq R N K n s6 s7 i5 b3 i6 b4 i7 s8))
def law11TailTells_c1 : AC := .seq (.region [.op (some 52) none (.mv (.t 11)), .op (some 53) none (.mv (.t 5)), .op (some 54) none (.mv (.t 12)), .op (some 55) none (.slice (.t 53) (some (.t 54)) none 1), .op (some 56) none (.call id_keepSameByte [.t 52, .t 55] (.bool)), .op (some 13) none (.mv (.t 56))]) (.seq (.region [.op (some 57) none (.mv (.t 11)), .op (some 58) none (.callM none id_keepSpoil [.t 57] [true] [some (.bytes)] (.tup []))]) (.seq (.region [.op (some 59) none (.mv (.t 13)), .op (some 60) none (.mv (.t 59)), .split 60, .op (some 61) (some (60, true)) (.mv (.t 7)), .op (some 62) (some (60, true)) (.mv (.t 9)), .op (some 63) (some (60, true)) (.bin .eql (.t 61) (.t 62)), .op (some 64) none (.pick (.t 60) (.t 63) (.k (AV.bool false))), .op (some 65) none (.mv (.t 64)), .split 65, .op (some 66) (some (65, true)) (.mv (.t 8)), .op (some 67) (some (65, true)) (.mv (.t 10)), .op (some 68) (some (65, true)) (.binB .eql (.t 66) (.t 67)), .op (some 69) none (.pick (.t 65) (.t 68) (.k (AV.bool false))), .op (some 70) none (.mv (.t 69)), .split 70, .op (some 71) (some (70, true)) (.weak (.t 6)), .op (some 72) (some (70, true)) (.call id_tailClear [.t 71] (.bool)), .op (some 73) (some (70, true)) (.mv (.t 5)), .op (some 74) (some (70, true)) (.call id_ref08Clear [.t 73] (.bool)), .op (some 75) (some (70, true)) (.binB .eql (.t 72) (.t 74)), .op (some 76) none (.pick (.t 70) (.t 75) (.k (AV.bool false))), .op (some 77) none (.mv (.t 76)), .split 77, .op (some 78) (some (77, true)) (.weak (.t 6)), .op (some 79) (some (77, true)) (.call id_tailMarker [.t 78] (.int .i64)), .op (some 80) (some (77, true)) (.mv (.t 5)), .op (some 81) (some (77, true)) (.call id_ref08Marker [.t 80] (.int .i64)), .op (some 82) (some (77, true)) (.bin .eql (.t 79) (.t 81)), .op (some 83) none (.pick (.t 77) (.t 82) (.k (AV.bool false))), .op (some 84) none (.mv (.t 83)), .split 84, .op (some 85) (some (84, true)) (.mv (.t 6)), .op (some 86) (some (84, true)) (.mv (.t 5)), .op (some 87) (some (84, true)) (.call id_keepIntact [.t 85, .t 86] (.bool)), .op (some 88) none (.pick (.t 84) (.t 87) (.k (AV.bool false))), .op (some 89) none (.mv (.t 88)), .split 89, .op (some 90) (some (89, true)) (.call id_law11Wakes [] (.bool)), .op (some 91) none (.pick (.t 89) (.t 90) (.k (AV.bool false))), .op (some 4) none (.mv (.t 91))]) (.ret [4] [])))
def law11TailTells_c2 : AC := .seq (.region [.op (some 4) none (.mv (.k (AV.bool false)))]) (.seq (.region [.op (some 14) none (.mv (.t 0)), .op (some 15) none (.call id_keepText [.t 14, .k (AV.int .i64 40)] (.str)), .op (some 0) none (.mv (.t 15))]) (.seq (.region [.op (some 16) none (.bslice [.k (AV.str ([] : List UInt8)), .k (AV.str ([45, 45, 45] : List UInt8)), .k (AV.str ([46, 46, 46] : List UInt8)), .k (AV.str ([32] : List UInt8)), .k (AV.str ([32, 32, 35] : List UInt8)), .k (AV.str ([45, 45, 45, 32] : List UInt8)), .k (AV.str ([35] : List UInt8)), .k (AV.str ([46, 46, 46, 32, 35] : List UInt8)), .k (AV.str ([45, 45] : List UInt8)), .k (AV.str ([45, 45, 45, 9] : List UInt8))] 1 false), .op (some 17) none (.mv (.t 1)), .op (some 18) none (.call id_keepWithin [.t 17, .k (AV.int .i64 10)] (.int .i64)), .op (some 19) none (.iaddr (.t 16) (.t 18) 1 (.str)), .op (some 20) none (.load (.t 19) none (.str)), .op (some 21) none (.mv (.t 0)), .op (some 22) none (.bin .add (.t 20) (.t 21)), .op (some 0) none (.mv (.t 22))]) (.seq (.region [.op (some 23) none (.mv (.t 0)), .op (some 24) none (.cvBytes (.t 23)), .op (some 5) none (.mv (.t 24))]) (.seq (.region [.op (some 25) none (.mv (.t 5)), .op (some 26) none (.call id_keepLend [.t 25] (.lent)), .op (some 6) none (.mv (.t 26))]) (.seq (.region [.op (some 28) none (.weak (.t 6)), .op (some 29) none (.call id_tailComment [.t 28] (.tup [.int .i64, .bool])), .op (some 27) none (.mv (.t 29)), .op (some 30) none (.extract (.t 27) 0), .op (some 31) none (.extract (.t 27) 1), .op (some 7) none (.mv (.t 30)), .op (some 8) none (.mv (.t 31))]) (.seq (.region [.op (some 33) none (.mv (.t 5)), .op (some 34) none (.call id_ref08Comment [.t 33] (.tup [.int .i64, .bool])), .op (some 32) none (.mv (.t 34)), .op (some 35) none (.extract (.t 32) 0), .op (some 36) none (.extract (.t 32) 1), .op (some 9) none (.mv (.t 35)), .op (some 10) none (.mv (.t 36))]) (.seq (.region [.op (some 37) none (.weak (.t 6)), .op (some 38) none (.callOwn 38 id_tailRest [.t 37] 1 .any true), .op (some 11) none (.mv (.t 38))]) (.seq (.region [.op (some 12) none (.mv (.k (AV.int .i64 0)))]) (.seq (.block 0 (.loop [5, 6, 7, 8, 9, 10, 11, 12] [38] (law11TailTells_c0))) (law11TailTells_c1))))))))))
def law11TailTells : AFunc := ⟨2, 92, [.tmp 4], law11TailTells_c2⟩
def law11TailTellsr (R : Nat → List AV → Option Res) (N : Nat) (s1 : List UInt8) (i1 : Int) : Option Res :=
  (R id_keepText [AV.str s1, AV.int .i64 40]).bind fun r1 =>
  asS r1.v fun s2 =>
  (R id_keepWithin [AV.int .i64 i1, AV.int .i64 10]).bind fun r2 =>
  asI .i64 r2.v fun i2 =>
  need (decide (0 ≤ (i2 : Int))) <|
  (([AV.str ([] : List UInt8), AV.str ([45, 45, 45] : List UInt8), AV.str ([46, 46, 46] : List UInt8), AV.str ([32] : List UInt8), AV.str ([32, 32, 35] : List UInt8), AV.str ([45, 45, 45, 32] : List UInt8), AV.str ([35] : List UInt8), AV.str ([46, 46, 46, 32, 35] : List UInt8), AV.str ([45, 45] : List UInt8), AV.str ([45, 45, 45, 9] : List UInt8)] : List AV)[Int.toNat i2]?).bind fun e1 =>
  asS e1 fun s3 =>
  need (decide (s3.length + s2.length ≤ 9223372036854775807)) <|
  (R id_keepLend [AV.bytes (s3 ++ s2)]).bind fun r3 =>
  asL r3.v fun s4 =>
  (R id_tailComment [AV.bytes s4]).bind fun r4 =>
  asIBT r4.v fun i3 b1 =>
  (R id_ref08Comment [AV.bytes (s3 ++ s2)]).bind fun r5 =>
  asIBT r5.v fun i4 b2 =>
  (R id_tailRest [AV.bytes s4]).bind fun r6 =>
  need r6.own <|
  asY r6.v fun s5 =>
  law11TailTells_L1 R N
    (fun s15 s16 i14 b9 i15 b10 i16 s17 =>
      need (decide (0 ≤ (i16 : Int)) && decide ((i16 : Int) ≤ ((s15.length : Nat) : Int))) <|
      (R id_keepSameByte [AV.bytes ((s17.drop 0).take s17.length), AV.bytes ((s15.take s15.length).drop (Int.toNat i16))]).bind fun r7 =>
      asB r7.v fun b11 =>
      need (Nat.beq s17.length s17.length) <|
      (R id_keepSpoil [AV.ref (AV.bytes s17)]).bind fun r8 =>
      asC r8.outs fun o1 q1 =>
      asRf o1 fun c2 =>
      asY c2 fun s18 =>
      asN q1 <|
      need (Nat.beq s18.length s17.length) <|
      as0T r8.v <|
      bif b11 then
        (bif (i14 : Int) == i15 then
          (bif b9 == b10 then
            ((R id_tailClear [AV.bytes s16]).bind fun r9 =>
            asB r9.v fun b12 =>
            (R id_ref08Clear [AV.bytes s15]).bind fun r10 =>
            asB r10.v fun b13 =>
            bif b12 == b13 then
              ((R id_tailMarker [AV.bytes s16]).bind fun r11 =>
              asI .i64 r11.v fun i17 =>
              (R id_ref08Marker [AV.bytes s15]).bind fun r12 =>
              asI .i64 r12.v fun i18 =>
              bif (i17 : Int) == i18 then
                ((R id_keepIntact [AV.lent s16, AV.bytes s15]).bind fun r13 =>
                asB r13.v fun b14 =>
                bif b14 then
                  ((R id_law11Wakes []).bind fun r14 =>
                  asB r14.v fun b15 =>
                  some ⟨AV.bool b15, false, []⟩)
                else
                  some ⟨AV.bool false, false, []⟩)
              else
                some ⟨AV.bool false, false, []⟩)
            else
              some ⟨AV.bool false, false, []⟩)
          else
            some ⟨AV.bool false, false, []⟩)
        else
          some ⟨AV.bool false, false, []⟩)
      else
        some ⟨AV.bool false, false, []⟩)
    N (s3 ++ s2) s4 i3 b1 i4 b2 0 s5
theorem law11TailTells_eq (R : Nat → List AV → Option Res) (N : Nat) (s1 : List UInt8) (i1 : Int) : runF gl R N law11TailTells [AV.str s1, AV.int .i64 i1] = law11TailTellsr R N s1 i1 := by
  refine Eq.trans (b :=
      (R id_keepText [AV.str s1, AV.int .i64 40]).bind fun r1 =>
      asS r1.v fun s2 =>
      (R id_keepWithin [AV.int .i64 i1, AV.int .i64 10]).bind fun r2 =>
      asI .i64 r2.v fun i2 =>
      need (decide (0 ≤ (i2 : Int))) <|
      (([AV.str ([] : List UInt8), AV.str ([45, 45, 45] : List UInt8), AV.str ([46, 46, 46] : List UInt8), AV.str ([32] : List UInt8), AV.str ([32, 32, 35] : List UInt8), AV.str ([45, 45, 45, 32] : List UInt8), AV.str ([35] : List UInt8), AV.str ([46, 46, 46, 32, 35] : List UInt8), AV.str ([45, 45] : List UInt8), AV.str ([45, 45, 45, 9] : List UInt8)] : List AV)[Int.toNat i2]?).bind fun e1 =>
      asS e1 fun s3 =>
      need (decide (s3.length + s2.length ≤ 9223372036854775807)) <|
      (R id_keepLend [AV.bytes (s3 ++ s2)]).bind fun r3 =>
      asL r3.v fun s4 =>
      (R id_tailComment [AV.bytes s4]).bind fun r4 =>
      asIBT r4.v fun i3 b1 =>
      (R id_ref08Comment [AV.bytes (s3 ++ s2)]).bind fun r5 =>
      asIBT r5.v fun i4 b2 =>
      (R id_tailRest [AV.bytes s4]).bind fun r6 =>
      need r6.own <|
      asY r6.v fun s5 =>
      rounds [5, 6, 7, 8, 9, 10, 11, 12] [38] (evC gl R N law11TailTells_c0) (Kblock 0 (Kthen gl R N law11TailTells_c1 (Kret law11TailTells.rets []))) N ⟨[(5, .imm (AV.bytes (s3 ++ s2))), (6, .imm (AV.lent s4)), (7, .imm (AV.int .i64 i3)), (8, .imm (AV.bool b1)), (9, .imm (AV.int .i64 i4)), (10, .imm (AV.bool b2)), (11, .own 38 0 s5.length none), (12, .imm (AV.int .i64 0))], [(38, .bytes s5 false)]⟩) (by kernel_rfl) ?_
  simp (config := { maxSteps := 100000000 }) only [law11TailTells_L1_eq]
  kernel_rfl
theorem law11TailTells_fit : fitF Tryd.prog law11TailTells Tryd.f9 = true := by
  kernel_rfl

def law11TailComments_L1s (R : Nat → List AV → Option Res) (N : Nat) (go : Int → List UInt8 → Int → List UInt8 → Int → Option Res) (k0 : Int → List UInt8 → Int → List UInt8 → Option Res) (i4 : Int) (s3 : List UInt8) (i5 : Int) (s4 : List UInt8) (i6 : Int) : Option Res :=
  bif decide ((i6 : Int) < i4) then
    (need (decide (s4.length + (([32] : List UInt8) : List UInt8).length ≤ 9223372036854775807)) <|
    go i4 s3 i5 (s4 ++ ([32] : List UInt8)) (IntKind.i64.wrap (i6 + 1)))
  else
    k0 i4 s3 i5 s4
def law11TailComments_L1 (R : Nat → List AV → Option Res) (N : Nat) (k0 : Int → List UInt8 → Int → List UInt8 → Option Res) : Nat → Int → List UInt8 → Int → List UInt8 → Int → Option Res
  | 0, _, _, _, _, _ => none
  | n + 1, i4, s3, i5, s4, i6 => law11TailComments_L1s R N (law11TailComments_L1 R N k0 n) k0 i4 s3 i5 s4 i6
def law11TailComments_c0 : AC := .seq (.seq (.region [.op (some 15) none (.mv (.t 8)), .op (some 16) none (.mv (.t 0)), .op (some 17) none (.bin .lss (.t 15) (.t 16))]) (.cond (.t 17) (.skip) (.exit 0 [0, 1, 2, 7] []))) (.seq (.block 1 (.region [.op (some 20) none (.mv (.t 7)), .op (some 21) none (.bin .add (.t 20) (.k (AV.str ([32] : List UInt8)))), .op (some 7) none (.mv (.t 21))])) (.region [.op (some 18) none (.mv (.t 8)), .op (some 19) none (.bin .add (.t 18) (.k (AV.int .i64 1))), .op (some 8) none (.mv (.t 19))]))
theorem law11TailComments_L1s_eq (R : Nat → List AV → Option Res) (N : Nat) (K : Ex → St → Option Res) (W : St → Option Res) (i4 : Int) (s3 : List UInt8) (i5 : Int) (s4 : List UInt8) (i6 : Int) :
    evC gl R N law11TailComments_c0 (Kseq (fun st' => W (prune [0, 1, 2, 7, 8] [] st')) K) ⟨[(0, .imm (AV.int .i64 i4)), (1, .imm (AV.str s3)), (2, .imm (AV.int .u8 i5)), (7, .imm (AV.str s4)), (8, .imm (AV.int .i64 i6))], []⟩ =
    law11TailComments_L1s R N (fun (i4 : Int) (s3 : List UInt8) (i5 : Int) (s4 : List UInt8) (i6 : Int) => W ⟨[(0, .imm (AV.int .i64 i4)), (1, .imm (AV.str s3)), (2, .imm (AV.int .u8 i5)), (7, .imm (AV.str s4)), (8, .imm (AV.int .i64 i6))], []⟩) (fun (i7 : Int) (s5 : List UInt8) (i8 : Int) (s6 : List UInt8) => K (.exit 0) ⟨[(0, .imm (AV.int .i64 i7)), (1, .imm (AV.str s5)), (2, .imm (AV.int .u8 i8)), (7, .imm (AV.str s6))], []⟩) i4 s3 i5 s4 i6 := by
  kernel_rfl
theorem law11TailComments_L1_eq (R : Nat → List AV → Option Res) (N : Nat) (K : Ex → St → Option Res) : ∀ (n : Nat) (i4 : Int) (s3 : List UInt8) (i5 : Int) (s4 : List UInt8) (i6 : Int),
    rounds [0, 1, 2, 7, 8] [] (evC gl R N law11TailComments_c0) K n ⟨[(0, .imm (AV.int .i64 i4)), (1, .imm (AV.str s3)), (2, .imm (AV.int .u8 i5)), (7, .imm (AV.str s4)), (8, .imm (AV.int .i64 i6))], []⟩ = law11TailComments_L1 R N (fun (i7 : Int) (s5 : List UInt8) (i8 : Int) (s6 : List UInt8) => K (.exit 0) ⟨[(0, .imm (AV.int .i64 i7)), (1, .imm (AV.str s5)), (2, .imm (AV.int .u8 i8)), (7, .imm (AV.str s6))], []⟩) n i4 s3 i5 s4 i6
  | 0, _, _, _, _, _ => rfl
  | n + 1, i4, s3, i5, s4, i6 => (law11TailComments_L1s_eq R N K (rounds [0, 1, 2, 7, 8] [] (evC gl R N law11TailComments_c0) K n) i4 s3 i5 s4 i6).trans
      (congrArg (fun go => law11TailComments_L1s R N go (fun (i7 : Int) (s5 : List UInt8) (i8 : Int) (s6 : List UInt8) => K (.exit 0) ⟨[(0, .imm (AV.int .i64 i7)), (1, .imm (AV.str s5)), (2, .imm (AV.int .u8 i8)), (7, .imm (AV.str s6))], []⟩) i4 s3 i5 s4 i6) (funext fun i4 => funext fun s3 => funext fun i5 => funext fun s4 => funext fun i6 => law11TailComments_L1_eq R N K n i4 s3 i5 s4 i6))
def law11TailComments_c1 : AC := .seq (.region [.op (some 23) none (.mv (.t 7)), .op (some 24) none (.bin .add (.t 23) (.k (AV.str ([35] : List UInt8)))), .op (some 25) none (.mv (.t 1)), .op (some 26) none (.bin .add (.t 24) (.t 25)), .op (some 27) none (.cvBytes (.t 26)), .op (some 28) none (.call id_tailComment [.t 27] (.tup [.int .i64, .bool])), .op (some 22) none (.mv (.t 28)), .op (some 29) none (.extract (.t 22) 0), .op (some 30) none (.extract (.t 22) 1), .op (some 9) none (.mv (.t 29)), .op (some 10) none (.mv (.t 30))]) (.seq (.seq (.region [.op (some 31) none (.mv (.t 7)), .op (some 32) none (.cvBytes (.t 31)), .op (some 33) none (.call id_tailClear [.t 32] (.bool)), .op (some 34) none (.un .not (.t 33)), .op (some 35) none (.mv (.t 34)), .split 35, .op (some 36) (some (35, false)) (.mv (.t 7)), .op (some 37) (some (35, false)) (.bin .add (.t 36) (.k (AV.str ([35] : List UInt8)))), .op (some 38) (some (35, false)) (.mv (.t 1)), .op (some 39) (some (35, false)) (.bin .add (.t 37) (.t 38)), .op (some 40) (some (35, false)) (.cvBytes (.t 39)), .op (some 41) (some (35, false)) (.call id_tailClear [.t 40] (.bool)), .op (some 42) (some (35, false)) (.mv (.t 0)), .op (some 43) (some (35, false)) (.bin .gtr (.t 42) (.k (AV.int .i64 0))), .op (some 44) (some (35, false)) (.binB .neq (.t 41) (.t 43)), .op (some 45) none (.pick (.t 35) (.k (AV.bool true)) (.t 44)), .op (some 46) none (.mv (.t 45)), .split 46, .op (some 47) (some (46, false)) (.mv (.t 10)), .op (some 48) (some (46, false)) (.mv (.t 0)), .op (some 49) (some (46, false)) (.bin .gtr (.t 48) (.k (AV.int .i64 0))), .op (some 50) (some (46, false)) (.binB .neq (.t 47) (.t 49)), .op (some 51) none (.pick (.t 46) (.k (AV.bool true)) (.t 50)), .op (some 52) none (.mv (.t 51)), .split 52, .op (some 53) (some (52, false)) (.mv (.t 10)), .op (some 54) (some (52, false)) (.mv (.t 53)), .split 54, .op (some 55) (some (54, true)) (.mv (.t 9)), .op (some 56) (some (54, true)) (.mv (.t 0)), .op (some 57) (some (54, true)) (.bin .neq (.t 55) (.t 56)), .op (some 58) (some (52, false)) (.pick (.t 54) (.t 57) (.k (AV.bool false))), .op (some 59) none (.pick (.t 52) (.k (AV.bool true)) (.t 58))]) (.cond (.t 59) (.seq (.region [.op (some 6) none (.mv (.k (AV.bool false)))]) (.ret [6] [])) (.skip))) (.seq (.seq (.region [.op (some 60) none (.mv (.t 2)), .op (some 61) none (.bin .eql (.t 60) (.k (AV.int .u8 32))), .op (some 62) none (.mv (.t 61)), .split 62, .op (some 63) (some (62, false)) (.mv (.t 2)), .op (some 64) (some (62, false)) (.bin .eql (.t 63) (.k (AV.int .u8 35))), .op (some 65) none (.pick (.t 62) (.k (AV.bool true)) (.t 64))]) (.cond (.t 65) (.seq (.region [.op (some 66) none (.call id_law11Wakes [] (.bool)), .op (some 6) none (.mv (.t 66))]) (.ret [6] [])) (.skip))) (.seq (.region [.op (some 67) none (.mv (.t 7)), .op (some 68) none (.mv (.t 2)), .op (some 69) none (.bslice [.t 68] 1 true), .op (some 70) none (.cvStr (.t 69)), .op (some 71) none (.bin .add (.t 67) (.t 70)), .op (some 72) none (.mv (.t 1)), .op (some 73) none (.bin .add (.t 71) (.t 72)), .op (some 74) none (.cvBytes (.t 73)), .op (some 75) none (.call id_tailClear [.t 74] (.bool)), .op (some 76) none (.un .not (.t 75)), .op (some 77) none (.mv (.t 76)), .split 77, .op (some 78) (some (77, true)) (.mv (.t 7)), .op (some 79) (some (77, true)) (.bin .add (.k (AV.str ([45, 45, 45] : List UInt8))) (.t 78)), .op (some 80) (some (77, true)) (.cvBytes (.t 79)), .op (some 81) (some (77, true)) (.call id_tailMarker [.t 80] (.int .i64)), .op (some 82) (some (77, true)) (.bin .eql (.t 81) (.k (AV.int .i64 1))), .op (some 83) none (.pick (.t 77) (.t 82) (.k (AV.bool false))), .op (some 84) none (.mv (.t 83)), .split 84, .op (some 85) (some (84, true)) (.mv (.t 7)), .op (some 86) (some (84, true)) (.bin .add (.k (AV.str ([46, 46, 46] : List UInt8))) (.t 85)), .op (some 87) (some (84, true)) (.cvBytes (.t 86)), .op (some 88) (some (84, true)) (.call id_tailMarker [.t 87] (.int .i64)), .op (some 89) (some (84, true)) (.bin .eql (.t 88) (.k (AV.int .i64 2))), .op (some 90) none (.pick (.t 84) (.t 89) (.k (AV.bool false))), .op (some 91) none (.mv (.t 90)), .split 91, .op (some 92) (some (91, true)) (.mv (.t 7)), .op (some 93) (some (91, true)) (.bin .add (.k (AV.str ([45, 45] : List UInt8))) (.t 92)), .op (some 94) (some (91, true)) (.cvBytes (.t 93)), .op (some 95) (some (91, true)) (.call id_tailMarker [.t 94] (.int .i64)), .op (some 96) (some (91, true)) (.bin .eql (.t 95) (.k (AV.int .i64 0))), .op (some 97) none (.pick (.t 91) (.t 96) (.k (AV.bool false))), .op (some 98) none (.mv (.t 97)), .split 98, .op (some 99) (some (98, true)) (.mv (.t 1)), .op (some 100) (some (98, true)) (.bin .add (.k (AV.str ([45, 45, 45, 32, 120] : List UInt8))) (.t 99)), .op (some 101) (some (98, true)) (.cvBytes (.t 100)), .op (some 102) (some (98, true)) (.call id_tailMarker [.t 101] (.int .i64)), .op (some 103) (some (98, true)) (.bin .eql (.t 102) (.k (AV.int .i64 3))), .op (some 104) none (.pick (.t 98) (.t 103) (.k (AV.bool false))), .op (some 105) none (.mv (.t 104)), .split 105, .op (some 106) (some (105, true)) (.mv (.t 1)), .op (some 107) (some (105, true)) (.bin .add (.k (AV.str ([45, 45, 45, 120] : List UInt8))) (.t 106)), .op (some 108) (some (105, true)) (.cvBytes (.t 107)), .op (some 109) (some (105, true)) (.call id_tailMarker [.t 108] (.int .i64)), .op (some 110) (some (105, true)) (.bin .eql (.t 109) (.k (AV.int .i64 0))), .op (some 111) none (.pick (.t 105) (.t 110) (.k (AV.bool false))), .op (some 112) none (.mv (.t 111)), .split 112, .op (some 113) (some (112, true)) (.mv (.t 7)), .op (some 114) (some (112, true)) (.bin .add (.k (AV.str ([32, 45, 45, 45] : List UInt8))) (.t 113)), .op (some 115) (some (112, true)) (.cvBytes (.t 114)), .op (some 116) (some (112, true)) (.call id_tailMarker [.t 115] (.int .i64)), .op (some 117) (some (112, true)) (.bin .eql (.t 116) (.k (AV.int .i64 0))), .op (some 118) none (.pick (.t 112) (.t 117) (.k (AV.bool false))), .op (some 119) none (.mv (.t 118)), .split 119, .op (some 120) (some (119, true)) (.call id_law11Wakes [] (.bool)), .op (some 121) none (.pick (.t 119) (.t 120) (.k (AV.bool false))), .op (some 6) none (.mv (.t 121))]) (.ret [6] []))))
def law11TailComments_c2 : AC := .seq (.region [.op (some 6) none (.mv (.k (AV.bool false)))]) (.seq (.region [.op (some 11) none (.mv (.t 0)), .op (some 12) none (.call id_keepWithin [.t 11, .k (AV.int .i64 6)] (.int .i64)), .op (some 13) none (.mv (.t 1)), .op (some 14) none (.call id_keepText [.t 13, .k (AV.int .i64 20)] (.str)), .op (some 0) none (.mv (.t 12)), .op (some 1) none (.mv (.t 14))]) (.seq (.region [.op (some 7) none (.mv (.k (AV.str ([] : List UInt8))))]) (.seq (.seq (.region [.op (some 8) none (.mv (.k (AV.int .i64 0)))]) (.block 0 (.loop [0, 1, 2, 7, 8] [] (law11TailComments_c0)))) (law11TailComments_c1))))
def law11TailComments : AFunc := ⟨3, 122, [.tmp 6], law11TailComments_c2⟩
def law11TailCommentsr (R : Nat → List AV → Option Res) (N : Nat) (i1 : Int) (s1 : List UInt8) (i2 : Int) : Option Res :=
  (R id_keepWithin [AV.int .i64 i1, AV.int .i64 6]).bind fun r1 =>
  asI .i64 r1.v fun i3 =>
  (R id_keepText [AV.str s1, AV.int .i64 20]).bind fun r2 =>
  asS r2.v fun s2 =>
  law11TailComments_L1 R N
    (fun i11 s9 i12 s10 =>
      need (decide (s10.length + (([35] : List UInt8) : List UInt8).length ≤ 9223372036854775807)) <|
      need (decide ((s10 ++ ([35] : List UInt8)).length + s9.length ≤ 9223372036854775807)) <|
      (R id_tailComment [AV.bytes ((s10 ++ ([35] : List UInt8)) ++ s9)]).bind fun r3 =>
      asIBT r3.v fun i13 b1 =>
      (R id_tailClear [AV.bytes s10]).bind fun r4 =>
      asB r4.v fun b2 =>
      bif !b2 then
        (some ⟨AV.bool false, false, []⟩)
      else
        need (decide (s10.length + (([35] : List UInt8) : List UInt8).length ≤ 9223372036854775807)) <|
        need (decide ((s10 ++ ([35] : List UInt8)).length + s9.length ≤ 9223372036854775807)) <|
        (R id_tailClear [AV.bytes ((s10 ++ ([35] : List UInt8)) ++ s9)]).bind fun r5 =>
        asB r5.v fun b3 =>
        bif !(b3 == (decide ((i11 : Int) > 0))) then
          (some ⟨AV.bool false, false, []⟩)
        else
          bif !(b1 == (decide ((i11 : Int) > 0))) then
            (some ⟨AV.bool false, false, []⟩)
          else
            bif b1 then
              (bif (i13 : Int) != i11 then
                (some ⟨AV.bool false, false, []⟩)
              else
                bif (i12 : Int) == 32 then
                  ((R id_law11Wakes []).bind fun r6 =>
                  asB r6.v fun b4 =>
                  some ⟨AV.bool b4, false, []⟩)
                else
                  bif (i12 : Int) == 35 then
                    ((R id_law11Wakes []).bind fun r7 =>
                    asB r7.v fun b5 =>
                    some ⟨AV.bool b5, false, []⟩)
                  else
                    need (decide (0 ≤ (i12 : Int)) && decide ((i12 : Int) < 256)) <|
                    need (decide (s10.length + ([UInt8.ofNat (Int.toNat i12)] : List UInt8).length ≤ 9223372036854775807)) <|
                    need (decide ((s10 ++ [UInt8.ofNat (Int.toNat i12)]).length + s9.length ≤ 9223372036854775807)) <|
                    (R id_tailClear [AV.bytes ((s10 ++ [UInt8.ofNat (Int.toNat i12)]) ++ s9)]).bind fun r8 =>
                    asB r8.v fun b6 =>
                    bif !b6 then
                      (need (decide ((([45, 45, 45] : List UInt8) : List UInt8).length + s10.length ≤ 9223372036854775807)) <|
                      (R id_tailMarker [AV.bytes (([45, 45, 45] : List UInt8) ++ s10)]).bind fun r9 =>
                      asI .i64 r9.v fun i14 =>
                      bif (i14 : Int) == 1 then
                        (need (decide ((([46, 46, 46] : List UInt8) : List UInt8).length + s10.length ≤ 9223372036854775807)) <|
                        (R id_tailMarker [AV.bytes (([46, 46, 46] : List UInt8) ++ s10)]).bind fun r10 =>
                        asI .i64 r10.v fun i15 =>
                        bif (i15 : Int) == 2 then
                          (need (decide ((([45, 45] : List UInt8) : List UInt8).length + s10.length ≤ 9223372036854775807)) <|
                          (R id_tailMarker [AV.bytes (([45, 45] : List UInt8) ++ s10)]).bind fun r11 =>
                          asI .i64 r11.v fun i16 =>
                          bif (i16 : Int) == 0 then
                            (need (decide ((([45, 45, 45, 32, 120] : List UInt8) : List UInt8).length + s9.length ≤ 9223372036854775807)) <|
                            (R id_tailMarker [AV.bytes (([45, 45, 45, 32, 120] : List UInt8) ++ s9)]).bind fun r12 =>
                            asI .i64 r12.v fun i17 =>
                            bif (i17 : Int) == 3 then
                              (need (decide ((([45, 45, 45, 120] : List UInt8) : List UInt8).length + s9.length ≤ 9223372036854775807)) <|
                              (R id_tailMarker [AV.bytes (([45, 45, 45, 120] : List UInt8) ++ s9)]).bind fun r13 =>
                              asI .i64 r13.v fun i18 =>
                              bif (i18 : Int) == 0 then
                                (need (decide ((([32, 45, 45, 45] : List UInt8) : List UInt8).length + s10.length ≤ 9223372036854775807)) <|
                                (R id_tailMarker [AV.bytes (([32, 45, 45, 45] : List UInt8) ++ s10)]).bind fun r14 =>
                                asI .i64 r14.v fun i19 =>
                                bif (i19 : Int) == 0 then
                                  ((R id_law11Wakes []).bind fun r15 =>
                                  asB r15.v fun b7 =>
                                  some ⟨AV.bool b7, false, []⟩)
                                else
                                  some ⟨AV.bool false, false, []⟩)
                              else
                                some ⟨AV.bool false, false, []⟩)
                            else
                              some ⟨AV.bool false, false, []⟩)
                          else
                            some ⟨AV.bool false, false, []⟩)
                        else
                          some ⟨AV.bool false, false, []⟩)
                      else
                        some ⟨AV.bool false, false, []⟩)
                    else
                      some ⟨AV.bool false, false, []⟩)
            else
              bif (i12 : Int) == 32 then
                ((R id_law11Wakes []).bind fun r16 =>
                asB r16.v fun b8 =>
                some ⟨AV.bool b8, false, []⟩)
              else
                bif (i12 : Int) == 35 then
                  ((R id_law11Wakes []).bind fun r17 =>
                  asB r17.v fun b9 =>
                  some ⟨AV.bool b9, false, []⟩)
                else
                  need (decide (0 ≤ (i12 : Int)) && decide ((i12 : Int) < 256)) <|
                  need (decide (s10.length + ([UInt8.ofNat (Int.toNat i12)] : List UInt8).length ≤ 9223372036854775807)) <|
                  need (decide ((s10 ++ [UInt8.ofNat (Int.toNat i12)]).length + s9.length ≤ 9223372036854775807)) <|
                  (R id_tailClear [AV.bytes ((s10 ++ [UInt8.ofNat (Int.toNat i12)]) ++ s9)]).bind fun r18 =>
                  asB r18.v fun b10 =>
                  bif !b10 then
                    (need (decide ((([45, 45, 45] : List UInt8) : List UInt8).length + s10.length ≤ 9223372036854775807)) <|
                    (R id_tailMarker [AV.bytes (([45, 45, 45] : List UInt8) ++ s10)]).bind fun r19 =>
                    asI .i64 r19.v fun i20 =>
                    bif (i20 : Int) == 1 then
                      (need (decide ((([46, 46, 46] : List UInt8) : List UInt8).length + s10.length ≤ 9223372036854775807)) <|
                      (R id_tailMarker [AV.bytes (([46, 46, 46] : List UInt8) ++ s10)]).bind fun r20 =>
                      asI .i64 r20.v fun i21 =>
                      bif (i21 : Int) == 2 then
                        (need (decide ((([45, 45] : List UInt8) : List UInt8).length + s10.length ≤ 9223372036854775807)) <|
                        (R id_tailMarker [AV.bytes (([45, 45] : List UInt8) ++ s10)]).bind fun r21 =>
                        asI .i64 r21.v fun i22 =>
                        bif (i22 : Int) == 0 then
                          (need (decide ((([45, 45, 45, 32, 120] : List UInt8) : List UInt8).length + s9.length ≤ 9223372036854775807)) <|
                          (R id_tailMarker [AV.bytes (([45, 45, 45, 32, 120] : List UInt8) ++ s9)]).bind fun r22 =>
                          asI .i64 r22.v fun i23 =>
                          bif (i23 : Int) == 3 then
                            (need (decide ((([45, 45, 45, 120] : List UInt8) : List UInt8).length + s9.length ≤ 9223372036854775807)) <|
                            (R id_tailMarker [AV.bytes (([45, 45, 45, 120] : List UInt8) ++ s9)]).bind fun r23 =>
                            asI .i64 r23.v fun i24 =>
                            bif (i24 : Int) == 0 then
                              (need (decide ((([32, 45, 45, 45] : List UInt8) : List UInt8).length + s10.length ≤ 9223372036854775807)) <|
                              (R id_tailMarker [AV.bytes (([32, 45, 45, 45] : List UInt8) ++ s10)]).bind fun r24 =>
                              asI .i64 r24.v fun i25 =>
                              bif (i25 : Int) == 0 then
                                ((R id_law11Wakes []).bind fun r25 =>
                                asB r25.v fun b11 =>
                                some ⟨AV.bool b11, false, []⟩)
                              else
                                some ⟨AV.bool false, false, []⟩)
                            else
                              some ⟨AV.bool false, false, []⟩)
                          else
                            some ⟨AV.bool false, false, []⟩)
                        else
                          some ⟨AV.bool false, false, []⟩)
                      else
                        some ⟨AV.bool false, false, []⟩)
                    else
                      some ⟨AV.bool false, false, []⟩)
                  else
                    some ⟨AV.bool false, false, []⟩)
    N i3 s2 i2 ([] : List UInt8) 0
theorem law11TailComments_eq (R : Nat → List AV → Option Res) (N : Nat) (i1 : Int) (s1 : List UInt8) (i2 : Int) : runF gl R N law11TailComments [AV.int .i64 i1, AV.str s1, AV.int .u8 i2] = law11TailCommentsr R N i1 s1 i2 := by
  refine Eq.trans (b :=
      (R id_keepWithin [AV.int .i64 i1, AV.int .i64 6]).bind fun r1 =>
      asI .i64 r1.v fun i3 =>
      (R id_keepText [AV.str s1, AV.int .i64 20]).bind fun r2 =>
      asS r2.v fun s2 =>
      rounds [0, 1, 2, 7, 8] [] (evC gl R N law11TailComments_c0) (Kblock 0 (Kthen gl R N law11TailComments_c1 (Kret law11TailComments.rets []))) N ⟨[(0, .imm (AV.int .i64 i3)), (1, .imm (AV.str s2)), (2, .imm (AV.int .u8 i2)), (7, .imm (AV.str ([] : List UInt8))), (8, .imm (AV.int .i64 0))], []⟩) (by kernel_rfl) ?_
  simp (config := { maxSteps := 100000000 }) only [law11TailComments_L1_eq]
  kernel_rfl
theorem law11TailComments_fit : fitF Tryd.prog law11TailComments Tryd.f10 = true := by
  kernel_rfl

def table : List (Nat × AFunc) := [(id_keepText, keepText), (id_plainBlank, plainBlank), (id_internalStringsliteIndexByte, internalStringsliteIndexByte), (id_stringsIndexByte, stringsIndexByte), (id_plainBracket, plainBracket), (id_plainEnds, plainEnds), (id_plainStarts, plainStarts), (id_plainStops, plainStops), (id_plainLength, plainLength), (id_unicodeUtf8DecodeRuneSlow, unicodeUtf8DecodeRuneSlow), (id_unicodeUtf8DecodeRune, unicodeUtf8DecodeRune), (id_charsRune, charsRune), (id_charsPrintable, charsPrintable), (id_plainValid, plainValid), (id_keepWithin, keepWithin), (id_law04Wakes, law04Wakes), (id_law04PlainWords, law04PlainWords), (id_law04PlainSigns, law04PlainSigns), (id_keepLend, keepLend), (id_ref01In, ref01In), (id_ref01PlainStarts, ref01PlainStarts), (id_ref01PlainLength, ref01PlainLength), (id_ref01Rune, ref01Rune), (id_ref01Printable, ref01Printable), (id_ref01Clean, ref01Clean), (id_ref01PlainValid, ref01PlainValid), (id_keepIntact, keepIntact), (id_law04PlainTells, law04PlainTells), (id_law04PlainParts, law04PlainParts), (id_slicesCloneByteByte, slicesCloneByteByte), (id_bytesTrimLeftByte, bytesTrimLeftByte), (id_bytesMakeASCIISet, bytesMakeASCIISet), (id_bytesContainsRune, bytesContainsRune), (id_bytesTrimLeftUnicode, bytesTrimLeftUnicode), (id_bytesTrimLeft, bytesTrimLeft), (id_tailRest, tailRest), (id_tailComment, tailComment), (id_tailClear, tailClear), (id_bytesEqual, bytesEqual), (id_bytesHasPrefix, bytesHasPrefix), (id_bytesCutPrefix, bytesCutPrefix), (id_tailMarker, tailMarker), (id_law11Wakes, law11Wakes), (id_law11TailMarkers, law11TailMarkers), (id_keepSameByte, keepSameByte), (id_keepSpoil, keepSpoil), (id_ref08Blanks, ref08Blanks), (id_ref08Clear, ref08Clear), (id_ref08Comment, ref08Comment), (id_ref08Marker, ref08Marker), (id_law11TailTells, law11TailTells), (id_law11TailComments, law11TailComments)]
theorem table_fits : Fits Tryd.prog table := ⟨⟨_, Tryd.func11, keepText_fit⟩, ⟨_, Tryd.func35, plainBlank_fit⟩, ⟨_, Tryd.func46, internalStringsliteIndexByte_fit⟩, ⟨_, Tryd.func36, stringsIndexByte_fit⟩, ⟨_, Tryd.func45, plainBracket_fit⟩, ⟨_, Tryd.func37, plainEnds_fit⟩, ⟨_, Tryd.func16, plainStarts_fit⟩, ⟨_, Tryd.func34, plainStops_fit⟩, ⟨_, Tryd.func14, plainLength_fit⟩, ⟨_, Tryd.func54, unicodeUtf8DecodeRuneSlow_fit⟩, ⟨_, Tryd.func44, unicodeUtf8DecodeRune_fit⟩, ⟨_, Tryd.func32, charsRune_fit⟩, ⟨_, Tryd.func33, charsPrintable_fit⟩, ⟨_, Tryd.func12, plainValid_fit⟩, ⟨_, Tryd.func13, keepWithin_fit⟩, ⟨_, Tryd.func15, law04Wakes_fit⟩, ⟨_, Tryd.func3, law04PlainWords_fit⟩, ⟨_, Tryd.func4, law04PlainSigns_fit⟩, ⟨_, Tryd.func17, keepLend_fit⟩, ⟨_, Tryd.func38, ref01In_fit⟩, ⟨_, Tryd.func18, ref01PlainStarts_fit⟩, ⟨_, Tryd.func19, ref01PlainLength_fit⟩, ⟨_, Tryd.func47, ref01Rune_fit⟩, ⟨_, Tryd.func48, ref01Printable_fit⟩, ⟨_, Tryd.func39, ref01Clean_fit⟩, ⟨_, Tryd.func20, ref01PlainValid_fit⟩, ⟨_, Tryd.func21, keepIntact_fit⟩, ⟨_, Tryd.func5, law04PlainTells_fit⟩, ⟨_, Tryd.func6, law04PlainParts_fit⟩, ⟨_, Tryd.func41, slicesCloneByteByte_fit⟩, ⟨_, Tryd.func50, bytesTrimLeftByte_fit⟩, ⟨_, Tryd.func51, bytesMakeASCIISet_fit⟩, ⟨_, Tryd.func58, bytesContainsRune_fit⟩, ⟨_, Tryd.func53, bytesTrimLeftUnicode_fit⟩, ⟨_, Tryd.func42, bytesTrimLeft_fit⟩, ⟨_, Tryd.func24, tailRest_fit⟩, ⟨_, Tryd.func27, tailComment_fit⟩, ⟨_, Tryd.func29, tailClear_fit⟩, ⟨_, Tryd.func56, bytesEqual_fit⟩, ⟨_, Tryd.func49, bytesHasPrefix_fit⟩, ⟨_, Tryd.func40, bytesCutPrefix_fit⟩, ⟨_, Tryd.func22, tailMarker_fit⟩, ⟨_, Tryd.func23, law11Wakes_fit⟩, ⟨_, Tryd.func7, law11TailMarkers_fit⟩, ⟨_, Tryd.func25, keepSameByte_fit⟩, ⟨_, Tryd.func26, keepSpoil_fit⟩, ⟨_, Tryd.func43, ref08Blanks_fit⟩, ⟨_, Tryd.func30, ref08Clear_fit⟩, ⟨_, Tryd.func28, ref08Comment_fit⟩, ⟨_, Tryd.func31, ref08Marker_fit⟩, ⟨_, Tryd.func9, law11TailTells_fit⟩, ⟨_, Tryd.func10, law11TailComments_fit⟩, trivial⟩
theorem table_fit : ∀ f F, get table f = some F → ∃ fn, Tryd.prog.funcs[f]? = some fn ∧ fitF Tryd.prog F fn = true := table_fits.get
end Go.Proofs.YtojfiifjjgfpaaaDoor.Vf
