/- The code of the functions that the statements reach, as our evaluator takes it, and what each of them comes to, readably: printed by a program of ours. No condition. -/
import Derived.Test.YtpjpmfchcijikaaVf2
import Derived.Test.YtpjpmfchcijikaaChecked
import Derived.Lib.DecodeN
namespace Go.Proofs.Ytpjpmfchcijikaa.Vf
set_option linter.unusedVariables false
set_option linter.unusedSimpArgs false
set_option maxRecDepth 100000

def gl : List (Nat × List AV) := []
def id_charsDigit : Nat := 25
def id_foldBetween : Nat := 32
def id_foldFolded : Nat := 21
def id_foldInner : Nat := 38
def id_foldTakeHeader : Nat := 16
def id_foldValue : Nat := 11
def id_internalStringsliteHasPrefix : Nat := 35
def id_keepCopyString : Nat := 14
def id_keepIntact : Nat := 19
def id_keepLend : Nat := 17
def id_keepText : Nat := 13
def id_keepWithin : Nat := 10
def id_law07FoldChomps : Nat := 7
def id_law07FoldDeeper : Nat := 3
def id_law07FoldHeaders : Nat := 9
def id_law07FoldLiteral : Nat := 5
def id_law07FoldSigns : Nat := 8
def id_law07FoldValues : Nat := 4
def id_law07FoldWords : Nat := 6
def id_law07Wakes : Nat := 12
def id_mathBitsMul : Nat := 26
def id_mathBitsMul32 : Nat := 33
def id_mathBitsMul64 : Nat := 34
def id_ref01Breaks : Nat := 23
def id_ref01More : Nat := 24
def id_ref01TakeHeader : Nat := 18
def id_ref01Value : Nat := 15
def id_stringsBuilderCopyCheckLow : Nat := 36
def id_stringsBuilderGrow : Nat := 28
def id_stringsBuilderGrowLow : Nat := 37
def id_stringsBuilderLen : Nat := 30
def id_stringsBuilderReset : Nat := 56
def id_stringsBuilderString : Nat := 31
def id_stringsBuilderWriteString : Nat := 29
def id_stringsHasPrefix : Nat := 27
def id_stringsJoin : Nat := 22
def id_stringsRepeat : Nat := 20
def asAIBT {α : Type} (v : AV) (K : Bool → Bool → Bool → Int → Int → Bool → Option α) : Option α :=
  asT v fun l1 => asC l1 fun x2 r2 => asA x2 fun l3 => asC l3 fun x4 r4 => asB x4 fun a0 => asC r4 fun x5 r5 => asB x5 fun a1 => asC r5 fun x6 r6 => asB x6 fun a2 => asC r6 fun x7 r7 => asI .i64 x7 fun a3 => asN r7 <| asC r2 fun x8 r8 => asI .i64 x8 fun a4 => asC r8 fun x9 r9 => asB x9 fun a5 => asN r9 <| K a0 a1 a2 a3 a4 a5

def keepWithin_c0 : AC := .seq (.region [.op (some 4) none (.mv (.k (AV.int .i64 0)))]) (.seq (.seq (.region [.op (some 6) none (.mv (.t 1)), .op (some 7) none (.bin .lss (.t 6) (.k (AV.int .i64 1)))]) (.cond (.t 7) (.seq (.region [.op (some 4) none (.mv (.k (AV.int .i64 0)))]) (.ret [4] [])) (.skip))) (.seq (.region [.op (some 8) none (.mv (.t 0)), .op (some 9) none (.mv (.t 1)), .op (some 10) none (.bin .rem (.t 8) (.t 9)), .op (some 5) none (.mv (.t 10))]) (.seq (.seq (.region [.op (some 11) none (.mv (.t 5)), .op (some 12) none (.bin .lss (.t 11) (.k (AV.int .i64 0)))]) (.cond (.t 12) (.region [.op (some 13) none (.mv (.t 5)), .op (some 14) none (.mv (.t 1)), .op (some 15) none (.bin .add (.t 13) (.t 14)), .op (some 5) none (.mv (.t 15))]) (.skip))) (.seq (.region [.op (some 16) none (.mv (.t 5)), .op (some 4) none (.mv (.t 16))]) (.ret [4] [])))))
def keepWithin : AFunc := ⟨2, 17, [.tmp 4], keepWithin_c0⟩
def keepWithinr (R : Nat → List AV → Option Res) (N : Nat) (i1 : Int) (i2 : Int) : Option Res :=
  bif decide ((i2 : Int) < 1) then
    (some ⟨AV.int .i64 0, false, []⟩)
  else
    need (!decide (i2 = 0)) <|
    bif decide (((Int.tmod i1 i2) : Int) < 0) then
      (some ⟨AV.int .i64 (IntKind.i64.wrap ((Int.tmod i1 i2) + i2)), false, []⟩)
    else
      some ⟨AV.int .i64 (Int.tmod i1 i2), false, []⟩
theorem keepWithin_eq (R : Nat → List AV → Option Res) (N : Nat) (i1 : Int) (i2 : Int) : runF gl R N keepWithin [AV.int .i64 i1, AV.int .i64 i2] = keepWithinr R N i1 i2 := by
  kernel_rfl
theorem keepWithin_fit : fitF Try.prog keepWithin Try.f10 = true := by
  kernel_rfl

def internalStringsliteHasPrefix_c0 : AC := .seq (.region [.op (some 4) none (.mv (.k (AV.bool false)))]) (.seq (.region [.op (some 5) none (.mv (.t 0)), .op (some 6) none (.len (.t 5) true), .op (some 7) none (.mv (.t 1)), .op (some 8) none (.len (.t 7) true), .op (some 9) none (.bin .geq (.t 6) (.t 8)), .op (some 10) none (.mv (.t 9)), .split 10, .op (some 11) (some (10, true)) (.mv (.t 0)), .op (some 12) (some (10, true)) (.mv (.t 1)), .op (some 13) (some (10, true)) (.len (.t 12) true), .op (some 14) (some (10, true)) (.sliceS (.t 11) none (some (.t 13))), .op (some 15) (some (10, true)) (.mv (.t 1)), .op (some 16) (some (10, true)) (.bin .eql (.t 14) (.t 15)), .op (some 17) none (.pick (.t 10) (.t 16) (.k (AV.bool false))), .op (some 4) none (.mv (.t 17))]) (.ret [4] []))
def internalStringsliteHasPrefix : AFunc := ⟨2, 18, [.tmp 4], internalStringsliteHasPrefix_c0⟩
def internalStringsliteHasPrefixr (R : Nat → List AV → Option Res) (N : Nat) (s1 : List UInt8) (s2 : List UInt8) : Option Res :=
  bif decide ((((s1.length : Nat) : Int) : Int) ≥ ((s2.length : Nat) : Int)) then
    (need (decide (0 ≤ (((s2.length : Nat) : Int) : Int)) && decide ((((s2.length : Nat) : Int) : Int) ≤ ((s1.length : Nat) : Int))) <|
    some ⟨AV.bool (((s1.take (Int.toNat ((s2.length : Nat) : Int))).drop 0) == s2), false, []⟩)
  else
    some ⟨AV.bool false, false, []⟩
theorem internalStringsliteHasPrefix_eq (R : Nat → List AV → Option Res) (N : Nat) (s1 : List UInt8) (s2 : List UInt8) : runF gl R N internalStringsliteHasPrefix [AV.str s1, AV.str s2] = internalStringsliteHasPrefixr R N s1 s2 := by
  kernel_rfl
theorem internalStringsliteHasPrefix_fit : fitF Try.prog internalStringsliteHasPrefix Try.f35 = true := by
  kernel_rfl

def stringsHasPrefix_c0 : AC := .seq (.region [.op (some 4) none (.mv (.k (AV.bool false)))]) (.seq (.region [.op (some 5) none (.mv (.t 0)), .op (some 6) none (.mv (.t 1)), .op (some 7) none (.call id_internalStringsliteHasPrefix [.t 5, .t 6] (.bool)), .op (some 4) none (.mv (.t 7))]) (.ret [4] []))
def stringsHasPrefix : AFunc := ⟨2, 8, [.tmp 4], stringsHasPrefix_c0⟩
def stringsHasPrefixr (R : Nat → List AV → Option Res) (N : Nat) (s1 : List UInt8) (s2 : List UInt8) : Option Res :=
  (R id_internalStringsliteHasPrefix [AV.str s1, AV.str s2]).bind fun r1 =>
  asB r1.v fun b1 =>
  some ⟨AV.bool b1, false, []⟩
theorem stringsHasPrefix_eq (R : Nat → List AV → Option Res) (N : Nat) (s1 : List UInt8) (s2 : List UInt8) : runF gl R N stringsHasPrefix [AV.str s1, AV.str s2] = stringsHasPrefixr R N s1 s2 := by
  kernel_rfl
theorem stringsHasPrefix_fit : fitF Try.prog stringsHasPrefix Try.f27 = true := by
  kernel_rfl

def foldInner_c0 : AC := .seq (.region [.op (some 2) none (.mv (.k (AV.bool false)))]) (.seq (.region [.op (some 3) none (.mv (.t 0)), .op (some 4) none (.bin .neq (.t 3) (.k (AV.str ([] : List UInt8)))), .op (some 5) none (.mv (.t 4)), .split 5, .op (some 6) (some (5, true)) (.mv (.t 0)), .op (some 7) (some (5, true)) (.index (.t 6) (.k (AV.int .i64 0))), .op (some 8) (some (5, true)) (.bin .eql (.t 7) (.k (AV.int .u8 32))), .op (some 9) (some (5, true)) (.mv (.t 8)), .split 9, .op (some 10) (some (9, false)) (.mv (.t 0)), .op (some 11) (some (9, false)) (.index (.t 10) (.k (AV.int .i64 0))), .op (some 12) (some (9, false)) (.bin .eql (.t 11) (.k (AV.int .u8 9))), .op (some 13) (some (5, true)) (.pick (.t 9) (.k (AV.bool true)) (.t 12)), .op (some 14) none (.pick (.t 5) (.t 13) (.k (AV.bool false))), .op (some 2) none (.mv (.t 14))]) (.ret [2] []))
def foldInner : AFunc := ⟨1, 15, [.tmp 2], foldInner_c0⟩
def foldInnerr (R : Nat → List AV → Option Res) (N : Nat) (s1 : List UInt8) : Option Res :=
  bif !(s1 == ([] : List UInt8)) then
    (need (decide (0 ≤ (0 : Int))) <|
    (s1[Int.toNat 0]?).bind fun c1 =>
    bif ((c1.toNat : Int) : Int) == 32 then
      (some ⟨AV.bool true, false, []⟩)
    else
      need (decide (0 ≤ (0 : Int))) <|
      (s1[Int.toNat 0]?).bind fun c2 =>
      some ⟨AV.bool (((c2.toNat : Int) : Int) == 9), false, []⟩)
  else
    some ⟨AV.bool false, false, []⟩
theorem foldInner_eq (R : Nat → List AV → Option Res) (N : Nat) (s1 : List UInt8) : runF gl R N foldInner [AV.str s1] = foldInnerr R N s1 := by
  kernel_rfl
theorem foldInner_fit : fitF Try.prog foldInner Try.f38 = true := by
  kernel_rfl

def foldBetween_c0 : AC := .seq (.region [.op (some 6) none (.mv (.k (AV.str ([] : List UInt8))))]) (.seq (.seq (.region [.op (some 7) none (.mv (.t 0)), .op (some 8) none (.call id_foldInner [.t 7] (.bool)), .op (some 9) none (.mv (.t 8)), .split 9, .op (some 10) (some (9, false)) (.mv (.t 1)), .op (some 11) (some (9, false)) (.call id_foldInner [.t 10] (.bool)), .op (some 12) none (.pick (.t 9) (.k (AV.bool true)) (.t 11))]) (.cond (.t 12) (.seq (.region [.op (some 13) none (.mv (.t 2)), .op (some 14) none (.bin .add (.t 13) (.k (AV.int .i64 1))), .op (some 15) none (.call id_stringsRepeat [.k (AV.str ([10] : List UInt8)), .t 14] (.str)), .op (some 6) none (.mv (.t 15))]) (.ret [6] [])) (.skip))) (.seq (.seq (.region [.op (some 16) none (.mv (.t 2)), .op (some 17) none (.bin .eql (.t 16) (.k (AV.int .i64 0)))]) (.cond (.t 17) (.seq (.region [.op (some 6) none (.mv (.k (AV.str ([32] : List UInt8))))]) (.ret [6] [])) (.skip))) (.seq (.region [.op (some 18) none (.mv (.t 2)), .op (some 19) none (.call id_stringsRepeat [.k (AV.str ([10] : List UInt8)), .t 18] (.str)), .op (some 6) none (.mv (.t 19))]) (.ret [6] []))))
def foldBetween : AFunc := ⟨3, 20, [.tmp 6], foldBetween_c0⟩
def foldBetweenr (R : Nat → List AV → Option Res) (N : Nat) (s1 : List UInt8) (s2 : List UInt8) (i1 : Int) : Option Res :=
  (R id_foldInner [AV.str s1]).bind fun r1 =>
  asB r1.v fun b1 =>
  bif b1 then
    ((R id_stringsRepeat [AV.str ([10] : List UInt8), AV.int .i64 (IntKind.i64.wrap (i1 + 1))]).bind fun r2 =>
    asS r2.v fun s3 =>
    some ⟨AV.str s3, false, []⟩)
  else
    (R id_foldInner [AV.str s2]).bind fun r3 =>
    asB r3.v fun b2 =>
    bif b2 then
      ((R id_stringsRepeat [AV.str ([10] : List UInt8), AV.int .i64 (IntKind.i64.wrap (i1 + 1))]).bind fun r4 =>
      asS r4.v fun s4 =>
      some ⟨AV.str s4, false, []⟩)
    else
      bif (i1 : Int) == 0 then
        (some ⟨AV.str ([32] : List UInt8), false, []⟩)
      else
        (R id_stringsRepeat [AV.str ([10] : List UInt8), AV.int .i64 i1]).bind fun r5 =>
        asS r5.v fun s5 =>
        some ⟨AV.str s5, false, []⟩
theorem foldBetween_eq (R : Nat → List AV → Option Res) (N : Nat) (s1 : List UInt8) (s2 : List UInt8) (i1 : Int) : runF gl R N foldBetween [AV.str s1, AV.str s2, AV.int .i64 i1] = foldBetweenr R N s1 s2 i1 := by
  kernel_rfl
theorem foldBetween_fit : fitF Try.prog foldBetween Try.f32 = true := by
  kernel_rfl

def foldValue_L1s (R : Nat → List AV → Option Res) (N : Nat) (go : List AV → Int → Bool → Bool → Bool → Int → Option Res) (k0 : List AV → Int → Bool → Bool → Bool → Int → Option Res) (l2 : List AV) (i2 : Int) (b4 : Bool) (b5 : Bool) (b6 : Bool) (i3 : Int) : Option Res :=
  bif decide ((i2 : Int) > 0) then
    (need (decide (0 ≤ (IntKind.i64.wrap (i2 - 1) : Int))) <|
    (l2[Int.toNat (IntKind.i64.wrap (i2 - 1))]?).bind fun e1 =>
    asS e1 fun s1 =>
    bif s1 == ([] : List UInt8) then
      (go l2 (IntKind.i64.wrap (i2 - 1)) b4 b5 b6 i3)
    else
      k0 l2 i2 b4 b5 b6 i3)
  else
    k0 l2 i2 b4 b5 b6 i3
def foldValue_L1 (R : Nat → List AV → Option Res) (N : Nat) (k0 : List AV → Int → Bool → Bool → Bool → Int → Option Res) : Nat → List AV → Int → Bool → Bool → Bool → Int → Option Res
  | 0, _, _, _, _, _, _ => none
  | n + 1, l2, i2, b4, b5, b6, i3 => foldValue_L1s R N (foldValue_L1 R N k0 n) k0 l2 i2 b4 b5 b6 i3
def foldValue_c0 : AC := .seq (.seq (.region [.op (some 9) none (.mv (.t 5)), .op (some 10) none (.bin .gtr (.t 9) (.k (AV.int .i64 0))), .op (some 11) none (.mv (.t 10)), .split 11, .op (some 12) (some (11, true)) (.mv (.t 1)), .op (some 13) (some (11, true)) (.mv (.t 5)), .op (some 14) (some (11, true)) (.bin .sub (.t 13) (.k (AV.int .i64 1))), .op (some 15) (some (11, true)) (.iaddr (.t 12) (.t 14) 1 (.str)), .op (some 16) (some (11, true)) (.load (.t 15) none (.str)), .op (some 17) (some (11, true)) (.bin .eql (.t 16) (.k (AV.str ([] : List UInt8)))), .op (some 18) none (.pick (.t 11) (.t 17) (.k (AV.bool false)))]) (.cond (.t 18) (.skip) (.exit 0 [1, 2, 5] [1002]))) (.block 1 (.region [.op (some 19) none (.mv (.t 5)), .op (some 20) none (.bin .sub (.t 19) (.k (AV.int .i64 1))), .op (some 5) none (.mv (.t 20))]))
theorem foldValue_L1s_eq (R : Nat → List AV → Option Res) (N : Nat) (K : Ex → St → Option Res) (W : St → Option Res) (l2 : List AV) (i2 : Int) (b4 : Bool) (b5 : Bool) (b6 : Bool) (i3 : Int) :
    evC gl R N foldValue_c0 (Kseq (fun st' => W (prune [1, 2, 5] [1002] st')) K) ⟨[(1, .imm (AV.row 1 l2)), (2, .ptr 1002 0 0), (5, .imm (AV.int .i64 i2))], [(1002, .box [.imm (AV.bool b4), .imm (AV.bool b5), .imm (AV.bool b6), .imm (AV.int .i64 i3)])]⟩ =
    foldValue_L1s R N (fun (l2 : List AV) (i2 : Int) (b4 : Bool) (b5 : Bool) (b6 : Bool) (i3 : Int) => W ⟨[(1, .imm (AV.row 1 l2)), (2, .ptr 1002 0 0), (5, .imm (AV.int .i64 i2))], [(1002, .box [.imm (AV.bool b4), .imm (AV.bool b5), .imm (AV.bool b6), .imm (AV.int .i64 i3)])]⟩) (fun (l3 : List AV) (i4 : Int) (b7 : Bool) (b8 : Bool) (b9 : Bool) (i5 : Int) => K (.exit 0) ⟨[(1, .imm (AV.row 1 l3)), (2, .ptr 1002 0 0), (5, .imm (AV.int .i64 i4))], [(1002, .box [.imm (AV.bool b7), .imm (AV.bool b8), .imm (AV.bool b9), .imm (AV.int .i64 i5)])]⟩) l2 i2 b4 b5 b6 i3 := by
  kernel_rfl
theorem foldValue_L1_eq (R : Nat → List AV → Option Res) (N : Nat) (K : Ex → St → Option Res) : ∀ (n : Nat) (l2 : List AV) (i2 : Int) (b4 : Bool) (b5 : Bool) (b6 : Bool) (i3 : Int),
    rounds [1, 2, 5] [1002] (evC gl R N foldValue_c0) K n ⟨[(1, .imm (AV.row 1 l2)), (2, .ptr 1002 0 0), (5, .imm (AV.int .i64 i2))], [(1002, .box [.imm (AV.bool b4), .imm (AV.bool b5), .imm (AV.bool b6), .imm (AV.int .i64 i3)])]⟩ = foldValue_L1 R N (fun (l3 : List AV) (i4 : Int) (b7 : Bool) (b8 : Bool) (b9 : Bool) (i5 : Int) => K (.exit 0) ⟨[(1, .imm (AV.row 1 l3)), (2, .ptr 1002 0 0), (5, .imm (AV.int .i64 i4))], [(1002, .box [.imm (AV.bool b7), .imm (AV.bool b8), .imm (AV.bool b9), .imm (AV.int .i64 i5)])]⟩) n l2 i2 b4 b5 b6 i3
  | 0, _, _, _, _, _, _ => rfl
  | n + 1, l2, i2, b4, b5, b6, i3 => (foldValue_L1s_eq R N K (rounds [1, 2, 5] [1002] (evC gl R N foldValue_c0) K n) l2 i2 b4 b5 b6 i3).trans
      (congrArg (fun go => foldValue_L1s R N go (fun (l3 : List AV) (i4 : Int) (b7 : Bool) (b8 : Bool) (b9 : Bool) (i5 : Int) => K (.exit 0) ⟨[(1, .imm (AV.row 1 l3)), (2, .ptr 1002 0 0), (5, .imm (AV.int .i64 i4))], [(1002, .box [.imm (AV.bool b7), .imm (AV.bool b8), .imm (AV.bool b9), .imm (AV.int .i64 i5)])]⟩) l2 i2 b4 b5 b6 i3) (funext fun l2 => funext fun i2 => funext fun b4 => funext fun b5 => funext fun b6 => funext fun i3 => foldValue_L1_eq R N K n l2 i2 b4 b5 b6 i3))
def foldValue_c1 : AC := .seq (.region [.op (some 6) none (.mv (.k (AV.str ([] : List UInt8))))]) (.seq (.seq (.region [.op (some 21) none (.faddr (.t 2) 1), .op (some 22) none (.load (.t 21) none (.bool)), .op (some 23) none (.un .not (.t 22)), .op (some 24) none (.mv (.t 23)), .split 24, .op (some 25) (some (24, true)) (.mv (.t 5)), .op (some 26) (some (24, true)) (.bin .gtr (.t 25) (.k (AV.int .i64 0))), .op (some 27) none (.pick (.t 24) (.t 26) (.k (AV.bool false)))]) (.cond (.t 27) (.region [.op (some 6) none (.mv (.k (AV.str ([10] : List UInt8))))]) (.skip))) (.seq (.seq (.region [.op (some 28) none (.faddr (.t 2) 1), .op (some 29) none (.load (.t 28) none (.bool)), .op (some 30) none (.un .not (.t 29)), .op (some 31) none (.mv (.t 30)), .split 31, .op (some 32) (some (31, true)) (.faddr (.t 2) 2), .op (some 33) (some (31, true)) (.load (.t 32) none (.bool)), .op (some 34) none (.pick (.t 31) (.t 33) (.k (AV.bool false)))]) (.cond (.t 34) (.region [.op (some 35) none (.mv (.t 6)), .op (some 36) none (.mv (.t 1)), .op (some 37) none (.len (.t 36) false), .op (some 38) none (.mv (.t 5)), .op (some 39) none (.bin .sub (.t 37) (.t 38)), .op (some 40) none (.call id_stringsRepeat [.k (AV.str ([10] : List UInt8)), .t 39] (.str)), .op (some 41) none (.bin .add (.t 35) (.t 40)), .op (some 6) none (.mv (.t 41))]) (.skip))) (.seq (.seq (.region [.op (some 42) none (.faddr (.t 2) 0), .op (some 43) none (.load (.t 42) none (.bool))]) (.cond (.t 43) (.seq (.region [.op (some 44) none (.mv (.t 1)), .op (some 45) none (.mv (.t 5)), .op (some 46) none (.slice (.t 44) none (some (.t 45)) 1), .op (some 47) none (.call id_foldFolded [.t 46] (.str)), .op (some 48) none (.mv (.t 6)), .op (some 49) none (.bin .add (.t 47) (.t 48)), .op (some 4) none (.mv (.t 49))]) (.ret [4] [])) (.skip))) (.seq (.region [.op (some 50) none (.mv (.t 1)), .op (some 51) none (.mv (.t 5)), .op (some 52) none (.slice (.t 50) none (some (.t 51)) 1), .op (some 53) none (.call id_stringsJoin [.t 52, .k (AV.str ([10] : List UInt8))] (.str)), .op (some 54) none (.mv (.t 6)), .op (some 55) none (.bin .add (.t 53) (.t 54)), .op (some 4) none (.mv (.t 55))]) (.ret [4] [])))))
def foldValue_c2 : AC := .seq (.region [.op (some 2) none (.box 1002 (.t 0) 4), .op (some 4) none (.mv (.k (AV.str ([] : List UInt8))))]) (.seq (.region [.op (some 7) none (.mv (.t 1)), .op (some 8) none (.len (.t 7) false), .op (some 5) none (.mv (.t 8))]) (.seq (.block 0 (.loop [1, 2, 5] [1002] (foldValue_c0))) (foldValue_c1)))
def foldValue : AFunc := ⟨2, 56, [.tmp 4], foldValue_c2⟩
def foldValuer (R : Nat → List AV → Option Res) (N : Nat) (b1 : Bool) (b2 : Bool) (b3 : Bool) (i1 : Int) (l1 : List AV) : Option Res :=
  foldValue_L1 R N
    (fun l5 i8 b13 b14 b15 i9 =>
      bif !b14 then
        (bif decide ((i8 : Int) > 0) then
          (bif !b14 then
            (bif b15 then
              ((R id_stringsRepeat [AV.str ([10] : List UInt8), AV.int .i64 (IntKind.i64.wrap (((l5.length : Nat) : Int) - i8))]).bind fun r1 =>
              asS r1.v fun s2 =>
              need (decide ((([10] : List UInt8) : List UInt8).length + s2.length ≤ 9223372036854775807)) <|
              bif b13 then
                (need (decide (0 ≤ (i8 : Int)) && decide ((i8 : Int) ≤ ((l5.length : Nat) : Int))) <|
                (R id_foldFolded [AV.row 1 ((l5.take (Int.toNat i8)).drop 0)]).bind fun r2 =>
                asS r2.v fun s3 =>
                need (decide (s3.length + (([10] : List UInt8) ++ s2 : List UInt8).length ≤ 9223372036854775807)) <|
                some ⟨AV.str (s3 ++ (([10] : List UInt8) ++ s2)), false, []⟩)
              else
                need (decide (0 ≤ (i8 : Int)) && decide ((i8 : Int) ≤ ((l5.length : Nat) : Int))) <|
                (R id_stringsJoin [AV.row 1 ((l5.take (Int.toNat i8)).drop 0), AV.str ([10] : List UInt8)]).bind fun r3 =>
                asS r3.v fun s4 =>
                need (decide (s4.length + (([10] : List UInt8) ++ s2 : List UInt8).length ≤ 9223372036854775807)) <|
                some ⟨AV.str (s4 ++ (([10] : List UInt8) ++ s2)), false, []⟩)
            else
              bif b13 then
                (need (decide (0 ≤ (i8 : Int)) && decide ((i8 : Int) ≤ ((l5.length : Nat) : Int))) <|
                (R id_foldFolded [AV.row 1 ((l5.take (Int.toNat i8)).drop 0)]).bind fun r4 =>
                asS r4.v fun s5 =>
                need (decide (s5.length + (([10] : List UInt8) : List UInt8).length ≤ 9223372036854775807)) <|
                some ⟨AV.str (s5 ++ ([10] : List UInt8)), false, []⟩)
              else
                need (decide (0 ≤ (i8 : Int)) && decide ((i8 : Int) ≤ ((l5.length : Nat) : Int))) <|
                (R id_stringsJoin [AV.row 1 ((l5.take (Int.toNat i8)).drop 0), AV.str ([10] : List UInt8)]).bind fun r5 =>
                asS r5.v fun s6 =>
                need (decide (s6.length + (([10] : List UInt8) : List UInt8).length ≤ 9223372036854775807)) <|
                some ⟨AV.str (s6 ++ ([10] : List UInt8)), false, []⟩)
          else
            bif b13 then
              (need (decide (0 ≤ (i8 : Int)) && decide ((i8 : Int) ≤ ((l5.length : Nat) : Int))) <|
              (R id_foldFolded [AV.row 1 ((l5.take (Int.toNat i8)).drop 0)]).bind fun r6 =>
              asS r6.v fun s7 =>
              need (decide (s7.length + (([10] : List UInt8) : List UInt8).length ≤ 9223372036854775807)) <|
              some ⟨AV.str (s7 ++ ([10] : List UInt8)), false, []⟩)
            else
              need (decide (0 ≤ (i8 : Int)) && decide ((i8 : Int) ≤ ((l5.length : Nat) : Int))) <|
              (R id_stringsJoin [AV.row 1 ((l5.take (Int.toNat i8)).drop 0), AV.str ([10] : List UInt8)]).bind fun r7 =>
              asS r7.v fun s8 =>
              need (decide (s8.length + (([10] : List UInt8) : List UInt8).length ≤ 9223372036854775807)) <|
              some ⟨AV.str (s8 ++ ([10] : List UInt8)), false, []⟩)
        else
          bif !b14 then
            (bif b15 then
              ((R id_stringsRepeat [AV.str ([10] : List UInt8), AV.int .i64 (IntKind.i64.wrap (((l5.length : Nat) : Int) - i8))]).bind fun r8 =>
              asS r8.v fun s9 =>
              need (decide ((([] : List UInt8) : List UInt8).length + s9.length ≤ 9223372036854775807)) <|
              bif b13 then
                (need (decide (0 ≤ (i8 : Int)) && decide ((i8 : Int) ≤ ((l5.length : Nat) : Int))) <|
                (R id_foldFolded [AV.row 1 ((l5.take (Int.toNat i8)).drop 0)]).bind fun r9 =>
                asS r9.v fun s10 =>
                need (decide (s10.length + (([] : List UInt8) ++ s9 : List UInt8).length ≤ 9223372036854775807)) <|
                some ⟨AV.str (s10 ++ (([] : List UInt8) ++ s9)), false, []⟩)
              else
                need (decide (0 ≤ (i8 : Int)) && decide ((i8 : Int) ≤ ((l5.length : Nat) : Int))) <|
                (R id_stringsJoin [AV.row 1 ((l5.take (Int.toNat i8)).drop 0), AV.str ([10] : List UInt8)]).bind fun r10 =>
                asS r10.v fun s11 =>
                need (decide (s11.length + (([] : List UInt8) ++ s9 : List UInt8).length ≤ 9223372036854775807)) <|
                some ⟨AV.str (s11 ++ (([] : List UInt8) ++ s9)), false, []⟩)
            else
              bif b13 then
                (need (decide (0 ≤ (i8 : Int)) && decide ((i8 : Int) ≤ ((l5.length : Nat) : Int))) <|
                (R id_foldFolded [AV.row 1 ((l5.take (Int.toNat i8)).drop 0)]).bind fun r11 =>
                asS r11.v fun s12 =>
                need (decide (s12.length + (([] : List UInt8) : List UInt8).length ≤ 9223372036854775807)) <|
                some ⟨AV.str (s12 ++ ([] : List UInt8)), false, []⟩)
              else
                need (decide (0 ≤ (i8 : Int)) && decide ((i8 : Int) ≤ ((l5.length : Nat) : Int))) <|
                (R id_stringsJoin [AV.row 1 ((l5.take (Int.toNat i8)).drop 0), AV.str ([10] : List UInt8)]).bind fun r12 =>
                asS r12.v fun s13 =>
                need (decide (s13.length + (([] : List UInt8) : List UInt8).length ≤ 9223372036854775807)) <|
                some ⟨AV.str (s13 ++ ([] : List UInt8)), false, []⟩)
          else
            bif b13 then
              (need (decide (0 ≤ (i8 : Int)) && decide ((i8 : Int) ≤ ((l5.length : Nat) : Int))) <|
              (R id_foldFolded [AV.row 1 ((l5.take (Int.toNat i8)).drop 0)]).bind fun r13 =>
              asS r13.v fun s14 =>
              need (decide (s14.length + (([] : List UInt8) : List UInt8).length ≤ 9223372036854775807)) <|
              some ⟨AV.str (s14 ++ ([] : List UInt8)), false, []⟩)
            else
              need (decide (0 ≤ (i8 : Int)) && decide ((i8 : Int) ≤ ((l5.length : Nat) : Int))) <|
              (R id_stringsJoin [AV.row 1 ((l5.take (Int.toNat i8)).drop 0), AV.str ([10] : List UInt8)]).bind fun r14 =>
              asS r14.v fun s15 =>
              need (decide (s15.length + (([] : List UInt8) : List UInt8).length ≤ 9223372036854775807)) <|
              some ⟨AV.str (s15 ++ ([] : List UInt8)), false, []⟩)
      else
        bif !b14 then
          (bif b15 then
            ((R id_stringsRepeat [AV.str ([10] : List UInt8), AV.int .i64 (IntKind.i64.wrap (((l5.length : Nat) : Int) - i8))]).bind fun r15 =>
            asS r15.v fun s16 =>
            need (decide ((([] : List UInt8) : List UInt8).length + s16.length ≤ 9223372036854775807)) <|
            bif b13 then
              (need (decide (0 ≤ (i8 : Int)) && decide ((i8 : Int) ≤ ((l5.length : Nat) : Int))) <|
              (R id_foldFolded [AV.row 1 ((l5.take (Int.toNat i8)).drop 0)]).bind fun r16 =>
              asS r16.v fun s17 =>
              need (decide (s17.length + (([] : List UInt8) ++ s16 : List UInt8).length ≤ 9223372036854775807)) <|
              some ⟨AV.str (s17 ++ (([] : List UInt8) ++ s16)), false, []⟩)
            else
              need (decide (0 ≤ (i8 : Int)) && decide ((i8 : Int) ≤ ((l5.length : Nat) : Int))) <|
              (R id_stringsJoin [AV.row 1 ((l5.take (Int.toNat i8)).drop 0), AV.str ([10] : List UInt8)]).bind fun r17 =>
              asS r17.v fun s18 =>
              need (decide (s18.length + (([] : List UInt8) ++ s16 : List UInt8).length ≤ 9223372036854775807)) <|
              some ⟨AV.str (s18 ++ (([] : List UInt8) ++ s16)), false, []⟩)
          else
            bif b13 then
              (need (decide (0 ≤ (i8 : Int)) && decide ((i8 : Int) ≤ ((l5.length : Nat) : Int))) <|
              (R id_foldFolded [AV.row 1 ((l5.take (Int.toNat i8)).drop 0)]).bind fun r18 =>
              asS r18.v fun s19 =>
              need (decide (s19.length + (([] : List UInt8) : List UInt8).length ≤ 9223372036854775807)) <|
              some ⟨AV.str (s19 ++ ([] : List UInt8)), false, []⟩)
            else
              need (decide (0 ≤ (i8 : Int)) && decide ((i8 : Int) ≤ ((l5.length : Nat) : Int))) <|
              (R id_stringsJoin [AV.row 1 ((l5.take (Int.toNat i8)).drop 0), AV.str ([10] : List UInt8)]).bind fun r19 =>
              asS r19.v fun s20 =>
              need (decide (s20.length + (([] : List UInt8) : List UInt8).length ≤ 9223372036854775807)) <|
              some ⟨AV.str (s20 ++ ([] : List UInt8)), false, []⟩)
        else
          bif b13 then
            (need (decide (0 ≤ (i8 : Int)) && decide ((i8 : Int) ≤ ((l5.length : Nat) : Int))) <|
            (R id_foldFolded [AV.row 1 ((l5.take (Int.toNat i8)).drop 0)]).bind fun r20 =>
            asS r20.v fun s21 =>
            need (decide (s21.length + (([] : List UInt8) : List UInt8).length ≤ 9223372036854775807)) <|
            some ⟨AV.str (s21 ++ ([] : List UInt8)), false, []⟩)
          else
            need (decide (0 ≤ (i8 : Int)) && decide ((i8 : Int) ≤ ((l5.length : Nat) : Int))) <|
            (R id_stringsJoin [AV.row 1 ((l5.take (Int.toNat i8)).drop 0), AV.str ([10] : List UInt8)]).bind fun r21 =>
            asS r21.v fun s22 =>
            need (decide (s22.length + (([] : List UInt8) : List UInt8).length ≤ 9223372036854775807)) <|
            some ⟨AV.str (s22 ++ ([] : List UInt8)), false, []⟩)
    N l1 ((l1.length : Nat) : Int) b1 b2 b3 i1
theorem foldValue_eq (R : Nat → List AV → Option Res) (N : Nat) (b1 : Bool) (b2 : Bool) (b3 : Bool) (i1 : Int) (l1 : List AV) : runF gl R N foldValue [AV.agg [AV.bool b1, AV.bool b2, AV.bool b3, AV.int .i64 i1], AV.row 1 l1] = foldValuer R N b1 b2 b3 i1 l1 := by
  refine Eq.trans (b :=
      rounds [1, 2, 5] [1002] (evC gl R N foldValue_c0) (Kblock 0 (Kthen gl R N foldValue_c1 (Kret foldValue.rets))) N ⟨[(1, .imm (AV.row 1 l1)), (2, .ptr 1002 0 0), (5, .imm (AV.int .i64 ((l1.length : Nat) : Int)))], [(1002, .box [.imm (AV.bool b1), .imm (AV.bool b2), .imm (AV.bool b3), .imm (AV.int .i64 i1)])]⟩) (by kernel_rfl) ?_
  simp (config := { maxSteps := 100000000 }) only [foldValue_L1_eq]
  kernel_rfl
theorem foldValue_fit : fitF Try.prog foldValue Try.f11 = true := by
  kernel_rfl

def law07Wakes_c0 : AC := .seq (.region [.op (some 0) none (.mv (.k (AV.bool false)))]) (.seq (.region [.op (some 1) none (.build [AV.bool false, AV.bool false, AV.bool false, AV.int .i64 0] [(0, 1, .k (AV.bool true))]), .op (some 2) none (.bslice [.k (AV.str ([97] : List UInt8)), .k (AV.str ([98] : List UInt8))] 1 false), .op (some 3) none (.call id_foldValue [.t 1, .t 2] (.str)), .op (some 4) none (.bin .eql (.t 3) (.k (AV.str ([97, 32, 98, 10] : List UInt8)))), .op (some 0) none (.mv (.t 4))]) (.ret [0] []))
def law07Wakes : AFunc := ⟨0, 5, [.tmp 0], law07Wakes_c0⟩
def law07Wakesr (R : Nat → List AV → Option Res) (N : Nat) : Option Res :=
  (R id_foldValue [AV.agg [AV.bool true, AV.bool false, AV.bool false, AV.int .i64 0], AV.row 1 [AV.str ([97] : List UInt8), AV.str ([98] : List UInt8)]]).bind fun r1 =>
  asS r1.v fun s1 =>
  some ⟨AV.bool (s1 == ([97, 32, 98, 10] : List UInt8)), false, []⟩
theorem law07Wakes_eq (R : Nat → List AV → Option Res) (N : Nat) : runF gl R N law07Wakes [] = law07Wakesr R N := by
  kernel_rfl
theorem law07Wakes_fit : fitF Try.prog law07Wakes Try.f12 = true := by
  kernel_rfl

def law07FoldDeeper_L1s (R : Nat → List AV → Option Res) (N : Nat) (go : Int → List UInt8 → Int → List AV → Bool → Bool → Bool → Int → Option Res) (k0 : List UInt8 → List AV → Bool → Bool → Bool → Int → Option Res) (i3 : Int) (s1 : List UInt8) (i4 : Int) (l1 : List AV) (b1 : Bool) (b2 : Bool) (b3 : Bool) (i5 : Int) : Option Res :=
  bif decide ((i4 : Int) < i3) then
    (need (decide (((l1.drop 0).take l1.length).length + [AV.str ([] : List UInt8)].length ≤ 1099511627776)) <|
    need (decide (s1.length + (([10] : List UInt8) : List UInt8).length ≤ 9223372036854775807)) <|
    go i3 (s1 ++ ([10] : List UInt8)) (IntKind.i64.wrap (i4 + 1)) (((l1.drop 0).take l1.length) ++ [AV.str ([] : List UInt8)]) b1 b2 b3 i5)
  else
    k0 s1 l1 b1 b2 b3 i5
def law07FoldDeeper_L1 (R : Nat → List AV → Option Res) (N : Nat) (k0 : List UInt8 → List AV → Bool → Bool → Bool → Int → Option Res) : Nat → Int → List UInt8 → Int → List AV → Bool → Bool → Bool → Int → Option Res
  | 0, _, _, _, _, _, _, _, _ => none
  | n + 1, i3, s1, i4, l1, b1, b2, b3, i5 => law07FoldDeeper_L1s R N (law07FoldDeeper_L1 R N k0 n) k0 i3 s1 i4 l1 b1 b2 b3 i5
def law07FoldDeeper_c0 : AC := .seq (.seq (.region [.op (some 13) none (.mv (.t 6)), .op (some 14) none (.mv (.t 0)), .op (some 15) none (.bin .lss (.t 13) (.t 14))]) (.cond (.t 15) (.skip) (.exit 0 [3, 4, 5] [4, 1003]))) (.seq (.block 1 (.seq (.region [.op (some 18) none (.mv (.t 4)), .op (some 19) none (.bslice [.k (AV.str ([] : List UInt8))] 1 false), .op (some 20) none (.app 4 (.t 18) (.t 19) 1 .any false), .op (some 4) none (.mv (.t 20))]) (.region [.op (some 21) none (.mv (.t 5)), .op (some 22) none (.bin .add (.t 21) (.k (AV.str ([10] : List UInt8)))), .op (some 5) none (.mv (.t 22))]))) (.region [.op (some 16) none (.mv (.t 6)), .op (some 17) none (.bin .add (.t 16) (.k (AV.int .i64 1))), .op (some 6) none (.mv (.t 17))]))
theorem law07FoldDeeper_L1s_eq (R : Nat → List AV → Option Res) (N : Nat) (K : Ex → St → Option Res) (W : St → Option Res) (i3 : Int) (s1 : List UInt8) (i4 : Int) (l1 : List AV) (b1 : Bool) (b2 : Bool) (b3 : Bool) (i5 : Int) :
    evC gl R N law07FoldDeeper_c0 (Kseq (fun st' => W (prune [0, 3, 4, 5, 6] [4, 1003] st')) K) ⟨[(0, .imm (AV.int .i64 i3)), (3, .ptr 1003 0 0), (4, .own 4 0 l1.length none), (5, .imm (AV.str s1)), (6, .imm (AV.int .i64 i4))], [(4, .row 1 l1 false), (1003, .box [.imm (AV.bool b1), .imm (AV.bool b2), .imm (AV.bool b3), .imm (AV.int .i64 i5)])]⟩ =
    law07FoldDeeper_L1s R N (fun (i3 : Int) (s1 : List UInt8) (i4 : Int) (l1 : List AV) (b1 : Bool) (b2 : Bool) (b3 : Bool) (i5 : Int) => W ⟨[(0, .imm (AV.int .i64 i3)), (3, .ptr 1003 0 0), (4, .own 4 0 l1.length none), (5, .imm (AV.str s1)), (6, .imm (AV.int .i64 i4))], [(4, .row 1 l1 false), (1003, .box [.imm (AV.bool b1), .imm (AV.bool b2), .imm (AV.bool b3), .imm (AV.int .i64 i5)])]⟩) (fun (s2 : List UInt8) (l2 : List AV) (b4 : Bool) (b5 : Bool) (b6 : Bool) (i6 : Int) => K (.exit 0) ⟨[(3, .ptr 1003 0 0), (4, .own 4 0 l2.length none), (5, .imm (AV.str s2))], [(4, .row 1 l2 false), (1003, .box [.imm (AV.bool b4), .imm (AV.bool b5), .imm (AV.bool b6), .imm (AV.int .i64 i6)])]⟩) i3 s1 i4 l1 b1 b2 b3 i5 := by
  kernel_rfl
theorem law07FoldDeeper_L1_eq (R : Nat → List AV → Option Res) (N : Nat) (K : Ex → St → Option Res) : ∀ (n : Nat) (i3 : Int) (s1 : List UInt8) (i4 : Int) (l1 : List AV) (b1 : Bool) (b2 : Bool) (b3 : Bool) (i5 : Int),
    rounds [0, 3, 4, 5, 6] [4, 1003] (evC gl R N law07FoldDeeper_c0) K n ⟨[(0, .imm (AV.int .i64 i3)), (3, .ptr 1003 0 0), (4, .own 4 0 l1.length none), (5, .imm (AV.str s1)), (6, .imm (AV.int .i64 i4))], [(4, .row 1 l1 false), (1003, .box [.imm (AV.bool b1), .imm (AV.bool b2), .imm (AV.bool b3), .imm (AV.int .i64 i5)])]⟩ = law07FoldDeeper_L1 R N (fun (s2 : List UInt8) (l2 : List AV) (b4 : Bool) (b5 : Bool) (b6 : Bool) (i6 : Int) => K (.exit 0) ⟨[(3, .ptr 1003 0 0), (4, .own 4 0 l2.length none), (5, .imm (AV.str s2))], [(4, .row 1 l2 false), (1003, .box [.imm (AV.bool b4), .imm (AV.bool b5), .imm (AV.bool b6), .imm (AV.int .i64 i6)])]⟩) n i3 s1 i4 l1 b1 b2 b3 i5
  | 0, _, _, _, _, _, _, _, _ => rfl
  | n + 1, i3, s1, i4, l1, b1, b2, b3, i5 => (law07FoldDeeper_L1s_eq R N K (rounds [0, 3, 4, 5, 6] [4, 1003] (evC gl R N law07FoldDeeper_c0) K n) i3 s1 i4 l1 b1 b2 b3 i5).trans
      (congrArg (fun go => law07FoldDeeper_L1s R N go (fun (s2 : List UInt8) (l2 : List AV) (b4 : Bool) (b5 : Bool) (b6 : Bool) (i6 : Int) => K (.exit 0) ⟨[(3, .ptr 1003 0 0), (4, .own 4 0 l2.length none), (5, .imm (AV.str s2))], [(4, .row 1 l2 false), (1003, .box [.imm (AV.bool b4), .imm (AV.bool b5), .imm (AV.bool b6), .imm (AV.int .i64 i6)])]⟩) i3 s1 i4 l1 b1 b2 b3 i5) (funext fun i3 => funext fun s1 => funext fun i4 => funext fun l1 => funext fun b1 => funext fun b2 => funext fun b3 => funext fun i5 => law07FoldDeeper_L1_eq R N K n i3 s1 i4 l1 b1 b2 b3 i5))
def law07FoldDeeper_c1 : AC := .seq (.region [.op (some 23) none (.mv (.t 4)), .op (some 24) none (.bslice [.k (AV.str ([32, 98] : List UInt8)), .k (AV.str ([99] : List UInt8))] 1 false), .op (some 25) none (.app 4 (.t 23) (.t 24) 1 .any false), .op (some 4) none (.mv (.t 25))]) (.seq (.region [.op (some 26) none (.mv (.t 5)), .op (some 27) none (.bin .add (.t 26) (.k (AV.str ([10, 32, 98, 10, 99] : List UInt8)))), .op (some 5) none (.mv (.t 27))]) (.seq (.region [.op (some 28) none (.load (.t 3) (some 4) (.agg [.bool, .bool, .bool, .int .i64])), .op (some 29) none (.mv (.t 4)), .op (some 30) none (.call id_foldValue [.t 28, .t 29] (.str)), .op (some 31) none (.mv (.t 5)), .op (some 32) none (.bin .eql (.t 30) (.t 31)), .op (some 33) none (.mv (.t 32)), .split 33, .op (some 34) (some (33, true)) (.build [AV.bool false, AV.bool false, AV.bool false, AV.int .i64 0] [(0, 1, .k (AV.bool true))]), .op (some 35) (some (33, true)) (.bslice [.k (AV.str ([] : List UInt8)), .k (AV.str ([97] : List UInt8)), .k (AV.str ([9, 98] : List UInt8))] 1 false), .op (some 36) (some (33, true)) (.call id_foldValue [.t 34, .t 35] (.str)), .op (some 37) (some (33, true)) (.bin .eql (.t 36) (.k (AV.str ([10, 97, 10, 9, 98, 10] : List UInt8)))), .op (some 38) none (.pick (.t 33) (.t 37) (.k (AV.bool false))), .op (some 39) none (.mv (.t 38)), .split 39, .op (some 40) (some (39, true)) (.load (.t 3) (some 4) (.agg [.bool, .bool, .bool, .int .i64])), .op (some 41) (some (39, true)) (.call id_foldValue [.t 40, .k (AV.row 1 [])] (.str)), .op (some 42) (some (39, true)) (.bin .eql (.t 41) (.k (AV.str ([] : List UInt8)))), .op (some 43) none (.pick (.t 39) (.t 42) (.k (AV.bool false))), .op (some 44) none (.mv (.t 43)), .split 44, .op (some 45) (some (44, true)) (.build [AV.bool false, AV.bool false, AV.bool false, AV.int .i64 0] [(2, 1, .k (AV.bool true))]), .op (some 46) (some (44, true)) (.bslice [.k (AV.str ([] : List UInt8)), .k (AV.str ([] : List UInt8))] 1 false), .op (some 47) (some (44, true)) (.call id_foldValue [.t 45, .t 46] (.str)), .op (some 48) (some (44, true)) (.bin .eql (.t 47) (.k (AV.str ([10, 10] : List UInt8)))), .op (some 49) none (.pick (.t 44) (.t 48) (.k (AV.bool false))), .op (some 50) none (.mv (.t 49)), .split 50, .op (some 51) (some (50, true)) (.build [AV.bool false, AV.bool false, AV.bool false, AV.int .i64 0] []), .op (some 52) (some (50, true)) (.bslice [.k (AV.str ([] : List UInt8)), .k (AV.str ([] : List UInt8))] 1 false), .op (some 53) (some (50, true)) (.call id_foldValue [.t 51, .t 52] (.str)), .op (some 54) (some (50, true)) (.bin .eql (.t 53) (.k (AV.str ([] : List UInt8)))), .op (some 55) none (.pick (.t 50) (.t 54) (.k (AV.bool false))), .op (some 56) none (.mv (.t 55)), .split 56, .op (some 57) (some (56, true)) (.call id_law07Wakes [] (.bool)), .op (some 58) none (.pick (.t 56) (.t 57) (.k (AV.bool false))), .op (some 2) none (.mv (.t 58))]) (.ret [2] [])))
def law07FoldDeeper_c2 : AC := .seq (.region [.op (some 2) none (.mv (.k (AV.bool false)))]) (.seq (.region [.op (some 7) none (.mv (.t 0)), .op (some 8) none (.call id_keepWithin [.t 7, .k (AV.int .i64 4)] (.int .i64)), .op (some 0) none (.mv (.t 8))]) (.seq (.region [.op (some 9) none (.build [AV.bool false, AV.bool false, AV.bool false, AV.int .i64 0] [(0, 1, .k (AV.bool true)), (1, 1, .k (AV.bool true))]), .op (some 3) none (.alloc 1003 [AV.bool false, AV.bool false, AV.bool false, AV.int .i64 0]), .op none none (.store (.t 3) (.t 9) 4)]) (.seq (.region [.op (some 4) none (.nilOwn 4 (some (1, .any)))]) (.seq (.region [.op (some 5) none (.mv (.k (AV.str ([97] : List UInt8))))]) (.seq (.region [.op (some 10) none (.mv (.t 4)), .op (some 11) none (.bslice [.k (AV.str ([97] : List UInt8))] 1 false), .op (some 12) none (.app 4 (.t 10) (.t 11) 1 .any false), .op (some 4) none (.mv (.t 12))]) (.seq (.seq (.region [.op (some 6) none (.mv (.k (AV.int .i64 0)))]) (.block 0 (.loop [0, 3, 4, 5, 6] [4, 1003] (law07FoldDeeper_c0)))) (law07FoldDeeper_c1)))))))
def law07FoldDeeper : AFunc := ⟨1, 59, [.tmp 2], law07FoldDeeper_c2⟩
def law07FoldDeeperr (R : Nat → List AV → Option Res) (N : Nat) (i1 : Int) : Option Res :=
  (R id_keepWithin [AV.int .i64 i1, AV.int .i64 4]).bind fun r1 =>
  asI .i64 r1.v fun i2 =>
  need (decide (((([] : List AV).drop 0).take 0).length + [AV.str ([97] : List UInt8)].length ≤ 1099511627776)) <|
  law07FoldDeeper_L1 R N
    (fun s4 l4 b10 b11 b12 i8 =>
      need (decide (((l4.drop 0).take l4.length).length + [AV.str ([32, 98] : List UInt8), AV.str ([99] : List UInt8)].length ≤ 1099511627776)) <|
      need (decide (s4.length + (([10, 32, 98, 10, 99] : List UInt8) : List UInt8).length ≤ 9223372036854775807)) <|
      (R id_foldValue [AV.agg [AV.bool b10, AV.bool b11, AV.bool b12, AV.int .i64 i8], AV.row 1 (((((l4.drop 0).take l4.length) ++ [AV.str ([32, 98] : List UInt8), AV.str ([99] : List UInt8)]).drop 0).take ((((l4.drop 0).take l4.length) ++ [AV.str ([32, 98] : List UInt8), AV.str ([99] : List UInt8)]).length))]).bind fun r2 =>
      asS r2.v fun s5 =>
      bif s5 == (s4 ++ ([10, 32, 98, 10, 99] : List UInt8)) then
        ((R id_foldValue [AV.agg [AV.bool true, AV.bool false, AV.bool false, AV.int .i64 0], AV.row 1 [AV.str ([] : List UInt8), AV.str ([97] : List UInt8), AV.str ([9, 98] : List UInt8)]]).bind fun r3 =>
        asS r3.v fun s6 =>
        bif s6 == ([10, 97, 10, 9, 98, 10] : List UInt8) then
          ((R id_foldValue [AV.agg [AV.bool b10, AV.bool b11, AV.bool b12, AV.int .i64 i8], AV.row 1 []]).bind fun r4 =>
          asS r4.v fun s7 =>
          bif s7 == ([] : List UInt8) then
            ((R id_foldValue [AV.agg [AV.bool false, AV.bool false, AV.bool true, AV.int .i64 0], AV.row 1 [AV.str ([] : List UInt8), AV.str ([] : List UInt8)]]).bind fun r5 =>
            asS r5.v fun s8 =>
            bif s8 == ([10, 10] : List UInt8) then
              ((R id_foldValue [AV.agg [AV.bool false, AV.bool false, AV.bool false, AV.int .i64 0], AV.row 1 [AV.str ([] : List UInt8), AV.str ([] : List UInt8)]]).bind fun r6 =>
              asS r6.v fun s9 =>
              bif s9 == ([] : List UInt8) then
                ((R id_law07Wakes []).bind fun r7 =>
                asB r7.v fun b13 =>
                some ⟨AV.bool b13, false, []⟩)
              else
                some ⟨AV.bool false, false, []⟩)
            else
              some ⟨AV.bool false, false, []⟩)
          else
            some ⟨AV.bool false, false, []⟩)
        else
          some ⟨AV.bool false, false, []⟩)
      else
        some ⟨AV.bool false, false, []⟩)
    N i2 ([97] : List UInt8) 0 (((([] : List AV).drop 0).take 0) ++ [AV.str ([97] : List UInt8)]) true true false 0
theorem law07FoldDeeper_eq (R : Nat → List AV → Option Res) (N : Nat) (i1 : Int) : runF gl R N law07FoldDeeper [AV.int .i64 i1] = law07FoldDeeperr R N i1 := by
  refine Eq.trans (b :=
      (R id_keepWithin [AV.int .i64 i1, AV.int .i64 4]).bind fun r1 =>
      asI .i64 r1.v fun i2 =>
      need (decide (((([] : List AV).drop 0).take 0).length + [AV.str ([97] : List UInt8)].length ≤ 1099511627776)) <|
      rounds [0, 3, 4, 5, 6] [4, 1003] (evC gl R N law07FoldDeeper_c0) (Kblock 0 (Kthen gl R N law07FoldDeeper_c1 (Kret law07FoldDeeper.rets))) N ⟨[(0, .imm (AV.int .i64 i2)), (3, .ptr 1003 0 0), (4, .own 4 0 ((((([] : List AV).drop 0).take 0) ++ [AV.str ([97] : List UInt8)]).length) none), (5, .imm (AV.str ([97] : List UInt8))), (6, .imm (AV.int .i64 0))], [(4, .row 1 (((([] : List AV).drop 0).take 0) ++ [AV.str ([97] : List UInt8)]) false), (1003, .box [.imm (AV.bool true), .imm (AV.bool true), .imm (AV.bool false), .imm (AV.int .i64 0)])]⟩) (by kernel_rfl) ?_
  simp (config := { maxSteps := 100000000 }) only [law07FoldDeeper_L1_eq]
  kernel_rfl
theorem law07FoldDeeper_fit : fitF Try.prog law07FoldDeeper Try.f3 = true := by
  kernel_rfl

def keepText_c0 : AC := .seq (.region [.op (some 4) none (.mv (.k (AV.str ([] : List UInt8))))]) (.seq (.region [.op (some 5) none (.mv (.t 0)), .op (some 6) none (.mv (.t 0)), .op (some 7) none (.len (.t 6) true), .op (some 8) none (.mv (.t 1)), .op (some 9) none (.mn [.t 7, .t 8]), .op (some 10) none (.sliceS (.t 5) none (some (.t 9))), .op (some 4) none (.mv (.t 10))]) (.ret [4] []))
def keepText : AFunc := ⟨2, 11, [.tmp 4], keepText_c0⟩
def keepTextr (R : Nat → List AV → Option Res) (N : Nat) (s1 : List UInt8) (i1 : Int) : Option Res :=
  need (decide (0 ≤ (if i1 < ((s1.length : Nat) : Int) then i1 else ((s1.length : Nat) : Int) : Int)) && decide ((if i1 < ((s1.length : Nat) : Int) then i1 else ((s1.length : Nat) : Int) : Int) ≤ ((s1.length : Nat) : Int))) <|
  some ⟨AV.str ((s1.take (Int.toNat (if i1 < ((s1.length : Nat) : Int) then i1 else ((s1.length : Nat) : Int)))).drop 0), false, []⟩
theorem keepText_eq (R : Nat → List AV → Option Res) (N : Nat) (s1 : List UInt8) (i1 : Int) : runF gl R N keepText [AV.str s1, AV.int .i64 i1] = keepTextr R N s1 i1 := by
  kernel_rfl
theorem keepText_fit : fitF Try.prog keepText Try.f13 = true := by
  kernel_rfl

def keepCopyString_c0 : AC := .seq (.region [.op (some 2) none (.nilOwn 4 (some (1, .any)))]) (.seq (.region [.op (some 3) none (.mv (.t 0)), .op (some 4) none (.appNil 4 (.t 3) 1 false), .op (some 2) none (.mv (.t 4))]) (.ret [2] [4]))
def keepCopyString : AFunc := ⟨1, 5, [.tmp 2], keepCopyString_c0⟩
def keepCopyStringr (R : Nat → List AV → Option Res) (N : Nat) (l1 : List AV) : Option Res :=
  need (decide (l1.length ≤ 1099511627776)) <|
  some ⟨AV.row 1 ((l1.drop 0).take l1.length), true, []⟩
theorem keepCopyString_eq (R : Nat → List AV → Option Res) (N : Nat) (l1 : List AV) : runF gl R N keepCopyString [AV.row 1 l1] = keepCopyStringr R N l1 := by
  kernel_rfl
theorem keepCopyString_fit : fitF Try.prog keepCopyString Try.f14 = true := by
  kernel_rfl

def ref01Breaks_L1s (R : Nat → List AV → Option Res) (N : Nat) (go : Int → List UInt8 → Option Res) (k0 : List UInt8 → Option Res) (i2 : Int) (s1 : List UInt8) : Option Res :=
  bif decide ((i2 : Int) > 0) then
    (need (decide (s1.length + (([10] : List UInt8) : List UInt8).length ≤ 9223372036854775807)) <|
    go (IntKind.i64.wrap (i2 - 1)) (s1 ++ ([10] : List UInt8)))
  else
    k0 s1
def ref01Breaks_L1 (R : Nat → List AV → Option Res) (N : Nat) (k0 : List UInt8 → Option Res) : Nat → Int → List UInt8 → Option Res
  | 0, _, _ => none
  | n + 1, i2, s1 => ref01Breaks_L1s R N (ref01Breaks_L1 R N k0 n) k0 i2 s1
def ref01Breaks_c0 : AC := .seq (.seq (.region [.op (some 4) none (.mv (.t 0)), .op (some 5) none (.bin .gtr (.t 4) (.k (AV.int .i64 0)))]) (.cond (.t 5) (.skip) (.exit 0 [3] []))) (.seq (.block 1 (.region [.op (some 8) none (.mv (.t 3)), .op (some 9) none (.bin .add (.t 8) (.k (AV.str ([10] : List UInt8)))), .op (some 3) none (.mv (.t 9))])) (.region [.op (some 6) none (.mv (.t 0)), .op (some 7) none (.bin .sub (.t 6) (.k (AV.int .i64 1))), .op (some 0) none (.mv (.t 7))]))
theorem ref01Breaks_L1s_eq (R : Nat → List AV → Option Res) (N : Nat) (K : Ex → St → Option Res) (W : St → Option Res) (i2 : Int) (s1 : List UInt8) :
    evC gl R N ref01Breaks_c0 (Kseq (fun st' => W (prune [0, 3] [] st')) K) ⟨[(0, .imm (AV.int .i64 i2)), (3, .imm (AV.str s1))], []⟩ =
    ref01Breaks_L1s R N (fun (i2 : Int) (s1 : List UInt8) => W ⟨[(0, .imm (AV.int .i64 i2)), (3, .imm (AV.str s1))], []⟩) (fun (s2 : List UInt8) => K (.exit 0) ⟨[(3, .imm (AV.str s2))], []⟩) i2 s1 := by
  kernel_rfl
theorem ref01Breaks_L1_eq (R : Nat → List AV → Option Res) (N : Nat) (K : Ex → St → Option Res) : ∀ (n : Nat) (i2 : Int) (s1 : List UInt8),
    rounds [0, 3] [] (evC gl R N ref01Breaks_c0) K n ⟨[(0, .imm (AV.int .i64 i2)), (3, .imm (AV.str s1))], []⟩ = ref01Breaks_L1 R N (fun (s2 : List UInt8) => K (.exit 0) ⟨[(3, .imm (AV.str s2))], []⟩) n i2 s1
  | 0, _, _ => rfl
  | n + 1, i2, s1 => (ref01Breaks_L1s_eq R N K (rounds [0, 3] [] (evC gl R N ref01Breaks_c0) K n) i2 s1).trans
      (congrArg (fun go => ref01Breaks_L1s R N go (fun (s2 : List UInt8) => K (.exit 0) ⟨[(3, .imm (AV.str s2))], []⟩) i2 s1) (funext fun i2 => funext fun s1 => ref01Breaks_L1_eq R N K n i2 s1))
def ref01Breaks_c1 : AC := .seq (.region [.op (some 10) none (.mv (.t 3)), .op (some 2) none (.mv (.t 10))]) (.ret [2] [])
def ref01Breaks_c2 : AC := .seq (.region [.op (some 2) none (.mv (.k (AV.str ([] : List UInt8))))]) (.seq (.region [.op (some 3) none (.mv (.k (AV.str ([] : List UInt8))))]) (.seq (.block 0 (.loop [0, 3] [] (ref01Breaks_c0))) (ref01Breaks_c1)))
def ref01Breaks : AFunc := ⟨1, 11, [.tmp 2], ref01Breaks_c2⟩
def ref01Breaksr (R : Nat → List AV → Option Res) (N : Nat) (i1 : Int) : Option Res :=
  ref01Breaks_L1 R N
    (fun s4 =>
      some ⟨AV.str s4, false, []⟩)
    N i1 ([] : List UInt8)
theorem ref01Breaks_eq (R : Nat → List AV → Option Res) (N : Nat) (i1 : Int) : runF gl R N ref01Breaks [AV.int .i64 i1] = ref01Breaksr R N i1 := by
  refine Eq.trans (b :=
      rounds [0, 3] [] (evC gl R N ref01Breaks_c0) (Kblock 0 (Kthen gl R N ref01Breaks_c1 (Kret ref01Breaks.rets))) N ⟨[(0, .imm (AV.int .i64 i1)), (3, .imm (AV.str ([] : List UInt8)))], []⟩) (by kernel_rfl) ?_
  simp (config := { maxSteps := 100000000 }) only [ref01Breaks_L1_eq]
  kernel_rfl
theorem ref01Breaks_fit : fitF Try.prog ref01Breaks Try.f23 = true := by
  kernel_rfl

def ref01More_c0 : AC := .seq (.region [.op (some 2) none (.mv (.k (AV.bool false)))]) (.seq (.region [.op (some 3) none (.mv (.t 0)), .op (some 4) none (.index (.t 3) (.k (AV.int .i64 0))), .op (some 5) none (.bin .eql (.t 4) (.k (AV.int .u8 9))), .op (some 6) none (.mv (.t 5)), .split 6, .op (some 7) (some (6, false)) (.mv (.t 0)), .op (some 8) (some (6, false)) (.index (.t 7) (.k (AV.int .i64 0))), .op (some 9) (some (6, false)) (.bin .eql (.t 8) (.k (AV.int .u8 32))), .op (some 10) none (.pick (.t 6) (.k (AV.bool true)) (.t 9)), .op (some 2) none (.mv (.t 10))]) (.ret [2] []))
def ref01More : AFunc := ⟨1, 11, [.tmp 2], ref01More_c0⟩
def ref01Morer (R : Nat → List AV → Option Res) (N : Nat) (s1 : List UInt8) : Option Res :=
  need (decide (0 ≤ (0 : Int))) <|
  (s1[Int.toNat 0]?).bind fun c1 =>
  bif ((c1.toNat : Int) : Int) == 9 then
    (some ⟨AV.bool true, false, []⟩)
  else
    need (decide (0 ≤ (0 : Int))) <|
    (s1[Int.toNat 0]?).bind fun c2 =>
    some ⟨AV.bool (((c2.toNat : Int) : Int) == 32), false, []⟩
theorem ref01More_eq (R : Nat → List AV → Option Res) (N : Nat) (s1 : List UInt8) : runF gl R N ref01More [AV.str s1] = ref01Morer R N s1 := by
  kernel_rfl
theorem ref01More_fit : fitF Try.prog ref01More Try.f24 = true := by
  kernel_rfl

def ref01Value_L1s (R : Nat → List AV → Option Res) (N : Nat) (go : List AV → Int → Bool → Bool → Bool → Int → Option Res) (k0 : List AV → Int → Bool → Bool → Bool → Int → Option Res) (l2 : List AV) (i2 : Int) (b4 : Bool) (b5 : Bool) (b6 : Bool) (i3 : Int) : Option Res :=
  bif decide ((i2 : Int) > 0) then
    (need (decide (0 ≤ (IntKind.i64.wrap (i2 - 1) : Int))) <|
    (l2[Int.toNat (IntKind.i64.wrap (i2 - 1))]?).bind fun e1 =>
    asS e1 fun s1 =>
    bif s1 == ([] : List UInt8) then
      (go l2 (IntKind.i64.wrap (i2 - 1)) b4 b5 b6 i3)
    else
      k0 l2 i2 b4 b5 b6 i3)
  else
    k0 l2 i2 b4 b5 b6 i3
def ref01Value_L1 (R : Nat → List AV → Option Res) (N : Nat) (k0 : List AV → Int → Bool → Bool → Bool → Int → Option Res) : Nat → List AV → Int → Bool → Bool → Bool → Int → Option Res
  | 0, _, _, _, _, _, _ => none
  | n + 1, l2, i2, b4, b5, b6, i3 => ref01Value_L1s R N (ref01Value_L1 R N k0 n) k0 l2 i2 b4 b5 b6 i3
def ref01Value_c0 : AC := .seq (.seq (.region [.op (some 12) none (.mv (.t 5)), .op (some 13) none (.bin .gtr (.t 12) (.k (AV.int .i64 0))), .op (some 14) none (.mv (.t 13)), .split 14, .op (some 15) (some (14, true)) (.mv (.t 1)), .op (some 16) (some (14, true)) (.mv (.t 5)), .op (some 17) (some (14, true)) (.bin .sub (.t 16) (.k (AV.int .i64 1))), .op (some 18) (some (14, true)) (.iaddr (.t 15) (.t 17) 1 (.str)), .op (some 19) (some (14, true)) (.load (.t 18) none (.str)), .op (some 20) (some (14, true)) (.bin .eql (.t 19) (.k (AV.str ([] : List UInt8)))), .op (some 21) none (.pick (.t 14) (.t 20) (.k (AV.bool false)))]) (.cond (.t 21) (.skip) (.exit 0 [1, 2, 5] [1002]))) (.block 1 (.region [.op (some 22) none (.mv (.t 5)), .op (some 23) none (.bin .sub (.t 22) (.k (AV.int .i64 1))), .op (some 5) none (.mv (.t 23))]))
theorem ref01Value_L1s_eq (R : Nat → List AV → Option Res) (N : Nat) (K : Ex → St → Option Res) (W : St → Option Res) (l2 : List AV) (i2 : Int) (b4 : Bool) (b5 : Bool) (b6 : Bool) (i3 : Int) :
    evC gl R N ref01Value_c0 (Kseq (fun st' => W (prune [1, 2, 5] [1002] st')) K) ⟨[(1, .imm (AV.row 1 l2)), (2, .ptr 1002 0 0), (5, .imm (AV.int .i64 i2))], [(1002, .box [.imm (AV.bool b4), .imm (AV.bool b5), .imm (AV.bool b6), .imm (AV.int .i64 i3)])]⟩ =
    ref01Value_L1s R N (fun (l2 : List AV) (i2 : Int) (b4 : Bool) (b5 : Bool) (b6 : Bool) (i3 : Int) => W ⟨[(1, .imm (AV.row 1 l2)), (2, .ptr 1002 0 0), (5, .imm (AV.int .i64 i2))], [(1002, .box [.imm (AV.bool b4), .imm (AV.bool b5), .imm (AV.bool b6), .imm (AV.int .i64 i3)])]⟩) (fun (l3 : List AV) (i4 : Int) (b7 : Bool) (b8 : Bool) (b9 : Bool) (i5 : Int) => K (.exit 0) ⟨[(1, .imm (AV.row 1 l3)), (2, .ptr 1002 0 0), (5, .imm (AV.int .i64 i4))], [(1002, .box [.imm (AV.bool b7), .imm (AV.bool b8), .imm (AV.bool b9), .imm (AV.int .i64 i5)])]⟩) l2 i2 b4 b5 b6 i3 := by
  kernel_rfl
theorem ref01Value_L1_eq (R : Nat → List AV → Option Res) (N : Nat) (K : Ex → St → Option Res) : ∀ (n : Nat) (l2 : List AV) (i2 : Int) (b4 : Bool) (b5 : Bool) (b6 : Bool) (i3 : Int),
    rounds [1, 2, 5] [1002] (evC gl R N ref01Value_c0) K n ⟨[(1, .imm (AV.row 1 l2)), (2, .ptr 1002 0 0), (5, .imm (AV.int .i64 i2))], [(1002, .box [.imm (AV.bool b4), .imm (AV.bool b5), .imm (AV.bool b6), .imm (AV.int .i64 i3)])]⟩ = ref01Value_L1 R N (fun (l3 : List AV) (i4 : Int) (b7 : Bool) (b8 : Bool) (b9 : Bool) (i5 : Int) => K (.exit 0) ⟨[(1, .imm (AV.row 1 l3)), (2, .ptr 1002 0 0), (5, .imm (AV.int .i64 i4))], [(1002, .box [.imm (AV.bool b7), .imm (AV.bool b8), .imm (AV.bool b9), .imm (AV.int .i64 i5)])]⟩) n l2 i2 b4 b5 b6 i3
  | 0, _, _, _, _, _, _ => rfl
  | n + 1, l2, i2, b4, b5, b6, i3 => (ref01Value_L1s_eq R N K (rounds [1, 2, 5] [1002] (evC gl R N ref01Value_c0) K n) l2 i2 b4 b5 b6 i3).trans
      (congrArg (fun go => ref01Value_L1s R N go (fun (l3 : List AV) (i4 : Int) (b7 : Bool) (b8 : Bool) (b9 : Bool) (i5 : Int) => K (.exit 0) ⟨[(1, .imm (AV.row 1 l3)), (2, .ptr 1002 0 0), (5, .imm (AV.int .i64 i4))], [(1002, .box [.imm (AV.bool b7), .imm (AV.bool b8), .imm (AV.bool b9), .imm (AV.int .i64 i5)])]⟩) l2 i2 b4 b5 b6 i3) (funext fun l2 => funext fun i2 => funext fun b4 => funext fun b5 => funext fun b6 => funext fun i3 => ref01Value_L1_eq R N K n l2 i2 b4 b5 b6 i3))
def ref01Value_L2s (R : Nat → List AV → Option Res) (N : Nat) (go : List AV → Int → List UInt8 → List UInt8 → Int → Int → Bool → Bool → Bool → Int → Option Res) (k0 : List AV → Int → List UInt8 → Bool → Bool → Bool → Int → Option Res) (l6 : List AV) (i10 : Int) (s3 : List UInt8) (s4 : List UInt8) (i11 : Int) (i12 : Int) (b16 : Bool) (b17 : Bool) (b18 : Bool) (i13 : Int) : Option Res :=
  bif decide ((i12 : Int) < i10) then
    (bif !b16 then
      (bif decide ((i12 : Int) > 0) then
        (need (decide (s3.length + (([10] : List UInt8) : List UInt8).length ≤ 9223372036854775807)) <|
        need (decide (0 ≤ (i12 : Int))) <|
        (l6[Int.toNat i12]?).bind fun e2 =>
        asS e2 fun s5 =>
        need (decide ((s3 ++ ([10] : List UInt8)).length + s5.length ≤ 9223372036854775807)) <|
        go l6 i10 ((s3 ++ ([10] : List UInt8)) ++ s5) s4 i11 (IntKind.i64.wrap (i12 + 1)) b16 b17 b18 i13)
      else
        need (decide (0 ≤ (i12 : Int))) <|
        (l6[Int.toNat i12]?).bind fun e3 =>
        asS e3 fun s6 =>
        need (decide (s3.length + s6.length ≤ 9223372036854775807)) <|
        go l6 i10 (s3 ++ s6) s4 i11 (IntKind.i64.wrap (i12 + 1)) b16 b17 b18 i13)
    else
      need (decide (0 ≤ (i12 : Int))) <|
      (l6[Int.toNat i12]?).bind fun e4 =>
      asS e4 fun s7 =>
      bif s7 == ([] : List UInt8) then
        (go l6 i10 s3 s4 (IntKind.i64.wrap (i11 + 1)) (IntKind.i64.wrap (i12 + 1)) b16 b17 b18 i13)
      else
        bif s4 == ([] : List UInt8) then
          ((R id_ref01Breaks [AV.int .i64 i11]).bind fun r2 =>
          asS r2.v fun s8 =>
          need (decide (s3.length + s8.length ≤ 9223372036854775807)) <|
          need (decide (0 ≤ (i12 : Int))) <|
          (l6[Int.toNat i12]?).bind fun e5 =>
          asS e5 fun s9 =>
          need (decide ((s3 ++ s8).length + s9.length ≤ 9223372036854775807)) <|
          need (decide (0 ≤ (i12 : Int))) <|
          (l6[Int.toNat i12]?).bind fun e6 =>
          asS e6 fun s10 =>
          go l6 i10 ((s3 ++ s8) ++ s9) s10 0 (IntKind.i64.wrap (i12 + 1)) b16 b17 b18 i13)
        else
          (R id_ref01More [AV.str s4]).bind fun r3 =>
          asB r3.v fun b19 =>
          bif b19 then
            ((R id_ref01Breaks [AV.int .i64 (IntKind.i64.wrap (i11 + 1))]).bind fun r4 =>
            asS r4.v fun s11 =>
            need (decide (s3.length + s11.length ≤ 9223372036854775807)) <|
            need (decide (0 ≤ (i12 : Int))) <|
            (l6[Int.toNat i12]?).bind fun e7 =>
            asS e7 fun s12 =>
            need (decide ((s3 ++ s11).length + s12.length ≤ 9223372036854775807)) <|
            need (decide (0 ≤ (i12 : Int))) <|
            (l6[Int.toNat i12]?).bind fun e8 =>
            asS e8 fun s13 =>
            go l6 i10 ((s3 ++ s11) ++ s12) s13 0 (IntKind.i64.wrap (i12 + 1)) b16 b17 b18 i13)
          else
            need (decide (0 ≤ (i12 : Int))) <|
            (l6[Int.toNat i12]?).bind fun e9 =>
            asS e9 fun s14 =>
            (R id_ref01More [AV.str s14]).bind fun r5 =>
            asB r5.v fun b20 =>
            bif b20 then
              ((R id_ref01Breaks [AV.int .i64 (IntKind.i64.wrap (i11 + 1))]).bind fun r6 =>
              asS r6.v fun s15 =>
              need (decide (s3.length + s15.length ≤ 9223372036854775807)) <|
              need (decide (0 ≤ (i12 : Int))) <|
              (l6[Int.toNat i12]?).bind fun e10 =>
              asS e10 fun s16 =>
              need (decide ((s3 ++ s15).length + s16.length ≤ 9223372036854775807)) <|
              need (decide (0 ≤ (i12 : Int))) <|
              (l6[Int.toNat i12]?).bind fun e11 =>
              asS e11 fun s17 =>
              go l6 i10 ((s3 ++ s15) ++ s16) s17 0 (IntKind.i64.wrap (i12 + 1)) b16 b17 b18 i13)
            else
              bif (i11 : Int) == 0 then
                (need (decide (s3.length + (([32] : List UInt8) : List UInt8).length ≤ 9223372036854775807)) <|
                need (decide (0 ≤ (i12 : Int))) <|
                (l6[Int.toNat i12]?).bind fun e12 =>
                asS e12 fun s18 =>
                need (decide ((s3 ++ ([32] : List UInt8)).length + s18.length ≤ 9223372036854775807)) <|
                need (decide (0 ≤ (i12 : Int))) <|
                (l6[Int.toNat i12]?).bind fun e13 =>
                asS e13 fun s19 =>
                go l6 i10 ((s3 ++ ([32] : List UInt8)) ++ s18) s19 0 (IntKind.i64.wrap (i12 + 1)) b16 b17 b18 i13)
              else
                (R id_ref01Breaks [AV.int .i64 i11]).bind fun r7 =>
                asS r7.v fun s20 =>
                need (decide (s3.length + s20.length ≤ 9223372036854775807)) <|
                need (decide (0 ≤ (i12 : Int))) <|
                (l6[Int.toNat i12]?).bind fun e14 =>
                asS e14 fun s21 =>
                need (decide ((s3 ++ s20).length + s21.length ≤ 9223372036854775807)) <|
                need (decide (0 ≤ (i12 : Int))) <|
                (l6[Int.toNat i12]?).bind fun e15 =>
                asS e15 fun s22 =>
                go l6 i10 ((s3 ++ s20) ++ s21) s22 0 (IntKind.i64.wrap (i12 + 1)) b16 b17 b18 i13)
  else
    k0 l6 i10 s3 b16 b17 b18 i13
def ref01Value_L2 (R : Nat → List AV → Option Res) (N : Nat) (k0 : List AV → Int → List UInt8 → Bool → Bool → Bool → Int → Option Res) : Nat → List AV → Int → List UInt8 → List UInt8 → Int → Int → Bool → Bool → Bool → Int → Option Res
  | 0, _, _, _, _, _, _, _, _, _, _ => none
  | n + 1, l6, i10, s3, s4, i11, i12, b16, b17, b18, i13 => ref01Value_L2s R N (ref01Value_L2 R N k0 n) k0 l6 i10 s3 s4 i11 i12 b16 b17 b18 i13
def ref01Value_c1 : AC := .seq (.seq (.region [.op (some 36) none (.mv (.t 9)), .op (some 37) none (.mv (.t 5)), .op (some 38) none (.bin .lss (.t 36) (.t 37))]) (.cond (.t 38) (.skip) (.exit 2 [1, 2, 5, 6] [1002]))) (.seq (.block 3 (.seq (.block 4 (.seq (.region [.op (some 46) none (.faddr (.t 2) 0), .op (some 47) none (.load (.t 46) none (.bool)), .op (some 48) none (.un .not (.t 47)), .op (some 45) none (.mv (.t 48))]) (.cond (.t 45) (.seq (.seq (.region [.op (some 49) none (.mv (.t 9)), .op (some 50) none (.bin .gtr (.t 49) (.k (AV.int .i64 0)))]) (.cond (.t 50) (.region [.op (some 51) none (.mv (.t 6)), .op (some 52) none (.bin .add (.t 51) (.k (AV.str ([10] : List UInt8)))), .op (some 6) none (.mv (.t 52))]) (.skip))) (.seq (.region [.op (some 53) none (.mv (.t 6)), .op (some 54) none (.mv (.t 1)), .op (some 55) none (.mv (.t 9)), .op (some 56) none (.iaddr (.t 54) (.t 55) 1 (.str)), .op (some 57) none (.load (.t 56) none (.str)), .op (some 58) none (.bin .add (.t 53) (.t 57)), .op (some 6) none (.mv (.t 58))]) (.exit 3 [1, 2, 5, 6, 7, 8, 9] [1002]))) (.seq (.region [.op (some 60) none (.mv (.t 1)), .op (some 61) none (.mv (.t 9)), .op (some 62) none (.iaddr (.t 60) (.t 61) 1 (.str)), .op (some 63) none (.load (.t 62) none (.str)), .op (some 64) none (.bin .eql (.t 63) (.k (AV.str ([] : List UInt8)))), .op (some 59) none (.mv (.t 64))]) (.cond (.t 59) (.seq (.region [.op (some 65) none (.mv (.t 8)), .op (some 66) none (.bin .add (.t 65) (.k (AV.int .i64 1))), .op (some 8) none (.mv (.t 66))]) (.exit 3 [1, 2, 5, 6, 7, 8, 9] [1002])) (.seq (.region [.op (some 68) none (.mv (.t 7)), .op (some 69) none (.bin .eql (.t 68) (.k (AV.str ([] : List UInt8)))), .op (some 67) none (.mv (.t 69))]) (.cond (.t 67) (.region [.op (some 70) none (.mv (.t 6)), .op (some 71) none (.mv (.t 8)), .op (some 72) none (.call id_ref01Breaks [.t 71] (.str)), .op (some 73) none (.bin .add (.t 70) (.t 72)), .op (some 6) none (.mv (.t 73))]) (.seq (.region [.op (some 75) none (.mv (.t 7)), .op (some 76) none (.call id_ref01More [.t 75] (.bool)), .op (some 77) none (.mv (.t 76)), .split 77, .op (some 78) (some (77, false)) (.mv (.t 1)), .op (some 79) (some (77, false)) (.mv (.t 9)), .op (some 80) (some (77, false)) (.iaddr (.t 78) (.t 79) 1 (.str)), .op (some 81) (some (77, false)) (.load (.t 80) none (.str)), .op (some 82) (some (77, false)) (.call id_ref01More [.t 81] (.bool)), .op (some 83) none (.pick (.t 77) (.k (AV.bool true)) (.t 82)), .op (some 74) none (.mv (.t 83))]) (.cond (.t 74) (.region [.op (some 84) none (.mv (.t 6)), .op (some 85) none (.mv (.t 8)), .op (some 86) none (.bin .add (.t 85) (.k (AV.int .i64 1))), .op (some 87) none (.call id_ref01Breaks [.t 86] (.str)), .op (some 88) none (.bin .add (.t 84) (.t 87)), .op (some 6) none (.mv (.t 88))]) (.seq (.region [.op (some 90) none (.mv (.t 8)), .op (some 91) none (.bin .eql (.t 90) (.k (AV.int .i64 0))), .op (some 89) none (.mv (.t 91))]) (.cond (.t 89) (.region [.op (some 92) none (.mv (.t 6)), .op (some 93) none (.bin .add (.t 92) (.k (AV.str ([32] : List UInt8)))), .op (some 6) none (.mv (.t 93))]) (.region [.op (some 41) none (.mv (.t 6)), .op (some 42) none (.mv (.t 8)), .op (some 43) none (.call id_ref01Breaks [.t 42] (.str)), .op (some 44) none (.bin .add (.t 41) (.t 43)), .op (some 6) none (.mv (.t 44))])))))))))))) (.seq (.region [.op (some 94) none (.mv (.t 6)), .op (some 95) none (.mv (.t 1)), .op (some 96) none (.mv (.t 9)), .op (some 97) none (.iaddr (.t 95) (.t 96) 1 (.str)), .op (some 98) none (.load (.t 97) none (.str)), .op (some 99) none (.bin .add (.t 94) (.t 98)), .op (some 6) none (.mv (.t 99))]) (.region [.op (some 100) none (.mv (.t 1)), .op (some 101) none (.mv (.t 9)), .op (some 102) none (.iaddr (.t 100) (.t 101) 1 (.str)), .op (some 103) none (.load (.t 102) none (.str)), .op (some 7) none (.mv (.t 103)), .op (some 8) none (.mv (.k (AV.int .i64 0)))])))) (.region [.op (some 39) none (.mv (.t 9)), .op (some 40) none (.bin .add (.t 39) (.k (AV.int .i64 1))), .op (some 9) none (.mv (.t 40))]))
theorem ref01Value_L2s_eq (R : Nat → List AV → Option Res) (N : Nat) (K : Ex → St → Option Res) (W : St → Option Res) (l6 : List AV) (i10 : Int) (s3 : List UInt8) (s4 : List UInt8) (i11 : Int) (i12 : Int) (b16 : Bool) (b17 : Bool) (b18 : Bool) (i13 : Int) :
    evC gl R N ref01Value_c1 (Kseq (fun st' => W (prune [1, 2, 5, 6, 7, 8, 9] [1002] st')) K) ⟨[(1, .imm (AV.row 1 l6)), (2, .ptr 1002 0 0), (5, .imm (AV.int .i64 i10)), (6, .imm (AV.str s3)), (7, .imm (AV.str s4)), (8, .imm (AV.int .i64 i11)), (9, .imm (AV.int .i64 i12))], [(1002, .box [.imm (AV.bool b16), .imm (AV.bool b17), .imm (AV.bool b18), .imm (AV.int .i64 i13)])]⟩ =
    ref01Value_L2s R N (fun (l6 : List AV) (i10 : Int) (s3 : List UInt8) (s4 : List UInt8) (i11 : Int) (i12 : Int) (b16 : Bool) (b17 : Bool) (b18 : Bool) (i13 : Int) => W ⟨[(1, .imm (AV.row 1 l6)), (2, .ptr 1002 0 0), (5, .imm (AV.int .i64 i10)), (6, .imm (AV.str s3)), (7, .imm (AV.str s4)), (8, .imm (AV.int .i64 i11)), (9, .imm (AV.int .i64 i12))], [(1002, .box [.imm (AV.bool b16), .imm (AV.bool b17), .imm (AV.bool b18), .imm (AV.int .i64 i13)])]⟩) (fun (l7 : List AV) (i14 : Int) (s23 : List UInt8) (b21 : Bool) (b22 : Bool) (b23 : Bool) (i15 : Int) => K (.exit 2) ⟨[(1, .imm (AV.row 1 l7)), (2, .ptr 1002 0 0), (5, .imm (AV.int .i64 i14)), (6, .imm (AV.str s23))], [(1002, .box [.imm (AV.bool b21), .imm (AV.bool b22), .imm (AV.bool b23), .imm (AV.int .i64 i15)])]⟩) l6 i10 s3 s4 i11 i12 b16 b17 b18 i13 := by
  kernel_rfl
theorem ref01Value_L2_eq (R : Nat → List AV → Option Res) (N : Nat) (K : Ex → St → Option Res) : ∀ (n : Nat) (l6 : List AV) (i10 : Int) (s3 : List UInt8) (s4 : List UInt8) (i11 : Int) (i12 : Int) (b16 : Bool) (b17 : Bool) (b18 : Bool) (i13 : Int),
    rounds [1, 2, 5, 6, 7, 8, 9] [1002] (evC gl R N ref01Value_c1) K n ⟨[(1, .imm (AV.row 1 l6)), (2, .ptr 1002 0 0), (5, .imm (AV.int .i64 i10)), (6, .imm (AV.str s3)), (7, .imm (AV.str s4)), (8, .imm (AV.int .i64 i11)), (9, .imm (AV.int .i64 i12))], [(1002, .box [.imm (AV.bool b16), .imm (AV.bool b17), .imm (AV.bool b18), .imm (AV.int .i64 i13)])]⟩ = ref01Value_L2 R N (fun (l7 : List AV) (i14 : Int) (s23 : List UInt8) (b21 : Bool) (b22 : Bool) (b23 : Bool) (i15 : Int) => K (.exit 2) ⟨[(1, .imm (AV.row 1 l7)), (2, .ptr 1002 0 0), (5, .imm (AV.int .i64 i14)), (6, .imm (AV.str s23))], [(1002, .box [.imm (AV.bool b21), .imm (AV.bool b22), .imm (AV.bool b23), .imm (AV.int .i64 i15)])]⟩) n l6 i10 s3 s4 i11 i12 b16 b17 b18 i13
  | 0, _, _, _, _, _, _, _, _, _, _ => rfl
  | n + 1, l6, i10, s3, s4, i11, i12, b16, b17, b18, i13 => (ref01Value_L2s_eq R N K (rounds [1, 2, 5, 6, 7, 8, 9] [1002] (evC gl R N ref01Value_c1) K n) l6 i10 s3 s4 i11 i12 b16 b17 b18 i13).trans
      (congrArg (fun go => ref01Value_L2s R N go (fun (l7 : List AV) (i14 : Int) (s23 : List UInt8) (b21 : Bool) (b22 : Bool) (b23 : Bool) (i15 : Int) => K (.exit 2) ⟨[(1, .imm (AV.row 1 l7)), (2, .ptr 1002 0 0), (5, .imm (AV.int .i64 i14)), (6, .imm (AV.str s23))], [(1002, .box [.imm (AV.bool b21), .imm (AV.bool b22), .imm (AV.bool b23), .imm (AV.int .i64 i15)])]⟩) l6 i10 s3 s4 i11 i12 b16 b17 b18 i13) (funext fun l6 => funext fun i10 => funext fun s3 => funext fun s4 => funext fun i11 => funext fun i12 => funext fun b16 => funext fun b17 => funext fun b18 => funext fun i13 => ref01Value_L2_eq R N K n l6 i10 s3 s4 i11 i12 b16 b17 b18 i13))
def ref01Value_c2 : AC := .seq (.block 5 (.seq (.region [.op (some 105) none (.faddr (.t 2) 1), .op (some 106) none (.load (.t 105) none (.bool)), .op (some 104) none (.mv (.t 106))]) (.cond (.t 104) (.seq (.region [.op (some 107) none (.mv (.t 6)), .op (some 4) none (.mv (.t 107))]) (.ret [4] [])) (.seq (.region [.op (some 109) none (.faddr (.t 2) 2), .op (some 110) none (.load (.t 109) none (.bool)), .op (some 108) none (.mv (.t 110))]) (.cond (.t 108) (.seq (.region [.op (some 111) none (.mv (.t 6)), .op (some 112) none (.mv (.t 1)), .op (some 113) none (.len (.t 112) false), .op (some 114) none (.bin .add (.k (AV.int .i64 1)) (.t 113)), .op (some 115) none (.mv (.t 5)), .op (some 116) none (.bin .sub (.t 114) (.t 115)), .op (some 117) none (.call id_ref01Breaks [.t 116] (.str)), .op (some 118) none (.bin .add (.t 111) (.t 117)), .op (some 4) none (.mv (.t 118))]) (.ret [4] [])) (.skip)))))) (.seq (.region [.op (some 119) none (.mv (.t 6)), .op (some 120) none (.bin .add (.t 119) (.k (AV.str ([10] : List UInt8)))), .op (some 4) none (.mv (.t 120))]) (.ret [4] []))
def ref01Value_c3 : AC := .seq (.seq (.region [.op (some 24) none (.mv (.t 5)), .op (some 25) none (.bin .eql (.t 24) (.k (AV.int .i64 0)))]) (.cond (.t 25) (.seq (.seq (.region [.op (some 26) none (.faddr (.t 2) 2), .op (some 27) none (.load (.t 26) none (.bool)), .op (some 28) none (.mv (.t 27)), .split 28, .op (some 29) (some (28, true)) (.faddr (.t 2) 1), .op (some 30) (some (28, true)) (.load (.t 29) none (.bool)), .op (some 31) (some (28, true)) (.un .not (.t 30)), .op (some 32) none (.pick (.t 28) (.t 31) (.k (AV.bool false)))]) (.cond (.t 32) (.seq (.region [.op (some 33) none (.mv (.t 1)), .op (some 34) none (.len (.t 33) false), .op (some 35) none (.call id_ref01Breaks [.t 34] (.str)), .op (some 4) none (.mv (.t 35))]) (.ret [4] [])) (.skip))) (.seq (.region [.op (some 4) none (.mv (.k (AV.str ([] : List UInt8))))]) (.ret [4] []))) (.skip))) (.seq (.region [.op (some 6) none (.mv (.k (AV.str ([] : List UInt8))))]) (.seq (.region [.op (some 7) none (.mv (.k (AV.str ([] : List UInt8)))), .op (some 8) none (.mv (.k (AV.int .i64 0)))]) (.seq (.seq (.region [.op (some 9) none (.mv (.k (AV.int .i64 0)))]) (.block 2 (.loop [1, 2, 5, 6, 7, 8, 9] [1002] (ref01Value_c1)))) (ref01Value_c2))))
def ref01Value_c4 : AC := .seq (.region [.op (some 2) none (.box 1002 (.t 0) 4), .op (some 4) none (.mv (.k (AV.str ([] : List UInt8))))]) (.seq (.region [.op (some 10) none (.mv (.t 1)), .op (some 11) none (.len (.t 10) false), .op (some 5) none (.mv (.t 11))]) (.seq (.block 0 (.loop [1, 2, 5] [1002] (ref01Value_c0))) (ref01Value_c3)))
def ref01Value : AFunc := ⟨2, 121, [.tmp 4], ref01Value_c4⟩
def ref01Valuer (R : Nat → List AV → Option Res) (N : Nat) (b1 : Bool) (b2 : Bool) (b3 : Bool) (i1 : Int) (l1 : List AV) : Option Res :=
  ref01Value_L1 R N
    (fun l5 i8 b13 b14 b15 i9 =>
      bif (i8 : Int) == 0 then
        (bif b15 then
          (bif !b14 then
            ((R id_ref01Breaks [AV.int .i64 ((l5.length : Nat) : Int)]).bind fun r1 =>
            asS r1.v fun s2 =>
            some ⟨AV.str s2, false, []⟩)
          else
            some ⟨AV.str ([] : List UInt8), false, []⟩)
        else
          some ⟨AV.str ([] : List UInt8), false, []⟩)
      else
        ref01Value_L2 R N
          (fun l9 i18 s25 b27 b28 b29 i19 =>
            bif b28 then
              (some ⟨AV.str s25, false, []⟩)
            else
              bif b29 then
                ((R id_ref01Breaks [AV.int .i64 (IntKind.i64.wrap ((IntKind.i64.wrap (1 + ((l9.length : Nat) : Int))) - i18))]).bind fun r8 =>
                asS r8.v fun s26 =>
                need (decide (s25.length + s26.length ≤ 9223372036854775807)) <|
                some ⟨AV.str (s25 ++ s26), false, []⟩)
              else
                need (decide (s25.length + (([10] : List UInt8) : List UInt8).length ≤ 9223372036854775807)) <|
                some ⟨AV.str (s25 ++ ([10] : List UInt8)), false, []⟩)
          N l5 i8 ([] : List UInt8) ([] : List UInt8) 0 0 b13 b14 b15 i9)
    N l1 ((l1.length : Nat) : Int) b1 b2 b3 i1
theorem ref01Value_eq (R : Nat → List AV → Option Res) (N : Nat) (b1 : Bool) (b2 : Bool) (b3 : Bool) (i1 : Int) (l1 : List AV) : runF gl R N ref01Value [AV.agg [AV.bool b1, AV.bool b2, AV.bool b3, AV.int .i64 i1], AV.row 1 l1] = ref01Valuer R N b1 b2 b3 i1 l1 := by
  refine Eq.trans (b :=
      rounds [1, 2, 5] [1002] (evC gl R N ref01Value_c0) (Kblock 0 (Kthen gl R N ref01Value_c3 (Kret ref01Value.rets))) N ⟨[(1, .imm (AV.row 1 l1)), (2, .ptr 1002 0 0), (5, .imm (AV.int .i64 ((l1.length : Nat) : Int)))], [(1002, .box [.imm (AV.bool b1), .imm (AV.bool b2), .imm (AV.bool b3), .imm (AV.int .i64 i1)])]⟩) (by kernel_rfl) ?_
  simp (config := { maxSteps := 100000000 }) only [ref01Value_L1_eq, ref01Value_L2_eq]
  refine Eq.trans (b :=
      ref01Value_L1 R N
        (fun l5 i8 b13 b14 b15 i9 =>
          bif (i8 : Int) == 0 then
            (bif b15 then
              (bif !b14 then
                ((R id_ref01Breaks [AV.int .i64 ((l5.length : Nat) : Int)]).bind fun r1 =>
                asS r1.v fun s2 =>
                some ⟨AV.str s2, false, []⟩)
              else
                some ⟨AV.str ([] : List UInt8), false, []⟩)
            else
              some ⟨AV.str ([] : List UInt8), false, []⟩)
          else
            rounds [1, 2, 5, 6, 7, 8, 9] [1002] (evC gl R N ref01Value_c1) (Kblock 2 (Kthen gl R N ref01Value_c2 (Kret ref01Value.rets))) N ⟨[(1, .imm (AV.row 1 l5)), (2, .ptr 1002 0 0), (5, .imm (AV.int .i64 i8)), (6, .imm (AV.str ([] : List UInt8))), (7, .imm (AV.str ([] : List UInt8))), (8, .imm (AV.int .i64 0)), (9, .imm (AV.int .i64 0))], [(1002, .box [.imm (AV.bool b13), .imm (AV.bool b14), .imm (AV.bool b15), .imm (AV.int .i64 i9)])]⟩)
        N l1 ((l1.length : Nat) : Int) b1 b2 b3 i1) (by kernel_rfl) ?_
  simp (config := { maxSteps := 100000000 }) only [ref01Value_L1_eq, ref01Value_L2_eq]
  kernel_rfl
theorem ref01Value_fit : fitF Try.prog ref01Value Try.f15 = true := by
  kernel_rfl

def law07FoldValues_L1s (R : Nat → List AV → Option Res) (N : Nat) (go : List AV → Bool → Bool → Bool → Int → List AV → Option Res) (k0 : Bool → Bool → Bool → List AV → Option Res) (l2 : List AV) (b4 : Bool) (b5 : Bool) (b6 : Bool) (i1 : Int) (l3 : List AV) : Option Res :=
  bif decide ((i1 : Int) < ((l2.length : Nat) : Int)) then
    (bif decide ((i1 : Int) < 10) then
      (need (decide (0 ≤ (i1 : Int))) <|
      (l2[Int.toNat i1]?).bind fun e1 =>
      asS e1 fun s1 =>
      (R id_keepText [AV.str s1, AV.int .i64 12]).bind fun r1 =>
      asS r1.v fun s2 =>
      need (decide (((l3.drop 0).take l3.length).length + [AV.str s2].length ≤ 1099511627776)) <|
      go l2 b4 b5 b6 (IntKind.i64.wrap (i1 + 1)) (((l3.drop 0).take l3.length) ++ [AV.str s2]))
    else
      k0 b4 b5 b6 l3)
  else
    k0 b4 b5 b6 l3
def law07FoldValues_L1 (R : Nat → List AV → Option Res) (N : Nat) (k0 : Bool → Bool → Bool → List AV → Option Res) : Nat → List AV → Bool → Bool → Bool → Int → List AV → Option Res
  | 0, _, _, _, _, _, _ => none
  | n + 1, l2, b4, b5, b6, i1, l3 => law07FoldValues_L1s R N (law07FoldValues_L1 R N k0 n) k0 l2 b4 b5 b6 i1 l3
def law07FoldValues_c0 : AC := .seq (.seq (.region [.op (some 12) none (.mv (.t 10)), .op (some 13) none (.mv (.t 0)), .op (some 14) none (.len (.t 13) false), .op (some 15) none (.bin .lss (.t 12) (.t 14)), .op (some 16) none (.mv (.t 15)), .split 16, .op (some 17) (some (16, true)) (.mv (.t 10)), .op (some 18) (some (16, true)) (.bin .lss (.t 17) (.k (AV.int .i64 10))), .op (some 19) none (.pick (.t 16) (.t 18) (.k (AV.bool false)))]) (.cond (.t 19) (.skip) (.exit 0 [1, 2, 3, 9] [9]))) (.seq (.block 1 (.region [.op (some 22) none (.mv (.t 9)), .op (some 23) none (.mv (.t 0)), .op (some 24) none (.mv (.t 10)), .op (some 25) none (.iaddr (.t 23) (.t 24) 1 (.str)), .op (some 26) none (.load (.t 25) none (.str)), .op (some 27) none (.call id_keepText [.t 26, .k (AV.int .i64 12)] (.str)), .op (some 28) none (.bslice [.t 27] 1 false), .op (some 29) none (.app 9 (.t 22) (.t 28) 1 .any false), .op (some 9) none (.mv (.t 29))])) (.region [.op (some 20) none (.mv (.t 10)), .op (some 21) none (.bin .add (.t 20) (.k (AV.int .i64 1))), .op (some 10) none (.mv (.t 21))]))
theorem law07FoldValues_L1s_eq (R : Nat → List AV → Option Res) (N : Nat) (K : Ex → St → Option Res) (W : St → Option Res) (l2 : List AV) (b4 : Bool) (b5 : Bool) (b6 : Bool) (i1 : Int) (l3 : List AV) :
    evC gl R N law07FoldValues_c0 (Kseq (fun st' => W (prune [0, 1, 2, 3, 9, 10] [9] st')) K) ⟨[(0, .imm (AV.row 1 l2)), (1, .imm (AV.bool b4)), (2, .imm (AV.bool b5)), (3, .imm (AV.bool b6)), (9, .own 9 0 l3.length none), (10, .imm (AV.int .i64 i1))], [(9, .row 1 l3 false)]⟩ =
    law07FoldValues_L1s R N (fun (l2 : List AV) (b4 : Bool) (b5 : Bool) (b6 : Bool) (i1 : Int) (l3 : List AV) => W ⟨[(0, .imm (AV.row 1 l2)), (1, .imm (AV.bool b4)), (2, .imm (AV.bool b5)), (3, .imm (AV.bool b6)), (9, .own 9 0 l3.length none), (10, .imm (AV.int .i64 i1))], [(9, .row 1 l3 false)]⟩) (fun (b7 : Bool) (b8 : Bool) (b9 : Bool) (l4 : List AV) => K (.exit 0) ⟨[(1, .imm (AV.bool b7)), (2, .imm (AV.bool b8)), (3, .imm (AV.bool b9)), (9, .own 9 0 l4.length none)], [(9, .row 1 l4 false)]⟩) l2 b4 b5 b6 i1 l3 := by
  kernel_rfl
theorem law07FoldValues_L1_eq (R : Nat → List AV → Option Res) (N : Nat) (K : Ex → St → Option Res) : ∀ (n : Nat) (l2 : List AV) (b4 : Bool) (b5 : Bool) (b6 : Bool) (i1 : Int) (l3 : List AV),
    rounds [0, 1, 2, 3, 9, 10] [9] (evC gl R N law07FoldValues_c0) K n ⟨[(0, .imm (AV.row 1 l2)), (1, .imm (AV.bool b4)), (2, .imm (AV.bool b5)), (3, .imm (AV.bool b6)), (9, .own 9 0 l3.length none), (10, .imm (AV.int .i64 i1))], [(9, .row 1 l3 false)]⟩ = law07FoldValues_L1 R N (fun (b7 : Bool) (b8 : Bool) (b9 : Bool) (l4 : List AV) => K (.exit 0) ⟨[(1, .imm (AV.bool b7)), (2, .imm (AV.bool b8)), (3, .imm (AV.bool b9)), (9, .own 9 0 l4.length none)], [(9, .row 1 l4 false)]⟩) n l2 b4 b5 b6 i1 l3
  | 0, _, _, _, _, _, _ => rfl
  | n + 1, l2, b4, b5, b6, i1, l3 => (law07FoldValues_L1s_eq R N K (rounds [0, 1, 2, 3, 9, 10] [9] (evC gl R N law07FoldValues_c0) K n) l2 b4 b5 b6 i1 l3).trans
      (congrArg (fun go => law07FoldValues_L1s R N go (fun (b7 : Bool) (b8 : Bool) (b9 : Bool) (l4 : List AV) => K (.exit 0) ⟨[(1, .imm (AV.bool b7)), (2, .imm (AV.bool b8)), (3, .imm (AV.bool b9)), (9, .own 9 0 l4.length none)], [(9, .row 1 l4 false)]⟩) l2 b4 b5 b6 i1 l3) (funext fun l2 => funext fun b4 => funext fun b5 => funext fun b6 => funext fun i1 => funext fun l3 => law07FoldValues_L1_eq R N K n l2 b4 b5 b6 i1 l3))
def law07FoldValues_c1 : AC := .seq (.region [.op (some 30) none (.mv (.t 1)), .op (some 31) none (.mv (.t 2)), .op (some 32) none (.mv (.t 3)), .op (some 33) none (.build [AV.bool false, AV.bool false, AV.bool false, AV.int .i64 0] [(0, 1, .t 30), (1, 1, .t 31), (2, 1, .t 32)]), .op (some 11) none (.alloc 1011 [AV.bool false, AV.bool false, AV.bool false, AV.int .i64 0]), .op none none (.store (.t 11) (.t 33) 4)]) (.seq (.freeze 9 (.regionD [8] [] [.op (some 34) none (.load (.t 11) (some 4) (.agg [.bool, .bool, .bool, .int .i64])), .op (some 35) none (.mv (.t 9)), .op (some 36) none (.call id_keepCopyString [.t 35] (.row 1)), .op (some 37) none (.call id_foldValue [.t 34, .t 36] (.str)), .op (some 38) none (.load (.t 11) (some 4) (.agg [.bool, .bool, .bool, .int .i64])), .op (some 39) none (.mv (.t 9)), .op (some 40) none (.call id_ref01Value [.t 38, .t 39] (.str)), .op (some 41) none (.bin .eql (.t 37) (.t 40)), .op (some 42) none (.mv (.t 41)), .split 42, .op (some 43) (some (42, true)) (.call id_law07Wakes [] (.bool)), .op (some 44) none (.pick (.t 42) (.t 43) (.k (AV.bool false))), .op (some 8) none (.mv (.t 44))] [])) (.ret [8] []))
def law07FoldValues_c2 : AC := .seq (.region [.op (some 8) none (.mv (.k (AV.bool false)))]) (.seq (.region [.op (some 9) none (.nilOwn 9 (some (1, .any)))]) (.seq (.seq (.region [.op (some 10) none (.mv (.k (AV.int .i64 0)))]) (.block 0 (.loop [0, 1, 2, 3, 9, 10] [9] (law07FoldValues_c0)))) (law07FoldValues_c1)))
def law07FoldValues : AFunc := ⟨4, 45, [.tmp 8], law07FoldValues_c2⟩
def law07FoldValuesr (R : Nat → List AV → Option Res) (N : Nat) (l1 : List AV) (b1 : Bool) (b2 : Bool) (b3 : Bool) : Option Res :=
  law07FoldValues_L1 R N
    (fun b13 b14 b15 l6 =>
      (R id_keepCopyString [AV.row 1 ((l6.drop 0).take l6.length)]).bind fun r2 =>
      asR 1 r2.v fun l7 =>
      (R id_foldValue [AV.agg [AV.bool b13, AV.bool b14, AV.bool b15, AV.int .i64 0], AV.row 1 l7]).bind fun r3 =>
      asS r3.v fun s3 =>
      (R id_ref01Value [AV.agg [AV.bool b13, AV.bool b14, AV.bool b15, AV.int .i64 0], AV.row 1 ((l6.drop 0).take l6.length)]).bind fun r4 =>
      asS r4.v fun s4 =>
      bif s3 == s4 then
        ((R id_law07Wakes []).bind fun r5 =>
        asB r5.v fun b16 =>
        some ⟨AV.bool b16, false, []⟩)
      else
        some ⟨AV.bool false, false, []⟩)
    N l1 b1 b2 b3 0 []
theorem law07FoldValues_eq (R : Nat → List AV → Option Res) (N : Nat) (l1 : List AV) (b1 : Bool) (b2 : Bool) (b3 : Bool) : runF gl R N law07FoldValues [AV.row 1 l1, AV.bool b1, AV.bool b2, AV.bool b3] = law07FoldValuesr R N l1 b1 b2 b3 := by
  refine Eq.trans (b :=
      rounds [0, 1, 2, 3, 9, 10] [9] (evC gl R N law07FoldValues_c0) (Kblock 0 (Kthen gl R N law07FoldValues_c1 (Kret law07FoldValues.rets))) N ⟨[(0, .imm (AV.row 1 l1)), (1, .imm (AV.bool b1)), (2, .imm (AV.bool b2)), (3, .imm (AV.bool b3)), (9, .own 9 0 (([] : List AV).length) none), (10, .imm (AV.int .i64 0))], [(9, .row 1 [] false)]⟩) (by kernel_rfl) ?_
  simp (config := { maxSteps := 100000000 }) only [law07FoldValues_L1_eq]
  kernel_rfl
theorem law07FoldValues_fit : fitF Try.prog law07FoldValues Try.f4 = true := by
  kernel_rfl

def law07FoldLiteral_L1s (R : Nat → List AV → Option Res) (N : Nat) (go : List AV → List UInt8 → List UInt8 → Int → List AV → Option Res) (k0 : List AV → List UInt8 → List UInt8 → List AV → Option Res) (l2 : List AV) (s2 : List UInt8) (s3 : List UInt8) (i1 : Int) (l3 : List AV) : Option Res :=
  bif decide ((i1 : Int) < ((l2.length : Nat) : Int)) then
    (bif decide ((i1 : Int) < 8) then
      (need (decide (0 ≤ (i1 : Int))) <|
      (l2[Int.toNat i1]?).bind fun e1 =>
      asS e1 fun s4 =>
      (R id_keepText [AV.str s4, AV.int .i64 12]).bind fun r1 =>
      asS r1.v fun s5 =>
      need (decide (((l3.drop 0).take l3.length).length + [AV.str s5].length ≤ 1099511627776)) <|
      need (decide (0 ≤ (i1 : Int)) && decide ((i1 : Int) < (((((l3.drop 0).take l3.length) ++ [AV.str s5]).length : Nat) : Int))) <|
      ((((l3.drop 0).take l3.length) ++ [AV.str s5])[0 + Int.toNat i1]?).bind fun e2 =>
      (e2.flat[0]?).bind fun v1 =>
      asS v1 fun s6 =>
      need (decide (s6.length + (([10] : List UInt8) : List UInt8).length ≤ 9223372036854775807)) <|
      need (decide (s3.length + (s6 ++ ([10] : List UInt8)).length ≤ 9223372036854775807)) <|
      go l2 s2 (s3 ++ (s6 ++ ([10] : List UInt8))) (IntKind.i64.wrap (i1 + 1)) (((l3.drop 0).take l3.length) ++ [AV.str s5]))
    else
      k0 l2 s2 s3 l3)
  else
    k0 l2 s2 s3 l3
def law07FoldLiteral_L1 (R : Nat → List AV → Option Res) (N : Nat) (k0 : List AV → List UInt8 → List UInt8 → List AV → Option Res) : Nat → List AV → List UInt8 → List UInt8 → Int → List AV → Option Res
  | 0, _, _, _, _, _ => none
  | n + 1, l2, s2, s3, i1, l3 => law07FoldLiteral_L1s R N (law07FoldLiteral_L1 R N k0 n) k0 l2 s2 s3 i1 l3
def law07FoldLiteral_c0 : AC := .seq (.seq (.region [.op (some 11) none (.mv (.t 7)), .op (some 12) none (.mv (.t 0)), .op (some 13) none (.len (.t 12) false), .op (some 14) none (.bin .lss (.t 11) (.t 13)), .op (some 15) none (.mv (.t 14)), .split 15, .op (some 16) (some (15, true)) (.mv (.t 7)), .op (some 17) (some (15, true)) (.bin .lss (.t 16) (.k (AV.int .i64 8))), .op (some 18) none (.pick (.t 15) (.t 17) (.k (AV.bool false)))]) (.cond (.t 18) (.skip) (.exit 0 [0, 1, 5, 6] [5]))) (.seq (.block 1 (.seq (.region [.op (some 21) none (.mv (.t 5)), .op (some 22) none (.mv (.t 0)), .op (some 23) none (.mv (.t 7)), .op (some 24) none (.iaddr (.t 22) (.t 23) 1 (.str)), .op (some 25) none (.load (.t 24) none (.str)), .op (some 26) none (.call id_keepText [.t 25, .k (AV.int .i64 12)] (.str)), .op (some 27) none (.bslice [.t 26] 1 false), .op (some 28) none (.app 5 (.t 21) (.t 27) 1 .any false), .op (some 5) none (.mv (.t 28))]) (.region [.op (some 29) none (.mv (.t 6)), .op (some 30) none (.mv (.t 5)), .op (some 31) none (.mv (.t 7)), .op (some 32) none (.iaddr (.t 30) (.t 31) 1 (.str)), .op (some 33) none (.load (.t 32) none (.str)), .op (some 34) none (.bin .add (.t 33) (.k (AV.str ([10] : List UInt8)))), .op (some 35) none (.bin .add (.t 29) (.t 34)), .op (some 6) none (.mv (.t 35))]))) (.region [.op (some 19) none (.mv (.t 7)), .op (some 20) none (.bin .add (.t 19) (.k (AV.int .i64 1))), .op (some 7) none (.mv (.t 20))]))
theorem law07FoldLiteral_L1s_eq (R : Nat → List AV → Option Res) (N : Nat) (K : Ex → St → Option Res) (W : St → Option Res) (l2 : List AV) (s2 : List UInt8) (s3 : List UInt8) (i1 : Int) (l3 : List AV) :
    evC gl R N law07FoldLiteral_c0 (Kseq (fun st' => W (prune [0, 1, 5, 6, 7] [5] st')) K) ⟨[(0, .imm (AV.row 1 l2)), (1, .imm (AV.str s2)), (5, .own 5 0 l3.length none), (6, .imm (AV.str s3)), (7, .imm (AV.int .i64 i1))], [(5, .row 1 l3 false)]⟩ =
    law07FoldLiteral_L1s R N (fun (l2 : List AV) (s2 : List UInt8) (s3 : List UInt8) (i1 : Int) (l3 : List AV) => W ⟨[(0, .imm (AV.row 1 l2)), (1, .imm (AV.str s2)), (5, .own 5 0 l3.length none), (6, .imm (AV.str s3)), (7, .imm (AV.int .i64 i1))], [(5, .row 1 l3 false)]⟩) (fun (l4 : List AV) (s7 : List UInt8) (s8 : List UInt8) (l5 : List AV) => K (.exit 0) ⟨[(0, .imm (AV.row 1 l4)), (1, .imm (AV.str s7)), (5, .own 5 0 l5.length none), (6, .imm (AV.str s8))], [(5, .row 1 l5 false)]⟩) l2 s2 s3 i1 l3 := by
  kernel_rfl
theorem law07FoldLiteral_L1_eq (R : Nat → List AV → Option Res) (N : Nat) (K : Ex → St → Option Res) : ∀ (n : Nat) (l2 : List AV) (s2 : List UInt8) (s3 : List UInt8) (i1 : Int) (l3 : List AV),
    rounds [0, 1, 5, 6, 7] [5] (evC gl R N law07FoldLiteral_c0) K n ⟨[(0, .imm (AV.row 1 l2)), (1, .imm (AV.str s2)), (5, .own 5 0 l3.length none), (6, .imm (AV.str s3)), (7, .imm (AV.int .i64 i1))], [(5, .row 1 l3 false)]⟩ = law07FoldLiteral_L1 R N (fun (l4 : List AV) (s7 : List UInt8) (s8 : List UInt8) (l5 : List AV) => K (.exit 0) ⟨[(0, .imm (AV.row 1 l4)), (1, .imm (AV.str s7)), (5, .own 5 0 l5.length none), (6, .imm (AV.str s8))], [(5, .row 1 l5 false)]⟩) n l2 s2 s3 i1 l3
  | 0, _, _, _, _, _ => rfl
  | n + 1, l2, s2, s3, i1, l3 => (law07FoldLiteral_L1s_eq R N K (rounds [0, 1, 5, 6, 7] [5] (evC gl R N law07FoldLiteral_c0) K n) l2 s2 s3 i1 l3).trans
      (congrArg (fun go => law07FoldLiteral_L1s R N go (fun (l4 : List AV) (s7 : List UInt8) (s8 : List UInt8) (l5 : List AV) => K (.exit 0) ⟨[(0, .imm (AV.row 1 l4)), (1, .imm (AV.str s7)), (5, .own 5 0 l5.length none), (6, .imm (AV.str s8))], [(5, .row 1 l5 false)]⟩) l2 s2 s3 i1 l3) (funext fun l2 => funext fun s2 => funext fun s3 => funext fun i1 => funext fun l3 => law07FoldLiteral_L1_eq R N K n l2 s2 s3 i1 l3))
def law07FoldLiteral_L2s (R : Nat → List AV → Option Res) (N : Nat) (go : List AV → List UInt8 → Int → List AV → Option Res) (k0 : List UInt8 → Int → List AV → Option Res) (l10 : List AV) (s14 : List UInt8) (i2 : Int) (l11 : List AV) : Option Res :=
  need (!decide (4 = 0)) <|
  bif decide ((i2 : Int) < (Int.tmod ((l10.length : Nat) : Int) 4)) then
    (need (decide (((l11.drop 0).take l11.length).length + [AV.str ([] : List UInt8)].length ≤ 1099511627776)) <|
    go l10 s14 (IntKind.i64.wrap (i2 + 1)) (((l11.drop 0).take l11.length) ++ [AV.str ([] : List UInt8)]))
  else
    k0 s14 i2 l11
def law07FoldLiteral_L2 (R : Nat → List AV → Option Res) (N : Nat) (k0 : List UInt8 → Int → List AV → Option Res) : Nat → List AV → List UInt8 → Int → List AV → Option Res
  | 0, _, _, _, _ => none
  | n + 1, l10, s14, i2, l11 => law07FoldLiteral_L2s R N (law07FoldLiteral_L2 R N k0 n) k0 l10 s14 i2 l11
def law07FoldLiteral_c1 : AC := .seq (.seq (.region [.op (some 46) none (.mv (.t 8)), .op (some 47) none (.mv (.t 0)), .op (some 48) none (.len (.t 47) false), .op (some 49) none (.bin .rem (.t 48) (.k (AV.int .i64 4))), .op (some 50) none (.bin .lss (.t 46) (.t 49))]) (.cond (.t 50) (.skip) (.exit 2 [5, 6, 8] [5]))) (.block 3 (.seq (.region [.op (some 51) none (.mv (.t 5)), .op (some 52) none (.bslice [.k (AV.str ([] : List UInt8))] 1 false), .op (some 53) none (.app 5 (.t 51) (.t 52) 1 .any false), .op (some 5) none (.mv (.t 53))]) (.region [.op (some 54) none (.mv (.t 8)), .op (some 55) none (.bin .add (.t 54) (.k (AV.int .i64 1))), .op (some 8) none (.mv (.t 55))])))
theorem law07FoldLiteral_L2s_eq (R : Nat → List AV → Option Res) (N : Nat) (K : Ex → St → Option Res) (W : St → Option Res) (l10 : List AV) (s14 : List UInt8) (i2 : Int) (l11 : List AV) :
    evC gl R N law07FoldLiteral_c1 (Kseq (fun st' => W (prune [0, 5, 6, 8] [5] st')) K) ⟨[(0, .imm (AV.row 1 l10)), (5, .own 5 0 l11.length none), (6, .imm (AV.str s14)), (8, .imm (AV.int .i64 i2))], [(5, .row 1 l11 false)]⟩ =
    law07FoldLiteral_L2s R N (fun (l10 : List AV) (s14 : List UInt8) (i2 : Int) (l11 : List AV) => W ⟨[(0, .imm (AV.row 1 l10)), (5, .own 5 0 l11.length none), (6, .imm (AV.str s14)), (8, .imm (AV.int .i64 i2))], [(5, .row 1 l11 false)]⟩) (fun (s15 : List UInt8) (i3 : Int) (l12 : List AV) => K (.exit 2) ⟨[(5, .own 5 0 l12.length none), (6, .imm (AV.str s15)), (8, .imm (AV.int .i64 i3))], [(5, .row 1 l12 false)]⟩) l10 s14 i2 l11 := by
  kernel_rfl
theorem law07FoldLiteral_L2_eq (R : Nat → List AV → Option Res) (N : Nat) (K : Ex → St → Option Res) : ∀ (n : Nat) (l10 : List AV) (s14 : List UInt8) (i2 : Int) (l11 : List AV),
    rounds [0, 5, 6, 8] [5] (evC gl R N law07FoldLiteral_c1) K n ⟨[(0, .imm (AV.row 1 l10)), (5, .own 5 0 l11.length none), (6, .imm (AV.str s14)), (8, .imm (AV.int .i64 i2))], [(5, .row 1 l11 false)]⟩ = law07FoldLiteral_L2 R N (fun (s15 : List UInt8) (i3 : Int) (l12 : List AV) => K (.exit 2) ⟨[(5, .own 5 0 l12.length none), (6, .imm (AV.str s15)), (8, .imm (AV.int .i64 i3))], [(5, .row 1 l12 false)]⟩) n l10 s14 i2 l11
  | 0, _, _, _, _ => rfl
  | n + 1, l10, s14, i2, l11 => (law07FoldLiteral_L2s_eq R N K (rounds [0, 5, 6, 8] [5] (evC gl R N law07FoldLiteral_c1) K n) l10 s14 i2 l11).trans
      (congrArg (fun go => law07FoldLiteral_L2s R N go (fun (s15 : List UInt8) (i3 : Int) (l12 : List AV) => K (.exit 2) ⟨[(5, .own 5 0 l12.length none), (6, .imm (AV.str s15)), (8, .imm (AV.int .i64 i3))], [(5, .row 1 l12 false)]⟩) l10 s14 i2 l11) (funext fun l10 => funext fun s14 => funext fun i2 => funext fun l11 => law07FoldLiteral_L2_eq R N K n l10 s14 i2 l11))
def law07FoldLiteral_L3s (R : Nat → List AV → Option Res) (N : Nat) (go : List UInt8 → Int → List UInt8 → Int → List AV → Option Res) (k0 : List UInt8 → List UInt8 → List AV → Option Res) (s18 : List UInt8) (i6 : Int) (s19 : List UInt8) (i7 : Int) (l15 : List AV) : Option Res :=
  bif decide ((i7 : Int) < i6) then
    (need (decide (s19.length + (([10] : List UInt8) : List UInt8).length ≤ 9223372036854775807)) <|
    go s18 i6 (s19 ++ ([10] : List UInt8)) (IntKind.i64.wrap (i7 + 1)) l15)
  else
    k0 s18 s19 l15
def law07FoldLiteral_L3 (R : Nat → List AV → Option Res) (N : Nat) (k0 : List UInt8 → List UInt8 → List AV → Option Res) : Nat → List UInt8 → Int → List UInt8 → Int → List AV → Option Res
  | 0, _, _, _, _, _ => none
  | n + 1, s18, i6, s19, i7, l15 => law07FoldLiteral_L3s R N (law07FoldLiteral_L3 R N k0 n) k0 s18 i6 s19 i7 l15
def law07FoldLiteral_c2 : AC := .seq (.seq (.region [.op (some 58) none (.mv (.t 10)), .op (some 59) none (.mv (.t 8)), .op (some 60) none (.bin .lss (.t 58) (.t 59))]) (.cond (.t 60) (.skip) (.exit 4 [5, 6, 9] [5]))) (.seq (.block 5 (.region [.op (some 63) none (.mv (.t 9)), .op (some 64) none (.bin .add (.t 63) (.k (AV.str ([10] : List UInt8)))), .op (some 9) none (.mv (.t 64))])) (.region [.op (some 61) none (.mv (.t 10)), .op (some 62) none (.bin .add (.t 61) (.k (AV.int .i64 1))), .op (some 10) none (.mv (.t 62))]))
theorem law07FoldLiteral_L3s_eq (R : Nat → List AV → Option Res) (N : Nat) (K : Ex → St → Option Res) (W : St → Option Res) (s18 : List UInt8) (i6 : Int) (s19 : List UInt8) (i7 : Int) (l15 : List AV) :
    evC gl R N law07FoldLiteral_c2 (Kseq (fun st' => W (prune [5, 6, 8, 9, 10] [5] st')) K) ⟨[(5, .own 5 0 l15.length none), (6, .imm (AV.str s18)), (8, .imm (AV.int .i64 i6)), (9, .imm (AV.str s19)), (10, .imm (AV.int .i64 i7))], [(5, .row 1 l15 false)]⟩ =
    law07FoldLiteral_L3s R N (fun (s18 : List UInt8) (i6 : Int) (s19 : List UInt8) (i7 : Int) (l15 : List AV) => W ⟨[(5, .own 5 0 l15.length none), (6, .imm (AV.str s18)), (8, .imm (AV.int .i64 i6)), (9, .imm (AV.str s19)), (10, .imm (AV.int .i64 i7))], [(5, .row 1 l15 false)]⟩) (fun (s20 : List UInt8) (s21 : List UInt8) (l16 : List AV) => K (.exit 4) ⟨[(5, .own 5 0 l16.length none), (6, .imm (AV.str s20)), (9, .imm (AV.str s21))], [(5, .row 1 l16 false)]⟩) s18 i6 s19 i7 l15 := by
  kernel_rfl
theorem law07FoldLiteral_L3_eq (R : Nat → List AV → Option Res) (N : Nat) (K : Ex → St → Option Res) : ∀ (n : Nat) (s18 : List UInt8) (i6 : Int) (s19 : List UInt8) (i7 : Int) (l15 : List AV),
    rounds [5, 6, 8, 9, 10] [5] (evC gl R N law07FoldLiteral_c2) K n ⟨[(5, .own 5 0 l15.length none), (6, .imm (AV.str s18)), (8, .imm (AV.int .i64 i6)), (9, .imm (AV.str s19)), (10, .imm (AV.int .i64 i7))], [(5, .row 1 l15 false)]⟩ = law07FoldLiteral_L3 R N (fun (s20 : List UInt8) (s21 : List UInt8) (l16 : List AV) => K (.exit 4) ⟨[(5, .own 5 0 l16.length none), (6, .imm (AV.str s20)), (9, .imm (AV.str s21))], [(5, .row 1 l16 false)]⟩) n s18 i6 s19 i7 l15
  | 0, _, _, _, _, _ => rfl
  | n + 1, s18, i6, s19, i7, l15 => (law07FoldLiteral_L3s_eq R N K (rounds [5, 6, 8, 9, 10] [5] (evC gl R N law07FoldLiteral_c2) K n) s18 i6 s19 i7 l15).trans
      (congrArg (fun go => law07FoldLiteral_L3s R N go (fun (s20 : List UInt8) (s21 : List UInt8) (l16 : List AV) => K (.exit 4) ⟨[(5, .own 5 0 l16.length none), (6, .imm (AV.str s20)), (9, .imm (AV.str s21))], [(5, .row 1 l16 false)]⟩) s18 i6 s19 i7 l15) (funext fun s18 => funext fun i6 => funext fun s19 => funext fun i7 => funext fun l15 => law07FoldLiteral_L3_eq R N K n s18 i6 s19 i7 l15))
def law07FoldLiteral_c3 : AC := .seq (.region [.op (some 65) none (.build [AV.bool false, AV.bool false, AV.bool false, AV.int .i64 0] []), .op (some 66) none (.mv (.t 5)), .op (some 67) none (.call id_foldValue [.t 65, .t 66] (.str)), .op (some 68) none (.mv (.t 6)), .op (some 69) none (.bin .add (.t 68) (.k (AV.str ([10] : List UInt8)))), .op (some 70) none (.bin .eql (.t 67) (.t 69)), .op (some 71) none (.mv (.t 70)), .split 71, .op (some 72) (some (71, true)) (.build [AV.bool false, AV.bool false, AV.bool false, AV.int .i64 0] [(1, 1, .k (AV.bool true))]), .op (some 73) (some (71, true)) (.mv (.t 5)), .op (some 74) (some (71, true)) (.call id_foldValue [.t 72, .t 73] (.str)), .op (some 75) (some (71, true)) (.mv (.t 6)), .op (some 76) (some (71, true)) (.bin .eql (.t 74) (.t 75)), .op (some 77) none (.pick (.t 71) (.t 76) (.k (AV.bool false))), .op (some 78) none (.mv (.t 77)), .split 78, .op (some 79) (some (78, true)) (.build [AV.bool false, AV.bool false, AV.bool false, AV.int .i64 0] [(2, 1, .k (AV.bool true))]), .op (some 80) (some (78, true)) (.mv (.t 5)), .op (some 81) (some (78, true)) (.call id_foldValue [.t 79, .t 80] (.str)), .op (some 82) (some (78, true)) (.mv (.t 9)), .op (some 83) (some (78, true)) (.bin .eql (.t 81) (.t 82)), .op (some 84) none (.pick (.t 78) (.t 83) (.k (AV.bool false))), .op (some 85) none (.mv (.t 84)), .split 85, .op (some 86) (some (85, true)) (.call id_law07Wakes [] (.bool)), .op (some 87) none (.pick (.t 85) (.t 86) (.k (AV.bool false))), .op (some 4) none (.mv (.t 87))]) (.ret [4] [])
def law07FoldLiteral_c4 : AC := .seq (.region [.op (some 56) none (.mv (.t 6)), .op (some 57) none (.bin .add (.t 56) (.k (AV.str ([10] : List UInt8)))), .op (some 9) none (.mv (.t 57))]) (.seq (.seq (.region [.op (some 10) none (.mv (.k (AV.int .i64 0)))]) (.block 4 (.loop [5, 6, 8, 9, 10] [5] (law07FoldLiteral_c2)))) (law07FoldLiteral_c3))
def law07FoldLiteral_c5 : AC := .seq (.region [.op (some 36) none (.mv (.t 1)), .op (some 37) none (.call id_keepText [.t 36, .k (AV.int .i64 9)] (.str)), .op (some 38) none (.bin .add (.k (AV.str ([120] : List UInt8))) (.t 37)), .op (some 1) none (.mv (.t 38))]) (.seq (.region [.op (some 39) none (.mv (.t 5)), .op (some 40) none (.mv (.t 1)), .op (some 41) none (.bslice [.t 40] 1 false), .op (some 42) none (.app 5 (.t 39) (.t 41) 1 .any false), .op (some 43) none (.mv (.t 6)), .op (some 44) none (.mv (.t 1)), .op (some 45) none (.bin .add (.t 43) (.t 44)), .op (some 5) none (.mv (.t 42)), .op (some 6) none (.mv (.t 45))]) (.seq (.region [.op (some 8) none (.mv (.k (AV.int .i64 0)))]) (.seq (.block 2 (.loop [0, 5, 6, 8] [5] (law07FoldLiteral_c1))) (law07FoldLiteral_c4))))
def law07FoldLiteral_c6 : AC := .seq (.region [.op (some 4) none (.mv (.k (AV.bool false)))]) (.seq (.region [.op (some 5) none (.nilOwn 5 (some (1, .any)))]) (.seq (.region [.op (some 6) none (.mv (.k (AV.str ([] : List UInt8))))]) (.seq (.seq (.region [.op (some 7) none (.mv (.k (AV.int .i64 0)))]) (.block 0 (.loop [0, 1, 5, 6, 7] [5] (law07FoldLiteral_c0)))) (law07FoldLiteral_c5))))
def law07FoldLiteral : AFunc := ⟨2, 88, [.tmp 4], law07FoldLiteral_c6⟩
def law07FoldLiteralr (R : Nat → List AV → Option Res) (N : Nat) (l1 : List AV) (s1 : List UInt8) : Option Res :=
  law07FoldLiteral_L1 R N
    (fun l8 s11 s12 l9 =>
      (R id_keepText [AV.str s11, AV.int .i64 9]).bind fun r2 =>
      asS r2.v fun s13 =>
      need (decide ((([120] : List UInt8) : List UInt8).length + s13.length ≤ 9223372036854775807)) <|
      need (decide (((l9.drop 0).take l9.length).length + [AV.str (([120] : List UInt8) ++ s13)].length ≤ 1099511627776)) <|
      need (decide (s12.length + (([120] : List UInt8) ++ s13 : List UInt8).length ≤ 9223372036854775807)) <|
      law07FoldLiteral_L2 R N
        (fun s17 i5 l14 =>
          need (decide (s17.length + (([10] : List UInt8) : List UInt8).length ≤ 9223372036854775807)) <|
          law07FoldLiteral_L3 R N
            (fun s24 s25 l18 =>
              (R id_foldValue [AV.agg [AV.bool false, AV.bool false, AV.bool false, AV.int .i64 0], AV.row 1 ((l18.drop 0).take l18.length)]).bind fun r3 =>
              asS r3.v fun s26 =>
              need (decide (s24.length + (([10] : List UInt8) : List UInt8).length ≤ 9223372036854775807)) <|
              bif s26 == (s24 ++ ([10] : List UInt8)) then
                ((R id_foldValue [AV.agg [AV.bool false, AV.bool true, AV.bool false, AV.int .i64 0], AV.row 1 ((l18.drop 0).take l18.length)]).bind fun r4 =>
                asS r4.v fun s27 =>
                bif s27 == s24 then
                  ((R id_foldValue [AV.agg [AV.bool false, AV.bool false, AV.bool true, AV.int .i64 0], AV.row 1 ((l18.drop 0).take l18.length)]).bind fun r5 =>
                  asS r5.v fun s28 =>
                  bif s28 == s25 then
                    ((R id_law07Wakes []).bind fun r6 =>
                    asB r6.v fun b1 =>
                    some ⟨AV.bool b1, false, []⟩)
                  else
                    some ⟨AV.bool false, false, []⟩)
                else
                  some ⟨AV.bool false, false, []⟩)
              else
                some ⟨AV.bool false, false, []⟩)
            N s17 i5 (s17 ++ ([10] : List UInt8)) 0 l14)
        N l8 (s12 ++ (([120] : List UInt8) ++ s13)) 0 (((l9.drop 0).take l9.length) ++ [AV.str (([120] : List UInt8) ++ s13)]))
    N l1 s1 ([] : List UInt8) 0 []
theorem law07FoldLiteral_eq (R : Nat → List AV → Option Res) (N : Nat) (l1 : List AV) (s1 : List UInt8) : runF gl R N law07FoldLiteral [AV.row 1 l1, AV.str s1] = law07FoldLiteralr R N l1 s1 := by
  refine Eq.trans (b :=
      rounds [0, 1, 5, 6, 7] [5] (evC gl R N law07FoldLiteral_c0) (Kblock 0 (Kthen gl R N law07FoldLiteral_c5 (Kret law07FoldLiteral.rets))) N ⟨[(0, .imm (AV.row 1 l1)), (1, .imm (AV.str s1)), (5, .own 5 0 (([] : List AV).length) none), (6, .imm (AV.str ([] : List UInt8))), (7, .imm (AV.int .i64 0))], [(5, .row 1 [] false)]⟩) (by kernel_rfl) ?_
  simp (config := { maxSteps := 100000000 }) only [law07FoldLiteral_L1_eq, law07FoldLiteral_L2_eq, law07FoldLiteral_L3_eq]
  refine Eq.trans (b :=
      law07FoldLiteral_L1 R N
        (fun l8 s11 s12 l9 =>
          (R id_keepText [AV.str s11, AV.int .i64 9]).bind fun r2 =>
          asS r2.v fun s13 =>
          need (decide ((([120] : List UInt8) : List UInt8).length + s13.length ≤ 9223372036854775807)) <|
          need (decide (((l9.drop 0).take l9.length).length + [AV.str (([120] : List UInt8) ++ s13)].length ≤ 1099511627776)) <|
          need (decide (s12.length + (([120] : List UInt8) ++ s13 : List UInt8).length ≤ 9223372036854775807)) <|
          rounds [0, 5, 6, 8] [5] (evC gl R N law07FoldLiteral_c1) (Kblock 2 (Kthen gl R N law07FoldLiteral_c4 (Kret law07FoldLiteral.rets))) N ⟨[(0, .imm (AV.row 1 l8)), (5, .own 5 0 ((((l9.drop 0).take l9.length) ++ [AV.str (([120] : List UInt8) ++ s13)]).length) none), (6, .imm (AV.str (s12 ++ (([120] : List UInt8) ++ s13)))), (8, .imm (AV.int .i64 0))], [(5, .row 1 (((l9.drop 0).take l9.length) ++ [AV.str (([120] : List UInt8) ++ s13)]) false)]⟩)
        N l1 s1 ([] : List UInt8) 0 []) (by kernel_rfl) ?_
  simp (config := { maxSteps := 100000000 }) only [law07FoldLiteral_L1_eq, law07FoldLiteral_L2_eq, law07FoldLiteral_L3_eq]
  refine Eq.trans (b :=
      law07FoldLiteral_L1 R N
        (fun l8 s11 s12 l9 =>
          (R id_keepText [AV.str s11, AV.int .i64 9]).bind fun r2 =>
          asS r2.v fun s13 =>
          need (decide ((([120] : List UInt8) : List UInt8).length + s13.length ≤ 9223372036854775807)) <|
          need (decide (((l9.drop 0).take l9.length).length + [AV.str (([120] : List UInt8) ++ s13)].length ≤ 1099511627776)) <|
          need (decide (s12.length + (([120] : List UInt8) ++ s13 : List UInt8).length ≤ 9223372036854775807)) <|
          law07FoldLiteral_L2 R N
            (fun s17 i5 l14 =>
              need (decide (s17.length + (([10] : List UInt8) : List UInt8).length ≤ 9223372036854775807)) <|
              rounds [5, 6, 8, 9, 10] [5] (evC gl R N law07FoldLiteral_c2) (Kblock 4 (Kthen gl R N law07FoldLiteral_c3 (Kret law07FoldLiteral.rets))) N ⟨[(5, .own 5 0 l14.length none), (6, .imm (AV.str s17)), (8, .imm (AV.int .i64 i5)), (9, .imm (AV.str (s17 ++ ([10] : List UInt8)))), (10, .imm (AV.int .i64 0))], [(5, .row 1 l14 false)]⟩)
            N l8 (s12 ++ (([120] : List UInt8) ++ s13)) 0 (((l9.drop 0).take l9.length) ++ [AV.str (([120] : List UInt8) ++ s13)]))
        N l1 s1 ([] : List UInt8) 0 []) (by kernel_rfl) ?_
  simp (config := { maxSteps := 100000000 }) only [law07FoldLiteral_L1_eq, law07FoldLiteral_L2_eq, law07FoldLiteral_L3_eq]
  kernel_rfl
theorem law07FoldLiteral_fit : fitF Try.prog law07FoldLiteral Try.f5 = true := by
  kernel_rfl

def law07FoldWords_L2s (R : Nat → List AV → Option Res) (N : Nat) (go : Int → Int → List UInt8 → Int → List UInt8 → Int → List AV → Option Res) (k0 : Int → Int → List UInt8 → Int → List UInt8 → List AV → Option Res) (i8 : Int) (i9 : Int) (s2 : List UInt8) (i10 : Int) (s3 : List UInt8) (i11 : Int) (l2 : List AV) : Option Res :=
  bif decide ((i11 : Int) < i9) then
    (need (decide (((l2.drop 0).take l2.length).length + [AV.str ([] : List UInt8)].length ≤ 1099511627776)) <|
    need (decide (s2.length + (([10] : List UInt8) : List UInt8).length ≤ 9223372036854775807)) <|
    go i8 i9 (s2 ++ ([10] : List UInt8)) i10 s3 (IntKind.i64.wrap (i11 + 1)) (((l2.drop 0).take l2.length) ++ [AV.str ([] : List UInt8)]))
  else
    k0 i8 i9 s2 i10 s3 l2
def law07FoldWords_L2 (R : Nat → List AV → Option Res) (N : Nat) (k0 : Int → Int → List UInt8 → Int → List UInt8 → List AV → Option Res) : Nat → Int → Int → List UInt8 → Int → List UInt8 → Int → List AV → Option Res
  | 0, _, _, _, _, _, _, _ => none
  | n + 1, i8, i9, s2, i10, s3, i11, l2 => law07FoldWords_L2s R N (law07FoldWords_L2 R N k0 n) k0 i8 i9 s2 i10 s3 i11 l2
def law07FoldWords_c0 : AC := .seq (.seq (.region [.op (some 27) none (.mv (.t 9)), .op (some 28) none (.mv (.t 1)), .op (some 29) none (.bin .lss (.t 27) (.t 28))]) (.cond (.t 29) (.skip) (.exit 2 [0, 1, 5, 6, 7, 8] [5]))) (.seq (.block 3 (.seq (.region [.op (some 32) none (.mv (.t 5)), .op (some 33) none (.bslice [.k (AV.str ([] : List UInt8))] 1 false), .op (some 34) none (.app 5 (.t 32) (.t 33) 1 .any false), .op (some 5) none (.mv (.t 34))]) (.region [.op (some 35) none (.mv (.t 6)), .op (some 36) none (.bin .add (.t 35) (.k (AV.str ([10] : List UInt8)))), .op (some 6) none (.mv (.t 36))]))) (.region [.op (some 30) none (.mv (.t 9)), .op (some 31) none (.bin .add (.t 30) (.k (AV.int .i64 1))), .op (some 9) none (.mv (.t 31))]))
theorem law07FoldWords_L2s_eq (R : Nat → List AV → Option Res) (N : Nat) (K : Ex → St → Option Res) (W : St → Option Res) (i8 : Int) (i9 : Int) (s2 : List UInt8) (i10 : Int) (s3 : List UInt8) (i11 : Int) (l2 : List AV) :
    evC gl R N law07FoldWords_c0 (Kseq (fun st' => W (prune [0, 1, 5, 6, 7, 8, 9] [5] st')) K) ⟨[(0, .imm (AV.int .i64 i8)), (1, .imm (AV.int .i64 i9)), (5, .own 5 0 l2.length none), (6, .imm (AV.str s2)), (7, .imm (AV.int .i64 i10)), (8, .imm (AV.str s3)), (9, .imm (AV.int .i64 i11))], [(5, .row 1 l2 false)]⟩ =
    law07FoldWords_L2s R N (fun (i8 : Int) (i9 : Int) (s2 : List UInt8) (i10 : Int) (s3 : List UInt8) (i11 : Int) (l2 : List AV) => W ⟨[(0, .imm (AV.int .i64 i8)), (1, .imm (AV.int .i64 i9)), (5, .own 5 0 l2.length none), (6, .imm (AV.str s2)), (7, .imm (AV.int .i64 i10)), (8, .imm (AV.str s3)), (9, .imm (AV.int .i64 i11))], [(5, .row 1 l2 false)]⟩) (fun (i12 : Int) (i13 : Int) (s4 : List UInt8) (i14 : Int) (s5 : List UInt8) (l3 : List AV) => K (.exit 2) ⟨[(0, .imm (AV.int .i64 i12)), (1, .imm (AV.int .i64 i13)), (5, .own 5 0 l3.length none), (6, .imm (AV.str s4)), (7, .imm (AV.int .i64 i14)), (8, .imm (AV.str s5))], [(5, .row 1 l3 false)]⟩) i8 i9 s2 i10 s3 i11 l2 := by
  kernel_rfl
theorem law07FoldWords_L2_eq (R : Nat → List AV → Option Res) (N : Nat) (K : Ex → St → Option Res) : ∀ (n : Nat) (i8 : Int) (i9 : Int) (s2 : List UInt8) (i10 : Int) (s3 : List UInt8) (i11 : Int) (l2 : List AV),
    rounds [0, 1, 5, 6, 7, 8, 9] [5] (evC gl R N law07FoldWords_c0) K n ⟨[(0, .imm (AV.int .i64 i8)), (1, .imm (AV.int .i64 i9)), (5, .own 5 0 l2.length none), (6, .imm (AV.str s2)), (7, .imm (AV.int .i64 i10)), (8, .imm (AV.str s3)), (9, .imm (AV.int .i64 i11))], [(5, .row 1 l2 false)]⟩ = law07FoldWords_L2 R N (fun (i12 : Int) (i13 : Int) (s4 : List UInt8) (i14 : Int) (s5 : List UInt8) (l3 : List AV) => K (.exit 2) ⟨[(0, .imm (AV.int .i64 i12)), (1, .imm (AV.int .i64 i13)), (5, .own 5 0 l3.length none), (6, .imm (AV.str s4)), (7, .imm (AV.int .i64 i14)), (8, .imm (AV.str s5))], [(5, .row 1 l3 false)]⟩) n i8 i9 s2 i10 s3 i11 l2
  | 0, _, _, _, _, _, _, _ => rfl
  | n + 1, i8, i9, s2, i10, s3, i11, l2 => (law07FoldWords_L2s_eq R N K (rounds [0, 1, 5, 6, 7, 8, 9] [5] (evC gl R N law07FoldWords_c0) K n) i8 i9 s2 i10 s3 i11 l2).trans
      (congrArg (fun go => law07FoldWords_L2s R N go (fun (i12 : Int) (i13 : Int) (s4 : List UInt8) (i14 : Int) (s5 : List UInt8) (l3 : List AV) => K (.exit 2) ⟨[(0, .imm (AV.int .i64 i12)), (1, .imm (AV.int .i64 i13)), (5, .own 5 0 l3.length none), (6, .imm (AV.str s4)), (7, .imm (AV.int .i64 i14)), (8, .imm (AV.str s5))], [(5, .row 1 l3 false)]⟩) i8 i9 s2 i10 s3 i11 l2) (funext fun i8 => funext fun i9 => funext fun s2 => funext fun i10 => funext fun s3 => funext fun i11 => funext fun l2 => law07FoldWords_L2_eq R N K n i8 i9 s2 i10 s3 i11 l2))
def law07FoldWords_L1s (R : Nat → List AV → Option Res) (N : Nat) (go : Int → Int → List UInt8 → Int → List AV → Option Res) (k0 : List UInt8 → List AV → Option Res) (i5 : Int) (i6 : Int) (s1 : List UInt8) (i7 : Int) (l1 : List AV) : Option Res :=
  bif decide ((i7 : Int) < i5) then
    (need (decide (0 ≤ (IntKind.u8.wrap (IntKind.i64.wrap (97 + i7)) : Int)) && decide ((IntKind.u8.wrap (IntKind.i64.wrap (97 + i7)) : Int) < 256)) <|
    bif decide ((i7 : Int) > 0) then
      (law07FoldWords_L2 R N
        (fun i18 i19 s8 i20 s9 l5 =>
          bif (i19 : Int) == 0 then
            (need (decide (s8.length + (([32] : List UInt8) : List UInt8).length ≤ 9223372036854775807)) <|
            need (decide (((l5.drop 0).take l5.length).length + [AV.str s9].length ≤ 1099511627776)) <|
            need (decide ((s8 ++ ([32] : List UInt8)).length + s9.length ≤ 9223372036854775807)) <|
            go i18 i19 ((s8 ++ ([32] : List UInt8)) ++ s9) (IntKind.i64.wrap (i20 + 1)) (((l5.drop 0).take l5.length) ++ [AV.str s9]))
          else
            need (decide (((l5.drop 0).take l5.length).length + [AV.str s9].length ≤ 1099511627776)) <|
            need (decide (s8.length + s9.length ≤ 9223372036854775807)) <|
            go i18 i19 (s8 ++ s9) (IntKind.i64.wrap (i20 + 1)) (((l5.drop 0).take l5.length) ++ [AV.str s9]))
        N i5 i6 s1 i7 [UInt8.ofNat (Int.toNat (IntKind.u8.wrap (IntKind.i64.wrap (97 + i7))))] 0 l1)
    else
      need (decide (((l1.drop 0).take l1.length).length + [AV.str [UInt8.ofNat (Int.toNat (IntKind.u8.wrap (IntKind.i64.wrap (97 + i7))))]].length ≤ 1099511627776)) <|
      need (decide (s1.length + ([UInt8.ofNat (Int.toNat (IntKind.u8.wrap (IntKind.i64.wrap (97 + i7))))] : List UInt8).length ≤ 9223372036854775807)) <|
      go i5 i6 (s1 ++ [UInt8.ofNat (Int.toNat (IntKind.u8.wrap (IntKind.i64.wrap (97 + i7))))]) (IntKind.i64.wrap (i7 + 1)) (((l1.drop 0).take l1.length) ++ [AV.str [UInt8.ofNat (Int.toNat (IntKind.u8.wrap (IntKind.i64.wrap (97 + i7))))]]))
  else
    k0 s1 l1
def law07FoldWords_L1 (R : Nat → List AV → Option Res) (N : Nat) (k0 : List UInt8 → List AV → Option Res) : Nat → Int → Int → List UInt8 → Int → List AV → Option Res
  | 0, _, _, _, _, _ => none
  | n + 1, i5, i6, s1, i7, l1 => law07FoldWords_L1s R N (law07FoldWords_L1 R N k0 n) k0 i5 i6 s1 i7 l1
def law07FoldWords_c1 : AC := .seq (.region [.op (some 37) none (.mv (.t 1)), .op (some 38) none (.bin .eql (.t 37) (.k (AV.int .i64 0)))]) (.cond (.t 38) (.region [.op (some 39) none (.mv (.t 6)), .op (some 40) none (.bin .add (.t 39) (.k (AV.str ([32] : List UInt8)))), .op (some 6) none (.mv (.t 40))]) (.skip))
def law07FoldWords_c2 : AC := .region [.op (some 41) none (.mv (.t 5)), .op (some 42) none (.mv (.t 8)), .op (some 43) none (.bslice [.t 42] 1 false), .op (some 44) none (.app 5 (.t 41) (.t 43) 1 .any false), .op (some 45) none (.mv (.t 6)), .op (some 46) none (.mv (.t 8)), .op (some 47) none (.bin .add (.t 45) (.t 46)), .op (some 5) none (.mv (.t 44)), .op (some 6) none (.mv (.t 47))]
def law07FoldWords_c3 : AC := .region [.op (some 18) none (.mv (.t 7)), .op (some 19) none (.bin .add (.t 18) (.k (AV.int .i64 1))), .op (some 7) none (.mv (.t 19))]
def law07FoldWords_c4 : AC := .seq (.seq (.region [.op (some 15) none (.mv (.t 7)), .op (some 16) none (.mv (.t 0)), .op (some 17) none (.bin .lss (.t 15) (.t 16))]) (.cond (.t 17) (.skip) (.exit 0 [5, 6] [5]))) (.seq (.block 1 (.seq (.region [.op (some 20) none (.mv (.t 7)), .op (some 21) none (.bin .add (.k (AV.int .i64 97)) (.t 20)), .op (some 22) none (.cvInt .u8 (.t 21)), .op (some 23) none (.bslice [.t 22] 1 true), .op (some 24) none (.cvStr (.t 23)), .op (some 8) none (.mv (.t 24))]) (.seq (.seq (.region [.op (some 25) none (.mv (.t 7)), .op (some 26) none (.bin .gtr (.t 25) (.k (AV.int .i64 0)))]) (.cond (.t 26) (.seq (.seq (.region [.op (some 9) none (.mv (.k (AV.int .i64 0)))]) (.block 2 (.loop [0, 1, 5, 6, 7, 8, 9] [5] (law07FoldWords_c0)))) (law07FoldWords_c1)) (.skip))) (law07FoldWords_c2)))) (law07FoldWords_c3))
theorem law07FoldWords_L1s_eq (R : Nat → List AV → Option Res) (N : Nat) (K : Ex → St → Option Res) (W : St → Option Res) (i5 : Int) (i6 : Int) (s1 : List UInt8) (i7 : Int) (l1 : List AV) :
    evC gl R N law07FoldWords_c4 (Kseq (fun st' => W (prune [0, 1, 5, 6, 7] [5] st')) K) ⟨[(0, .imm (AV.int .i64 i5)), (1, .imm (AV.int .i64 i6)), (5, .own 5 0 l1.length none), (6, .imm (AV.str s1)), (7, .imm (AV.int .i64 i7))], [(5, .row 1 l1 false)]⟩ =
    law07FoldWords_L1s R N (fun (i5 : Int) (i6 : Int) (s1 : List UInt8) (i7 : Int) (l1 : List AV) => W ⟨[(0, .imm (AV.int .i64 i5)), (1, .imm (AV.int .i64 i6)), (5, .own 5 0 l1.length none), (6, .imm (AV.str s1)), (7, .imm (AV.int .i64 i7))], [(5, .row 1 l1 false)]⟩) (fun (s10 : List UInt8) (l6 : List AV) => K (.exit 0) ⟨[(5, .own 5 0 l6.length none), (6, .imm (AV.str s10))], [(5, .row 1 l6 false)]⟩) i5 i6 s1 i7 l1 := by
  refine Eq.trans (b :=
      bif decide ((i7 : Int) < i5) then
        (need (decide (0 ≤ (IntKind.u8.wrap (IntKind.i64.wrap (97 + i7)) : Int)) && decide ((IntKind.u8.wrap (IntKind.i64.wrap (97 + i7)) : Int) < 256)) <|
        bif decide ((i7 : Int) > 0) then
          (rounds [0, 1, 5, 6, 7, 8, 9] [5] (evC gl R N law07FoldWords_c0) (Kblock 2 (Kthen gl R N law07FoldWords_c1 (Kthen gl R N law07FoldWords_c2 (Kblock 1 (Kthen gl R N law07FoldWords_c3 (Kseq (fun st' => W (prune [0, 1, 5, 6, 7] [5] st')) K)))))) N ⟨[(0, .imm (AV.int .i64 i5)), (1, .imm (AV.int .i64 i6)), (5, .own 5 0 l1.length none), (6, .imm (AV.str s1)), (7, .imm (AV.int .i64 i7)), (8, .imm (AV.str [UInt8.ofNat (Int.toNat (IntKind.u8.wrap (IntKind.i64.wrap (97 + i7))))])), (9, .imm (AV.int .i64 0))], [(5, .row 1 l1 false)]⟩)
        else
          need (decide (((l1.drop 0).take l1.length).length + [AV.str [UInt8.ofNat (Int.toNat (IntKind.u8.wrap (IntKind.i64.wrap (97 + i7))))]].length ≤ 1099511627776)) <|
          need (decide (s1.length + ([UInt8.ofNat (Int.toNat (IntKind.u8.wrap (IntKind.i64.wrap (97 + i7))))] : List UInt8).length ≤ 9223372036854775807)) <|
          (fun (i5 : Int) (i6 : Int) (s1 : List UInt8) (i7 : Int) (l1 : List AV) => W ⟨[(0, .imm (AV.int .i64 i5)), (1, .imm (AV.int .i64 i6)), (5, .own 5 0 l1.length none), (6, .imm (AV.str s1)), (7, .imm (AV.int .i64 i7))], [(5, .row 1 l1 false)]⟩) i5 i6 (s1 ++ [UInt8.ofNat (Int.toNat (IntKind.u8.wrap (IntKind.i64.wrap (97 + i7))))]) (IntKind.i64.wrap (i7 + 1)) (((l1.drop 0).take l1.length) ++ [AV.str [UInt8.ofNat (Int.toNat (IntKind.u8.wrap (IntKind.i64.wrap (97 + i7))))]]))
      else
        (fun (s11 : List UInt8) (l7 : List AV) => K (.exit 0) ⟨[(5, .own 5 0 l7.length none), (6, .imm (AV.str s11))], [(5, .row 1 l7 false)]⟩) s1 l1) (by kernel_rfl) ?_
  simp (config := { maxSteps := 100000000 }) only [law07FoldWords_L2_eq]
  kernel_rfl
theorem law07FoldWords_L1_eq (R : Nat → List AV → Option Res) (N : Nat) (K : Ex → St → Option Res) : ∀ (n : Nat) (i5 : Int) (i6 : Int) (s1 : List UInt8) (i7 : Int) (l1 : List AV),
    rounds [0, 1, 5, 6, 7] [5] (evC gl R N law07FoldWords_c4) K n ⟨[(0, .imm (AV.int .i64 i5)), (1, .imm (AV.int .i64 i6)), (5, .own 5 0 l1.length none), (6, .imm (AV.str s1)), (7, .imm (AV.int .i64 i7))], [(5, .row 1 l1 false)]⟩ = law07FoldWords_L1 R N (fun (s10 : List UInt8) (l6 : List AV) => K (.exit 0) ⟨[(5, .own 5 0 l6.length none), (6, .imm (AV.str s10))], [(5, .row 1 l6 false)]⟩) n i5 i6 s1 i7 l1
  | 0, _, _, _, _, _ => rfl
  | n + 1, i5, i6, s1, i7, l1 => (law07FoldWords_L1s_eq R N K (rounds [0, 1, 5, 6, 7] [5] (evC gl R N law07FoldWords_c4) K n) i5 i6 s1 i7 l1).trans
      (congrArg (fun go => law07FoldWords_L1s R N go (fun (s10 : List UInt8) (l6 : List AV) => K (.exit 0) ⟨[(5, .own 5 0 l6.length none), (6, .imm (AV.str s10))], [(5, .row 1 l6 false)]⟩) i5 i6 s1 i7 l1) (funext fun i5 => funext fun i6 => funext fun s1 => funext fun i7 => funext fun l1 => law07FoldWords_L1_eq R N K n i5 i6 s1 i7 l1))
def law07FoldWords_c5 : AC := .seq (.region [.op (some 48) none (.build [AV.bool false, AV.bool false, AV.bool false, AV.int .i64 0] [(0, 1, .k (AV.bool true)), (1, 1, .k (AV.bool true))]), .op (some 49) none (.mv (.t 5)), .op (some 50) none (.call id_foldValue [.t 48, .t 49] (.str)), .op (some 51) none (.mv (.t 6)), .op (some 52) none (.bin .eql (.t 50) (.t 51)), .op (some 53) none (.mv (.t 52)), .split 53, .op (some 54) (some (53, true)) (.call id_law07Wakes [] (.bool)), .op (some 55) none (.pick (.t 53) (.t 54) (.k (AV.bool false))), .op (some 4) none (.mv (.t 55))]) (.ret [4] [])
def law07FoldWords_c6 : AC := .seq (.region [.op (some 4) none (.mv (.k (AV.bool false)))]) (.seq (.region [.op (some 10) none (.mv (.t 0)), .op (some 11) none (.call id_keepWithin [.t 10, .k (AV.int .i64 5)] (.int .i64)), .op (some 12) none (.bin .add (.k (AV.int .i64 2)) (.t 11)), .op (some 13) none (.mv (.t 1)), .op (some 14) none (.call id_keepWithin [.t 13, .k (AV.int .i64 4)] (.int .i64)), .op (some 0) none (.mv (.t 12)), .op (some 1) none (.mv (.t 14))]) (.seq (.region [.op (some 5) none (.nilOwn 5 (some (1, .any)))]) (.seq (.region [.op (some 6) none (.mv (.k (AV.str ([] : List UInt8))))]) (.seq (.seq (.region [.op (some 7) none (.mv (.k (AV.int .i64 0)))]) (.block 0 (.loop [0, 1, 5, 6, 7] [5] (law07FoldWords_c4)))) (law07FoldWords_c5)))))
def law07FoldWords : AFunc := ⟨2, 56, [.tmp 4], law07FoldWords_c6⟩
def law07FoldWordsr (R : Nat → List AV → Option Res) (N : Nat) (i1 : Int) (i2 : Int) : Option Res :=
  (R id_keepWithin [AV.int .i64 i1, AV.int .i64 5]).bind fun r1 =>
  asI .i64 r1.v fun i3 =>
  (R id_keepWithin [AV.int .i64 i2, AV.int .i64 4]).bind fun r2 =>
  asI .i64 r2.v fun i4 =>
  law07FoldWords_L1 R N
    (fun s12 l8 =>
      (R id_foldValue [AV.agg [AV.bool true, AV.bool true, AV.bool false, AV.int .i64 0], AV.row 1 ((l8.drop 0).take l8.length)]).bind fun r3 =>
      asS r3.v fun s13 =>
      bif s13 == s12 then
        ((R id_law07Wakes []).bind fun r4 =>
        asB r4.v fun b1 =>
        some ⟨AV.bool b1, false, []⟩)
      else
        some ⟨AV.bool false, false, []⟩)
    N (IntKind.i64.wrap (2 + i3)) i4 ([] : List UInt8) 0 []
theorem law07FoldWords_eq (R : Nat → List AV → Option Res) (N : Nat) (i1 : Int) (i2 : Int) : runF gl R N law07FoldWords [AV.int .i64 i1, AV.int .i64 i2] = law07FoldWordsr R N i1 i2 := by
  refine Eq.trans (b :=
      (R id_keepWithin [AV.int .i64 i1, AV.int .i64 5]).bind fun r1 =>
      asI .i64 r1.v fun i3 =>
      (R id_keepWithin [AV.int .i64 i2, AV.int .i64 4]).bind fun r2 =>
      asI .i64 r2.v fun i4 =>
      rounds [0, 1, 5, 6, 7] [5] (evC gl R N law07FoldWords_c4) (Kblock 0 (Kthen gl R N law07FoldWords_c5 (Kret law07FoldWords.rets))) N ⟨[(0, .imm (AV.int .i64 (IntKind.i64.wrap (2 + i3)))), (1, .imm (AV.int .i64 i4)), (5, .own 5 0 (([] : List AV).length) none), (6, .imm (AV.str ([] : List UInt8))), (7, .imm (AV.int .i64 0))], [(5, .row 1 [] false)]⟩) (by kernel_rfl) ?_
  simp (config := { maxSteps := 100000000 }) only [law07FoldWords_L1_eq]
  kernel_rfl
theorem law07FoldWords_fit : fitF Try.prog law07FoldWords Try.f6 = true := by
  kernel_rfl

def law07FoldChomps_L1s (R : Nat → List AV → Option Res) (N : Nat) (go : List AV → Bool → Int → Int → List AV → Option Res) (k0 : Bool → Int → List AV → Option Res) (l2 : List AV) (b2 : Bool) (i2 : Int) (i3 : Int) (l3 : List AV) : Option Res :=
  bif decide ((i3 : Int) < ((l2.length : Nat) : Int)) then
    (bif decide ((i3 : Int) < 8) then
      (need (decide (0 ≤ (i3 : Int))) <|
      (l2[Int.toNat i3]?).bind fun e1 =>
      asS e1 fun s1 =>
      (R id_keepText [AV.str s1, AV.int .i64 10]).bind fun r1 =>
      asS r1.v fun s2 =>
      need (decide (((l3.drop 0).take l3.length).length + [AV.str s2].length ≤ 1099511627776)) <|
      go l2 b2 i2 (IntKind.i64.wrap (i3 + 1)) (((l3.drop 0).take l3.length) ++ [AV.str s2]))
    else
      k0 b2 i2 l3)
  else
    k0 b2 i2 l3
def law07FoldChomps_L1 (R : Nat → List AV → Option Res) (N : Nat) (k0 : Bool → Int → List AV → Option Res) : Nat → List AV → Bool → Int → Int → List AV → Option Res
  | 0, _, _, _, _, _ => none
  | n + 1, l2, b2, i2, i3, l3 => law07FoldChomps_L1s R N (law07FoldChomps_L1 R N k0 n) k0 l2 b2 i2 i3 l3
def law07FoldChomps_c0 : AC := .seq (.seq (.region [.op (some 14) none (.mv (.t 8)), .op (some 15) none (.mv (.t 0)), .op (some 16) none (.len (.t 15) false), .op (some 17) none (.bin .lss (.t 14) (.t 16)), .op (some 18) none (.mv (.t 17)), .split 18, .op (some 19) (some (18, true)) (.mv (.t 8)), .op (some 20) (some (18, true)) (.bin .lss (.t 19) (.k (AV.int .i64 8))), .op (some 21) none (.pick (.t 18) (.t 20) (.k (AV.bool false)))]) (.cond (.t 21) (.skip) (.exit 0 [1, 2, 7] [7]))) (.seq (.block 1 (.region [.op (some 24) none (.mv (.t 7)), .op (some 25) none (.mv (.t 0)), .op (some 26) none (.mv (.t 8)), .op (some 27) none (.iaddr (.t 25) (.t 26) 1 (.str)), .op (some 28) none (.load (.t 27) none (.str)), .op (some 29) none (.call id_keepText [.t 28, .k (AV.int .i64 10)] (.str)), .op (some 30) none (.bslice [.t 29] 1 false), .op (some 31) none (.app 7 (.t 24) (.t 30) 1 .any false), .op (some 7) none (.mv (.t 31))])) (.region [.op (some 22) none (.mv (.t 8)), .op (some 23) none (.bin .add (.t 22) (.k (AV.int .i64 1))), .op (some 8) none (.mv (.t 23))]))
theorem law07FoldChomps_L1s_eq (R : Nat → List AV → Option Res) (N : Nat) (K : Ex → St → Option Res) (W : St → Option Res) (l2 : List AV) (b2 : Bool) (i2 : Int) (i3 : Int) (l3 : List AV) :
    evC gl R N law07FoldChomps_c0 (Kseq (fun st' => W (prune [0, 1, 2, 7, 8] [7] st')) K) ⟨[(0, .imm (AV.row 1 l2)), (1, .imm (AV.bool b2)), (2, .imm (AV.int .i64 i2)), (7, .own 7 0 l3.length none), (8, .imm (AV.int .i64 i3))], [(7, .row 1 l3 false)]⟩ =
    law07FoldChomps_L1s R N (fun (l2 : List AV) (b2 : Bool) (i2 : Int) (i3 : Int) (l3 : List AV) => W ⟨[(0, .imm (AV.row 1 l2)), (1, .imm (AV.bool b2)), (2, .imm (AV.int .i64 i2)), (7, .own 7 0 l3.length none), (8, .imm (AV.int .i64 i3))], [(7, .row 1 l3 false)]⟩) (fun (b3 : Bool) (i4 : Int) (l4 : List AV) => K (.exit 0) ⟨[(1, .imm (AV.bool b3)), (2, .imm (AV.int .i64 i4)), (7, .own 7 0 l4.length none)], [(7, .row 1 l4 false)]⟩) l2 b2 i2 i3 l3 := by
  kernel_rfl
theorem law07FoldChomps_L1_eq (R : Nat → List AV → Option Res) (N : Nat) (K : Ex → St → Option Res) : ∀ (n : Nat) (l2 : List AV) (b2 : Bool) (i2 : Int) (i3 : Int) (l3 : List AV),
    rounds [0, 1, 2, 7, 8] [7] (evC gl R N law07FoldChomps_c0) K n ⟨[(0, .imm (AV.row 1 l2)), (1, .imm (AV.bool b2)), (2, .imm (AV.int .i64 i2)), (7, .own 7 0 l3.length none), (8, .imm (AV.int .i64 i3))], [(7, .row 1 l3 false)]⟩ = law07FoldChomps_L1 R N (fun (b3 : Bool) (i4 : Int) (l4 : List AV) => K (.exit 0) ⟨[(1, .imm (AV.bool b3)), (2, .imm (AV.int .i64 i4)), (7, .own 7 0 l4.length none)], [(7, .row 1 l4 false)]⟩) n l2 b2 i2 i3 l3
  | 0, _, _, _, _, _ => rfl
  | n + 1, l2, b2, i2, i3, l3 => (law07FoldChomps_L1s_eq R N K (rounds [0, 1, 2, 7, 8] [7] (evC gl R N law07FoldChomps_c0) K n) l2 b2 i2 i3 l3).trans
      (congrArg (fun go => law07FoldChomps_L1s R N go (fun (b3 : Bool) (i4 : Int) (l4 : List AV) => K (.exit 0) ⟨[(1, .imm (AV.bool b3)), (2, .imm (AV.int .i64 i4)), (7, .own 7 0 l4.length none)], [(7, .row 1 l4 false)]⟩) l2 b2 i2 i3 l3) (funext fun l2 => funext fun b2 => funext fun i2 => funext fun i3 => funext fun l3 => law07FoldChomps_L1_eq R N K n l2 b2 i2 i3 l3))
def law07FoldChomps_L2s (R : Nat → List AV → Option Res) (N : Nat) (go : Bool → Int → Int → List AV → Option Res) (k0 : Bool → Int → List AV → Option Res) (b6 : Bool) (i8 : Int) (i9 : Int) (l7 : List AV) : Option Res :=
  bif decide ((i9 : Int) < i8) then
    (need (decide (((l7.drop 0).take l7.length).length + [AV.str ([] : List UInt8)].length ≤ 1099511627776)) <|
    go b6 i8 (IntKind.i64.wrap (i9 + 1)) (((l7.drop 0).take l7.length) ++ [AV.str ([] : List UInt8)]))
  else
    k0 b6 i8 l7
def law07FoldChomps_L2 (R : Nat → List AV → Option Res) (N : Nat) (k0 : Bool → Int → List AV → Option Res) : Nat → Bool → Int → Int → List AV → Option Res
  | 0, _, _, _, _ => none
  | n + 1, b6, i8, i9, l7 => law07FoldChomps_L2s R N (law07FoldChomps_L2 R N k0 n) k0 b6 i8 i9 l7
def law07FoldChomps_c1 : AC := .seq (.seq (.region [.op (some 37) none (.mv (.t 10)), .op (some 38) none (.mv (.t 9)), .op (some 39) none (.bin .lss (.t 37) (.t 38))]) (.cond (.t 39) (.skip) (.exit 2 [1, 7, 9] [7]))) (.seq (.block 3 (.region [.op (some 42) none (.mv (.t 7)), .op (some 43) none (.bslice [.k (AV.str ([] : List UInt8))] 1 false), .op (some 44) none (.app 7 (.t 42) (.t 43) 1 .any false), .op (some 7) none (.mv (.t 44))])) (.region [.op (some 40) none (.mv (.t 10)), .op (some 41) none (.bin .add (.t 40) (.k (AV.int .i64 1))), .op (some 10) none (.mv (.t 41))]))
theorem law07FoldChomps_L2s_eq (R : Nat → List AV → Option Res) (N : Nat) (K : Ex → St → Option Res) (W : St → Option Res) (b6 : Bool) (i8 : Int) (i9 : Int) (l7 : List AV) :
    evC gl R N law07FoldChomps_c1 (Kseq (fun st' => W (prune [1, 7, 9, 10] [7] st')) K) ⟨[(1, .imm (AV.bool b6)), (7, .own 7 0 l7.length none), (9, .imm (AV.int .i64 i8)), (10, .imm (AV.int .i64 i9))], [(7, .row 1 l7 false)]⟩ =
    law07FoldChomps_L2s R N (fun (b6 : Bool) (i8 : Int) (i9 : Int) (l7 : List AV) => W ⟨[(1, .imm (AV.bool b6)), (7, .own 7 0 l7.length none), (9, .imm (AV.int .i64 i8)), (10, .imm (AV.int .i64 i9))], [(7, .row 1 l7 false)]⟩) (fun (b7 : Bool) (i10 : Int) (l8 : List AV) => K (.exit 2) ⟨[(1, .imm (AV.bool b7)), (7, .own 7 0 l8.length none), (9, .imm (AV.int .i64 i10))], [(7, .row 1 l8 false)]⟩) b6 i8 i9 l7 := by
  kernel_rfl
theorem law07FoldChomps_L2_eq (R : Nat → List AV → Option Res) (N : Nat) (K : Ex → St → Option Res) : ∀ (n : Nat) (b6 : Bool) (i8 : Int) (i9 : Int) (l7 : List AV),
    rounds [1, 7, 9, 10] [7] (evC gl R N law07FoldChomps_c1) K n ⟨[(1, .imm (AV.bool b6)), (7, .own 7 0 l7.length none), (9, .imm (AV.int .i64 i8)), (10, .imm (AV.int .i64 i9))], [(7, .row 1 l7 false)]⟩ = law07FoldChomps_L2 R N (fun (b7 : Bool) (i10 : Int) (l8 : List AV) => K (.exit 2) ⟨[(1, .imm (AV.bool b7)), (7, .own 7 0 l8.length none), (9, .imm (AV.int .i64 i10))], [(7, .row 1 l8 false)]⟩) n b6 i8 i9 l7
  | 0, _, _, _, _ => rfl
  | n + 1, b6, i8, i9, l7 => (law07FoldChomps_L2s_eq R N K (rounds [1, 7, 9, 10] [7] (evC gl R N law07FoldChomps_c1) K n) b6 i8 i9 l7).trans
      (congrArg (fun go => law07FoldChomps_L2s R N go (fun (b7 : Bool) (i10 : Int) (l8 : List AV) => K (.exit 2) ⟨[(1, .imm (AV.bool b7)), (7, .own 7 0 l8.length none), (9, .imm (AV.int .i64 i10))], [(7, .row 1 l8 false)]⟩) b6 i8 i9 l7) (funext fun b6 => funext fun i8 => funext fun i9 => funext fun l7 => law07FoldChomps_L2_eq R N K n b6 i8 i9 l7))
def law07FoldChomps_c2 : AC := .seq (.region [.op (some 45) none (.mv (.t 1)), .op (some 46) none (.build [AV.bool false, AV.bool false, AV.bool false, AV.int .i64 0] [(0, 1, .t 45), (1, 1, .k (AV.bool true))]), .op (some 47) none (.mv (.t 7)), .op (some 48) none (.call id_foldValue [.t 46, .t 47] (.str)), .op (some 11) none (.mv (.t 48))]) (.seq (.region [.op (some 49) none (.mv (.t 1)), .op (some 50) none (.build [AV.bool false, AV.bool false, AV.bool false, AV.int .i64 0] [(0, 1, .t 49)]), .op (some 51) none (.mv (.t 7)), .op (some 52) none (.call id_foldValue [.t 50, .t 51] (.str)), .op (some 12) none (.mv (.t 52))]) (.seq (.region [.op (some 53) none (.mv (.t 1)), .op (some 54) none (.build [AV.bool false, AV.bool false, AV.bool false, AV.int .i64 0] [(0, 1, .t 53), (2, 1, .k (AV.bool true))]), .op (some 55) none (.mv (.t 7)), .op (some 56) none (.call id_foldValue [.t 54, .t 55] (.str)), .op (some 13) none (.mv (.t 56))]) (.seq (.region [.op (some 57) none (.mv (.t 12)), .op (some 58) none (.mv (.t 11)), .op (some 59) none (.bin .add (.t 58) (.k (AV.str ([10] : List UInt8)))), .op (some 60) none (.bin .eql (.t 57) (.t 59)), .op (some 61) none (.mv (.t 60)), .split 61, .op (some 62) (some (61, true)) (.mv (.t 13)), .op (some 63) (some (61, true)) (.mv (.t 12)), .op (some 64) (some (61, true)) (.mv (.t 9)), .op (some 65) (some (61, true)) (.sliceS (.k (AV.str ([10, 10, 10] : List UInt8))) none (some (.t 64))), .op (some 66) (some (61, true)) (.bin .add (.t 63) (.t 65)), .op (some 67) (some (61, true)) (.bin .eql (.t 62) (.t 66)), .op (some 68) none (.pick (.t 61) (.t 67) (.k (AV.bool false))), .op (some 69) none (.mv (.t 68)), .split 69, .op (some 70) (some (69, true)) (.mv (.t 11)), .op (some 71) (some (69, true)) (.len (.t 70) true), .op (some 72) (some (69, true)) (.bin .gtr (.t 71) (.k (AV.int .i64 0))), .op (some 73) none (.pick (.t 69) (.t 72) (.k (AV.bool false))), .op (some 74) none (.mv (.t 73)), .split 74, .op (some 75) (some (74, true)) (.mv (.t 11)), .op (some 76) (some (74, true)) (.mv (.t 11)), .op (some 77) (some (74, true)) (.len (.t 76) true), .op (some 78) (some (74, true)) (.bin .sub (.t 77) (.k (AV.int .i64 1))), .op (some 79) (some (74, true)) (.index (.t 75) (.t 78)), .op (some 80) (some (74, true)) (.bin .eql (.t 79) (.k (AV.int .u8 120))), .op (some 81) none (.pick (.t 74) (.t 80) (.k (AV.bool false))), .op (some 82) none (.mv (.t 81)), .split 82, .op (some 83) (some (82, true)) (.call id_law07Wakes [] (.bool)), .op (some 84) none (.pick (.t 82) (.t 83) (.k (AV.bool false))), .op (some 6) none (.mv (.t 84))]) (.ret [6] []))))
def law07FoldChomps_c3 : AC := .seq (.region [.op (some 32) none (.mv (.t 7)), .op (some 33) none (.bslice [.k (AV.str ([120] : List UInt8))] 1 false), .op (some 34) none (.app 7 (.t 32) (.t 33) 1 .any false), .op (some 7) none (.mv (.t 34))]) (.seq (.region [.op (some 35) none (.mv (.t 2)), .op (some 36) none (.call id_keepWithin [.t 35, .k (AV.int .i64 4)] (.int .i64)), .op (some 9) none (.mv (.t 36))]) (.seq (.seq (.region [.op (some 10) none (.mv (.k (AV.int .i64 0)))]) (.block 2 (.loop [1, 7, 9, 10] [7] (law07FoldChomps_c1)))) (law07FoldChomps_c2)))
def law07FoldChomps_c4 : AC := .seq (.region [.op (some 6) none (.mv (.k (AV.bool false)))]) (.seq (.region [.op (some 7) none (.nilOwn 7 (some (1, .any)))]) (.seq (.seq (.region [.op (some 8) none (.mv (.k (AV.int .i64 0)))]) (.block 0 (.loop [0, 1, 2, 7, 8] [7] (law07FoldChomps_c0)))) (law07FoldChomps_c3)))
def law07FoldChomps : AFunc := ⟨3, 85, [.tmp 6], law07FoldChomps_c4⟩
def law07FoldChompsr (R : Nat → List AV → Option Res) (N : Nat) (l1 : List AV) (b1 : Bool) (i1 : Int) : Option Res :=
  law07FoldChomps_L1 R N
    (fun b5 i6 l6 =>
      need (decide (((l6.drop 0).take l6.length).length + [AV.str ([120] : List UInt8)].length ≤ 1099511627776)) <|
      (R id_keepWithin [AV.int .i64 i6, AV.int .i64 4]).bind fun r2 =>
      asI .i64 r2.v fun i7 =>
      law07FoldChomps_L2 R N
        (fun b9 i12 l10 =>
          (R id_foldValue [AV.agg [AV.bool b9, AV.bool true, AV.bool false, AV.int .i64 0], AV.row 1 ((l10.drop 0).take l10.length)]).bind fun r3 =>
          asS r3.v fun s3 =>
          (R id_foldValue [AV.agg [AV.bool b9, AV.bool false, AV.bool false, AV.int .i64 0], AV.row 1 ((l10.drop 0).take l10.length)]).bind fun r4 =>
          asS r4.v fun s4 =>
          (R id_foldValue [AV.agg [AV.bool b9, AV.bool false, AV.bool true, AV.int .i64 0], AV.row 1 ((l10.drop 0).take l10.length)]).bind fun r5 =>
          asS r5.v fun s5 =>
          need (decide (s3.length + (([10] : List UInt8) : List UInt8).length ≤ 9223372036854775807)) <|
          bif s4 == (s3 ++ ([10] : List UInt8)) then
            (need (decide (0 ≤ (i12 : Int)) && decide ((i12 : Int) ≤ (((([10, 10, 10] : List UInt8) : List UInt8).length : Nat) : Int))) <|
            need (decide (s4.length + ((([10, 10, 10] : List UInt8).take (Int.toNat i12)).drop 0 : List UInt8).length ≤ 9223372036854775807)) <|
            bif s5 == (s4 ++ ((([10, 10, 10] : List UInt8).take (Int.toNat i12)).drop 0)) then
              (bif decide ((((s3.length : Nat) : Int) : Int) > 0) then
                (need (decide (0 ≤ (IntKind.i64.wrap (((s3.length : Nat) : Int) - 1) : Int))) <|
                (s3[Int.toNat (IntKind.i64.wrap (((s3.length : Nat) : Int) - 1))]?).bind fun c1 =>
                bif ((c1.toNat : Int) : Int) == 120 then
                  ((R id_law07Wakes []).bind fun r6 =>
                  asB r6.v fun b10 =>
                  some ⟨AV.bool b10, false, []⟩)
                else
                  some ⟨AV.bool false, false, []⟩)
              else
                some ⟨AV.bool false, false, []⟩)
            else
              some ⟨AV.bool false, false, []⟩)
          else
            some ⟨AV.bool false, false, []⟩)
        N b5 i7 0 (((l6.drop 0).take l6.length) ++ [AV.str ([120] : List UInt8)]))
    N l1 b1 i1 0 []
theorem law07FoldChomps_eq (R : Nat → List AV → Option Res) (N : Nat) (l1 : List AV) (b1 : Bool) (i1 : Int) : runF gl R N law07FoldChomps [AV.row 1 l1, AV.bool b1, AV.int .i64 i1] = law07FoldChompsr R N l1 b1 i1 := by
  refine Eq.trans (b :=
      rounds [0, 1, 2, 7, 8] [7] (evC gl R N law07FoldChomps_c0) (Kblock 0 (Kthen gl R N law07FoldChomps_c3 (Kret law07FoldChomps.rets))) N ⟨[(0, .imm (AV.row 1 l1)), (1, .imm (AV.bool b1)), (2, .imm (AV.int .i64 i1)), (7, .own 7 0 (([] : List AV).length) none), (8, .imm (AV.int .i64 0))], [(7, .row 1 [] false)]⟩) (by kernel_rfl) ?_
  simp (config := { maxSteps := 100000000 }) only [law07FoldChomps_L1_eq, law07FoldChomps_L2_eq]
  refine Eq.trans (b :=
      law07FoldChomps_L1 R N
        (fun b5 i6 l6 =>
          need (decide (((l6.drop 0).take l6.length).length + [AV.str ([120] : List UInt8)].length ≤ 1099511627776)) <|
          (R id_keepWithin [AV.int .i64 i6, AV.int .i64 4]).bind fun r2 =>
          asI .i64 r2.v fun i7 =>
          rounds [1, 7, 9, 10] [7] (evC gl R N law07FoldChomps_c1) (Kblock 2 (Kthen gl R N law07FoldChomps_c2 (Kret law07FoldChomps.rets))) N ⟨[(1, .imm (AV.bool b5)), (7, .own 7 0 ((((l6.drop 0).take l6.length) ++ [AV.str ([120] : List UInt8)]).length) none), (9, .imm (AV.int .i64 i7)), (10, .imm (AV.int .i64 0))], [(7, .row 1 (((l6.drop 0).take l6.length) ++ [AV.str ([120] : List UInt8)]) false)]⟩)
        N l1 b1 i1 0 []) (by kernel_rfl) ?_
  simp (config := { maxSteps := 100000000 }) only [law07FoldChomps_L1_eq, law07FoldChomps_L2_eq]
  kernel_rfl
theorem law07FoldChomps_fit : fitF Try.prog law07FoldChomps Try.f7 = true := by
  kernel_rfl

def charsDigit_c0 : AC := .seq (.region [.op (some 2) none (.mv (.k (AV.bool false)))]) (.seq (.region [.op (some 3) none (.mv (.t 0)), .op (some 4) none (.bin .geq (.t 3) (.k (AV.int .u8 48))), .op (some 5) none (.mv (.t 4)), .split 5, .op (some 6) (some (5, true)) (.mv (.t 0)), .op (some 7) (some (5, true)) (.bin .leq (.t 6) (.k (AV.int .u8 57))), .op (some 8) none (.pick (.t 5) (.t 7) (.k (AV.bool false))), .op (some 2) none (.mv (.t 8))]) (.ret [2] []))
def charsDigit : AFunc := ⟨1, 9, [.tmp 2], charsDigit_c0⟩
def charsDigitr (R : Nat → List AV → Option Res) (N : Nat) (i1 : Int) : Option Res :=
  bif decide ((i1 : Int) ≥ 48) then
    (some ⟨AV.bool (decide ((i1 : Int) ≤ 57)), false, []⟩)
  else
    some ⟨AV.bool false, false, []⟩
theorem charsDigit_eq (R : Nat → List AV → Option Res) (N : Nat) (i1 : Int) : runF gl R N charsDigit [AV.int .u8 i1] = charsDigitr R N i1 := by
  kernel_rfl
theorem charsDigit_fit : fitF Try.prog charsDigit Try.f25 = true := by
  kernel_rfl

def foldTakeHeader_L1s (R : Nat → List AV → Option Res) (N : Nat) (go : List UInt8 → Int → Bool → Bool → Bool → Int → Option Res) (k0 : Int → Bool → Bool → Bool → Bool → Int → Option Res) (k1 : Int → Bool → Bool → Bool → Int → Option Res) (s2 : List UInt8) (i1 : Int) (b1 : Bool) (b2 : Bool) (b3 : Bool) (i2 : Int) : Option Res :=
  bif decide ((i1 : Int) < ((s2.length : Nat) : Int)) then
    (need (decide (0 ≤ (i1 : Int))) <|
    (s2[Int.toNat i1]?).bind fun c4 =>
    bif ((c4.toNat : Int) : Int) == 45 then
      (bif !b2 then
        (bif !b3 then
          (go s2 (IntKind.i64.wrap (i1 + 1)) b1 true b3 i2)
        else
          bif ((c4.toNat : Int) : Int) == 43 then
            (bif !b2 then
              (bif !b3 then
                (go s2 (IntKind.i64.wrap (i1 + 1)) b1 b2 true i2)
              else
                (R id_charsDigit [AV.int .u8 (c4.toNat : Int)]).bind fun r1 =>
                asB r1.v fun b4 =>
                bif b4 then
                  (bif ((c4.toNat : Int) : Int) != 48 then
                    (bif (i2 : Int) == 0 then
                      (go s2 (IntKind.i64.wrap (i1 + 1)) b1 b2 b3 (IntKind.i64.wrap (IntKind.u8.wrap ((c4.toNat : Int) - 48))))
                    else
                      k0 i1 true b1 b2 b3 i2)
                  else
                    k0 i1 true b1 b2 b3 i2)
                else
                  k0 i1 true b1 b2 b3 i2)
            else
              (R id_charsDigit [AV.int .u8 (c4.toNat : Int)]).bind fun r2 =>
              asB r2.v fun b5 =>
              bif b5 then
                (bif ((c4.toNat : Int) : Int) != 48 then
                  (bif (i2 : Int) == 0 then
                    (go s2 (IntKind.i64.wrap (i1 + 1)) b1 b2 b3 (IntKind.i64.wrap (IntKind.u8.wrap ((c4.toNat : Int) - 48))))
                  else
                    k0 i1 true b1 b2 b3 i2)
                else
                  k0 i1 true b1 b2 b3 i2)
              else
                k0 i1 true b1 b2 b3 i2)
          else
            (R id_charsDigit [AV.int .u8 (c4.toNat : Int)]).bind fun r3 =>
            asB r3.v fun b6 =>
            bif b6 then
              (bif ((c4.toNat : Int) : Int) != 48 then
                (bif (i2 : Int) == 0 then
                  (go s2 (IntKind.i64.wrap (i1 + 1)) b1 b2 b3 (IntKind.i64.wrap (IntKind.u8.wrap ((c4.toNat : Int) - 48))))
                else
                  k0 i1 true b1 b2 b3 i2)
              else
                k0 i1 true b1 b2 b3 i2)
            else
              k0 i1 true b1 b2 b3 i2)
      else
        bif ((c4.toNat : Int) : Int) == 43 then
          (bif !b2 then
            (bif !b3 then
              (go s2 (IntKind.i64.wrap (i1 + 1)) b1 b2 true i2)
            else
              (R id_charsDigit [AV.int .u8 (c4.toNat : Int)]).bind fun r4 =>
              asB r4.v fun b7 =>
              bif b7 then
                (bif ((c4.toNat : Int) : Int) != 48 then
                  (bif (i2 : Int) == 0 then
                    (go s2 (IntKind.i64.wrap (i1 + 1)) b1 b2 b3 (IntKind.i64.wrap (IntKind.u8.wrap ((c4.toNat : Int) - 48))))
                  else
                    k0 i1 true b1 b2 b3 i2)
                else
                  k0 i1 true b1 b2 b3 i2)
              else
                k0 i1 true b1 b2 b3 i2)
          else
            (R id_charsDigit [AV.int .u8 (c4.toNat : Int)]).bind fun r5 =>
            asB r5.v fun b8 =>
            bif b8 then
              (bif ((c4.toNat : Int) : Int) != 48 then
                (bif (i2 : Int) == 0 then
                  (go s2 (IntKind.i64.wrap (i1 + 1)) b1 b2 b3 (IntKind.i64.wrap (IntKind.u8.wrap ((c4.toNat : Int) - 48))))
                else
                  k0 i1 true b1 b2 b3 i2)
              else
                k0 i1 true b1 b2 b3 i2)
            else
              k0 i1 true b1 b2 b3 i2)
        else
          (R id_charsDigit [AV.int .u8 (c4.toNat : Int)]).bind fun r6 =>
          asB r6.v fun b9 =>
          bif b9 then
            (bif ((c4.toNat : Int) : Int) != 48 then
              (bif (i2 : Int) == 0 then
                (go s2 (IntKind.i64.wrap (i1 + 1)) b1 b2 b3 (IntKind.i64.wrap (IntKind.u8.wrap ((c4.toNat : Int) - 48))))
              else
                k0 i1 true b1 b2 b3 i2)
            else
              k0 i1 true b1 b2 b3 i2)
          else
            k0 i1 true b1 b2 b3 i2)
    else
      bif ((c4.toNat : Int) : Int) == 43 then
        (bif !b2 then
          (bif !b3 then
            (go s2 (IntKind.i64.wrap (i1 + 1)) b1 b2 true i2)
          else
            (R id_charsDigit [AV.int .u8 (c4.toNat : Int)]).bind fun r7 =>
            asB r7.v fun b10 =>
            bif b10 then
              (bif ((c4.toNat : Int) : Int) != 48 then
                (bif (i2 : Int) == 0 then
                  (go s2 (IntKind.i64.wrap (i1 + 1)) b1 b2 b3 (IntKind.i64.wrap (IntKind.u8.wrap ((c4.toNat : Int) - 48))))
                else
                  k0 i1 true b1 b2 b3 i2)
              else
                k0 i1 true b1 b2 b3 i2)
            else
              k0 i1 true b1 b2 b3 i2)
        else
          (R id_charsDigit [AV.int .u8 (c4.toNat : Int)]).bind fun r8 =>
          asB r8.v fun b11 =>
          bif b11 then
            (bif ((c4.toNat : Int) : Int) != 48 then
              (bif (i2 : Int) == 0 then
                (go s2 (IntKind.i64.wrap (i1 + 1)) b1 b2 b3 (IntKind.i64.wrap (IntKind.u8.wrap ((c4.toNat : Int) - 48))))
              else
                k0 i1 true b1 b2 b3 i2)
            else
              k0 i1 true b1 b2 b3 i2)
          else
            k0 i1 true b1 b2 b3 i2)
      else
        (R id_charsDigit [AV.int .u8 (c4.toNat : Int)]).bind fun r9 =>
        asB r9.v fun b12 =>
        bif b12 then
          (bif ((c4.toNat : Int) : Int) != 48 then
            (bif (i2 : Int) == 0 then
              (go s2 (IntKind.i64.wrap (i1 + 1)) b1 b2 b3 (IntKind.i64.wrap (IntKind.u8.wrap ((c4.toNat : Int) - 48))))
            else
              k0 i1 true b1 b2 b3 i2)
          else
            k0 i1 true b1 b2 b3 i2)
        else
          k0 i1 true b1 b2 b3 i2)
  else
    k1 i1 b1 b2 b3 i2
def foldTakeHeader_L1 (R : Nat → List AV → Option Res) (N : Nat) (k0 : Int → Bool → Bool → Bool → Bool → Int → Option Res) (k1 : Int → Bool → Bool → Bool → Int → Option Res) : Nat → List UInt8 → Int → Bool → Bool → Bool → Int → Option Res
  | 0, _, _, _, _, _, _ => none
  | n + 1, s2, i1, b1, b2, b3, i2 => foldTakeHeader_L1s R N (foldTakeHeader_L1 R N k0 k1 n) k0 k1 s2 i1 b1 b2 b3 i2
def foldTakeHeader_c0 : AC := .seq (.seq (.region [.op (some 27) none (.mv (.t 3)), .op (some 28) none (.mv (.t 0)), .op (some 29) none (.len (.t 28) false), .op (some 30) none (.bin .lss (.t 27) (.t 29))]) (.cond (.t 30) (.skip) (.exit 0 [2, 3] [1002]))) (.seq (.block 1 (.seq (.region [.op (some 33) none (.mv (.t 0)), .op (some 34) none (.mv (.t 3)), .op (some 35) none (.iaddr (.t 33) (.t 34) 1 (.int .u8)), .op (some 36) none (.load (.t 35) none (.int .u8)), .op (some 5) none (.mv (.t 36))]) (.block 2 (.seq (.region [.op (some 40) none (.mv (.t 5)), .op (some 41) none (.bin .eql (.t 40) (.k (AV.int .u8 45))), .op (some 42) none (.mv (.t 41)), .split 42, .op (some 43) (some (42, true)) (.faddr (.t 2) 1), .op (some 44) (some (42, true)) (.load (.t 43) none (.bool)), .op (some 45) (some (42, true)) (.un .not (.t 44)), .op (some 46) none (.pick (.t 42) (.t 45) (.k (AV.bool false))), .op (some 47) none (.mv (.t 46)), .split 47, .op (some 48) (some (47, true)) (.faddr (.t 2) 2), .op (some 49) (some (47, true)) (.load (.t 48) none (.bool)), .op (some 50) (some (47, true)) (.un .not (.t 49)), .op (some 51) none (.pick (.t 47) (.t 50) (.k (AV.bool false))), .op (some 39) none (.mv (.t 51))]) (.cond (.t 39) (.region [.op (some 52) none (.faddr (.t 2) 1), .op none none (.store (.t 52) (.k (AV.bool true)) 1)]) (.seq (.region [.op (some 54) none (.mv (.t 5)), .op (some 55) none (.bin .eql (.t 54) (.k (AV.int .u8 43))), .op (some 56) none (.mv (.t 55)), .split 56, .op (some 57) (some (56, true)) (.faddr (.t 2) 1), .op (some 58) (some (56, true)) (.load (.t 57) none (.bool)), .op (some 59) (some (56, true)) (.un .not (.t 58)), .op (some 60) none (.pick (.t 56) (.t 59) (.k (AV.bool false))), .op (some 61) none (.mv (.t 60)), .split 61, .op (some 62) (some (61, true)) (.faddr (.t 2) 2), .op (some 63) (some (61, true)) (.load (.t 62) none (.bool)), .op (some 64) (some (61, true)) (.un .not (.t 63)), .op (some 65) none (.pick (.t 61) (.t 64) (.k (AV.bool false))), .op (some 53) none (.mv (.t 65))]) (.cond (.t 53) (.region [.op (some 66) none (.faddr (.t 2) 2), .op none none (.store (.t 66) (.k (AV.bool true)) 1)]) (.seq (.region [.op (some 68) none (.mv (.t 5)), .op (some 69) none (.call id_charsDigit [.t 68] (.bool)), .op (some 70) none (.mv (.t 69)), .split 70, .op (some 71) (some (70, true)) (.mv (.t 5)), .op (some 72) (some (70, true)) (.bin .neq (.t 71) (.k (AV.int .u8 48))), .op (some 73) none (.pick (.t 70) (.t 72) (.k (AV.bool false))), .op (some 74) none (.mv (.t 73)), .split 74, .op (some 75) (some (74, true)) (.faddr (.t 2) 3), .op (some 76) (some (74, true)) (.load (.t 75) none (.int .i64)), .op (some 77) (some (74, true)) (.bin .eql (.t 76) (.k (AV.int .i64 0))), .op (some 78) none (.pick (.t 74) (.t 77) (.k (AV.bool false))), .op (some 67) none (.mv (.t 78))]) (.cond (.t 67) (.region [.op (some 79) none (.mv (.t 5)), .op (some 80) none (.bin .sub (.t 79) (.k (AV.int .u8 48))), .op (some 81) none (.cvInt .i64 (.t 80)), .op (some 82) none (.faddr (.t 2) 3), .op none none (.store (.t 82) (.t 81) 1)]) (.seq (.region [.op (some 37) none (.load (.t 2) (some 4) (.agg [.bool, .bool, .bool, .int .i64])), .op (some 38) none (.mv (.t 3)), .op none none (.store (.t 2) (.t 37) 4), .op (some 3) none (.mv (.t 38)), .op (some 4) none (.mv (.k (AV.bool true)))]) (.ret [2, 3, 4] [1002]))))))))))) (.region [.op (some 31) none (.mv (.t 3)), .op (some 32) none (.bin .add (.t 31) (.k (AV.int .i64 1))), .op (some 3) none (.mv (.t 32))]))
theorem foldTakeHeader_L1s_eq (R : Nat → List AV → Option Res) (N : Nat) (K : Ex → St → Option Res) (W : St → Option Res) (s2 : List UInt8) (i1 : Int) (b1 : Bool) (b2 : Bool) (b3 : Bool) (i2 : Int) :
    evC gl R N foldTakeHeader_c0 (Kseq (fun st' => W (prune [0, 2, 3] [1002] st')) K) ⟨[(0, .imm (AV.bytes s2)), (2, .ptr 1002 0 0), (3, .imm (AV.int .i64 i1))], [(1002, .box [.imm (AV.bool b1), .imm (AV.bool b2), .imm (AV.bool b3), .imm (AV.int .i64 i2)])]⟩ =
    foldTakeHeader_L1s R N (fun (s2 : List UInt8) (i1 : Int) (b1 : Bool) (b2 : Bool) (b3 : Bool) (i2 : Int) => W ⟨[(0, .imm (AV.bytes s2)), (2, .ptr 1002 0 0), (3, .imm (AV.int .i64 i1))], [(1002, .box [.imm (AV.bool b1), .imm (AV.bool b2), .imm (AV.bool b3), .imm (AV.int .i64 i2)])]⟩) (fun (i3 : Int) (b13 : Bool) (b14 : Bool) (b15 : Bool) (b16 : Bool) (i4 : Int) => K .ret ⟨[(2, .ptr 1002 0 0), (3, .imm (AV.int .i64 i3)), (4, .imm (AV.bool b13))], [(1002, .box [.imm (AV.bool b14), .imm (AV.bool b15), .imm (AV.bool b16), .imm (AV.int .i64 i4)])]⟩) (fun (i5 : Int) (b17 : Bool) (b18 : Bool) (b19 : Bool) (i6 : Int) => K (.exit 0) ⟨[(2, .ptr 1002 0 0), (3, .imm (AV.int .i64 i5))], [(1002, .box [.imm (AV.bool b17), .imm (AV.bool b18), .imm (AV.bool b19), .imm (AV.int .i64 i6)])]⟩) s2 i1 b1 b2 b3 i2 := by
  kernel_rfl
theorem foldTakeHeader_L1_eq (R : Nat → List AV → Option Res) (N : Nat) (K : Ex → St → Option Res) : ∀ (n : Nat) (s2 : List UInt8) (i1 : Int) (b1 : Bool) (b2 : Bool) (b3 : Bool) (i2 : Int),
    rounds [0, 2, 3] [1002] (evC gl R N foldTakeHeader_c0) K n ⟨[(0, .imm (AV.bytes s2)), (2, .ptr 1002 0 0), (3, .imm (AV.int .i64 i1))], [(1002, .box [.imm (AV.bool b1), .imm (AV.bool b2), .imm (AV.bool b3), .imm (AV.int .i64 i2)])]⟩ = foldTakeHeader_L1 R N (fun (i3 : Int) (b13 : Bool) (b14 : Bool) (b15 : Bool) (b16 : Bool) (i4 : Int) => K .ret ⟨[(2, .ptr 1002 0 0), (3, .imm (AV.int .i64 i3)), (4, .imm (AV.bool b13))], [(1002, .box [.imm (AV.bool b14), .imm (AV.bool b15), .imm (AV.bool b16), .imm (AV.int .i64 i4)])]⟩) (fun (i5 : Int) (b17 : Bool) (b18 : Bool) (b19 : Bool) (i6 : Int) => K (.exit 0) ⟨[(2, .ptr 1002 0 0), (3, .imm (AV.int .i64 i5))], [(1002, .box [.imm (AV.bool b17), .imm (AV.bool b18), .imm (AV.bool b19), .imm (AV.int .i64 i6)])]⟩) n s2 i1 b1 b2 b3 i2
  | 0, _, _, _, _, _, _ => rfl
  | n + 1, s2, i1, b1, b2, b3, i2 => (foldTakeHeader_L1s_eq R N K (rounds [0, 2, 3] [1002] (evC gl R N foldTakeHeader_c0) K n) s2 i1 b1 b2 b3 i2).trans
      (congrArg (fun go => foldTakeHeader_L1s R N go (fun (i3 : Int) (b13 : Bool) (b14 : Bool) (b15 : Bool) (b16 : Bool) (i4 : Int) => K .ret ⟨[(2, .ptr 1002 0 0), (3, .imm (AV.int .i64 i3)), (4, .imm (AV.bool b13))], [(1002, .box [.imm (AV.bool b14), .imm (AV.bool b15), .imm (AV.bool b16), .imm (AV.int .i64 i4)])]⟩) (fun (i5 : Int) (b17 : Bool) (b18 : Bool) (b19 : Bool) (i6 : Int) => K (.exit 0) ⟨[(2, .ptr 1002 0 0), (3, .imm (AV.int .i64 i5))], [(1002, .box [.imm (AV.bool b17), .imm (AV.bool b18), .imm (AV.bool b19), .imm (AV.int .i64 i6)])]⟩) s2 i1 b1 b2 b3 i2) (funext fun s2 => funext fun i1 => funext fun b1 => funext fun b2 => funext fun b3 => funext fun i2 => foldTakeHeader_L1_eq R N K n s2 i1 b1 b2 b3 i2))
def foldTakeHeader_c1 : AC := .seq (.region [.op (some 83) none (.load (.t 2) (some 4) (.agg [.bool, .bool, .bool, .int .i64])), .op (some 84) none (.mv (.t 3)), .op none none (.store (.t 2) (.t 83) 4), .op (some 3) none (.mv (.t 84)), .op (some 4) none (.mv (.k (AV.bool true)))]) (.ret [2, 3, 4] [1002])
def foldTakeHeader_c2 : AC := .seq (.region [.op (some 2) none (.alloc 1002 [AV.bool false, AV.bool false, AV.bool false, AV.int .i64 0]), .op (some 3) none (.mv (.k (AV.int .i64 0))), .op (some 4) none (.mv (.k (AV.bool false)))]) (.seq (.seq (.region [.op (some 6) none (.mv (.t 0)), .op (some 7) none (.len (.t 6) false), .op (some 8) none (.bin .eql (.t 7) (.k (AV.int .i64 0))), .op (some 9) none (.mv (.t 8)), .split 9, .op (some 10) (some (9, false)) (.mv (.t 0)), .op (some 11) (some (9, false)) (.iaddr (.t 10) (.k (AV.int .i64 0)) 1 (.int .u8)), .op (some 12) (some (9, false)) (.load (.t 11) none (.int .u8)), .op (some 13) (some (9, false)) (.bin .neq (.t 12) (.k (AV.int .u8 124))), .op (some 14) (some (9, false)) (.mv (.t 13)), .split 14, .op (some 15) (some (14, true)) (.mv (.t 0)), .op (some 16) (some (14, true)) (.iaddr (.t 15) (.k (AV.int .i64 0)) 1 (.int .u8)), .op (some 17) (some (14, true)) (.load (.t 16) none (.int .u8)), .op (some 18) (some (14, true)) (.bin .neq (.t 17) (.k (AV.int .u8 62))), .op (some 19) (some (9, false)) (.pick (.t 14) (.t 18) (.k (AV.bool false))), .op (some 20) none (.pick (.t 9) (.k (AV.bool true)) (.t 19))]) (.cond (.t 20) (.seq (.region [.op (some 21) none (.build [AV.bool false, AV.bool false, AV.bool false, AV.int .i64 0] []), .op none none (.store (.t 2) (.t 21) 4), .op (some 3) none (.mv (.k (AV.int .i64 0))), .op (some 4) none (.mv (.k (AV.bool false)))]) (.ret [2, 3, 4] [1002])) (.skip))) (.seq (.region [.op (some 22) none (.mv (.t 0)), .op (some 23) none (.iaddr (.t 22) (.k (AV.int .i64 0)) 1 (.int .u8)), .op (some 24) none (.load (.t 23) none (.int .u8)), .op (some 25) none (.bin .eql (.t 24) (.k (AV.int .u8 62))), .op (some 26) none (.faddr (.t 2) 0), .op none none (.store (.t 26) (.t 25) 1)]) (.seq (.seq (.region [.op (some 3) none (.mv (.k (AV.int .i64 1)))]) (.block 0 (.loop [0, 2, 3] [1002] (foldTakeHeader_c0)))) (foldTakeHeader_c1))))
def foldTakeHeader : AFunc := ⟨1, 85, [.cell 2 4, .tmp 3, .tmp 4], foldTakeHeader_c2⟩
def foldTakeHeaderr (R : Nat → List AV → Option Res) (N : Nat) (s1 : List UInt8) : Option Res :=
  bif (((s1.length : Nat) : Int) : Int) == 0 then
    (some ⟨AV.tup [AV.agg [AV.bool false, AV.bool false, AV.bool false, AV.int .i64 0], AV.int .i64 0, AV.bool false], false, []⟩)
  else
    need (decide (0 ≤ (0 : Int))) <|
    (s1[Int.toNat 0]?).bind fun c1 =>
    bif ((c1.toNat : Int) : Int) != 124 then
      (need (decide (0 ≤ (0 : Int))) <|
      (s1[Int.toNat 0]?).bind fun c2 =>
      bif ((c2.toNat : Int) : Int) != 62 then
        (some ⟨AV.tup [AV.agg [AV.bool false, AV.bool false, AV.bool false, AV.int .i64 0], AV.int .i64 0, AV.bool false], false, []⟩)
      else
        need (decide (0 ≤ (0 : Int))) <|
        (s1[Int.toNat 0]?).bind fun c3 =>
        foldTakeHeader_L1 R N
          (fun i11 b27 b28 b29 b30 i12 =>
            some ⟨AV.tup [AV.agg [AV.bool b28, AV.bool b29, AV.bool b30, AV.int .i64 i12], AV.int .i64 i11, AV.bool b27], false, []⟩)
          (fun i13 b31 b32 b33 i14 =>
            some ⟨AV.tup [AV.agg [AV.bool b31, AV.bool b32, AV.bool b33, AV.int .i64 i14], AV.int .i64 i13, AV.bool true], false, []⟩)
          N s1 1 (((c3.toNat : Int) : Int) == 62) false false 0)
    else
      need (decide (0 ≤ (0 : Int))) <|
      (s1[Int.toNat 0]?).bind fun c5 =>
      foldTakeHeader_L1 R N
        (fun i15 b34 b35 b36 b37 i16 =>
          some ⟨AV.tup [AV.agg [AV.bool b35, AV.bool b36, AV.bool b37, AV.int .i64 i16], AV.int .i64 i15, AV.bool b34], false, []⟩)
        (fun i17 b38 b39 b40 i18 =>
          some ⟨AV.tup [AV.agg [AV.bool b38, AV.bool b39, AV.bool b40, AV.int .i64 i18], AV.int .i64 i17, AV.bool true], false, []⟩)
        N s1 1 (((c5.toNat : Int) : Int) == 62) false false 0
theorem foldTakeHeader_eq (R : Nat → List AV → Option Res) (N : Nat) (s1 : List UInt8) : runF gl R N foldTakeHeader [AV.bytes s1] = foldTakeHeaderr R N s1 := by
  refine Eq.trans (b :=
      bif (((s1.length : Nat) : Int) : Int) == 0 then
        (some ⟨AV.tup [AV.agg [AV.bool false, AV.bool false, AV.bool false, AV.int .i64 0], AV.int .i64 0, AV.bool false], false, []⟩)
      else
        need (decide (0 ≤ (0 : Int))) <|
        (s1[Int.toNat 0]?).bind fun c1 =>
        bif ((c1.toNat : Int) : Int) != 124 then
          (need (decide (0 ≤ (0 : Int))) <|
          (s1[Int.toNat 0]?).bind fun c2 =>
          bif ((c2.toNat : Int) : Int) != 62 then
            (some ⟨AV.tup [AV.agg [AV.bool false, AV.bool false, AV.bool false, AV.int .i64 0], AV.int .i64 0, AV.bool false], false, []⟩)
          else
            need (decide (0 ≤ (0 : Int))) <|
            (s1[Int.toNat 0]?).bind fun c3 =>
            rounds [0, 2, 3] [1002] (evC gl R N foldTakeHeader_c0) (Kblock 0 (Kthen gl R N foldTakeHeader_c1 (Kret foldTakeHeader.rets))) N ⟨[(0, .imm (AV.bytes s1)), (2, .ptr 1002 0 0), (3, .imm (AV.int .i64 1))], [(1002, .box [.imm (AV.bool (((c3.toNat : Int) : Int) == 62)), .imm (AV.bool false), .imm (AV.bool false), .imm (AV.int .i64 0)])]⟩)
        else
          need (decide (0 ≤ (0 : Int))) <|
          (s1[Int.toNat 0]?).bind fun c5 =>
          rounds [0, 2, 3] [1002] (evC gl R N foldTakeHeader_c0) (Kblock 0 (Kthen gl R N foldTakeHeader_c1 (Kret foldTakeHeader.rets))) N ⟨[(0, .imm (AV.bytes s1)), (2, .ptr 1002 0 0), (3, .imm (AV.int .i64 1))], [(1002, .box [.imm (AV.bool (((c5.toNat : Int) : Int) == 62)), .imm (AV.bool false), .imm (AV.bool false), .imm (AV.int .i64 0)])]⟩) (by kernel_rfl) ?_
  simp (config := { maxSteps := 100000000 }) only [foldTakeHeader_L1_eq]
  kernel_rfl
theorem foldTakeHeader_fit : fitF Try.prog foldTakeHeader Try.f16 = true := by
  kernel_rfl
end Go.Proofs.Ytpjpmfchcijikaa.Vf
