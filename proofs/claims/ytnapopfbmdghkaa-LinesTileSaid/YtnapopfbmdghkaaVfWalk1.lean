/- The code of the functions that the statements reach, as our evaluator takes it, and what each of them comes to, readably: printed by a program of ours. No condition. -/
import Derived.Test.YtnapopfbmdghkaaVf2
import Derived.Test.YtnapopfbmdghkaaChecked
import Derived.Lib.DecodeN
namespace Go.Proofs.Ytnapopfbmdghkaa.Vf
set_option linter.unusedVariables false
set_option linter.unusedSimpArgs false
set_option maxRecDepth 100000

def gl : List (Nat × List AV) := []
def id_bytesEqual : Nat := 13
def id_bytesHasPrefix : Nat := 11
def id_bytesIndexByte : Nat := 12
def id_internalBytealgIndexByte : Nat := 14
def id_keepCopyByte : Nat := 10
def id_keepCutByte : Nat := 5
def id_keepWithin : Nat := 7
def id_law02LinesAt : Nat := 3
def id_law02LinesTile : Nat := 4
def id_law02Wakes : Nat := 9
def id_linesAt : Nat := 8
def id_linesSplit : Nat := 6
def asIIIA {α : Type} (v : AV) (K : Int → Int → Int → Option α) : Option α :=
  asA v fun l1 => asC l1 fun x2 r2 => asI .i64 x2 fun a0 => asC r2 fun x3 r3 => asI .i64 x3 fun a1 => asC r3 fun x4 r4 => asI .i64 x4 fun a2 => asN r4 <| K a0 a1 a2
def asIIT {α : Type} (v : AV) (K : Int → Int → Option α) : Option α :=
  asT v fun l1 => asC l1 fun x2 r2 => asI .i64 x2 fun a0 => asC r2 fun x3 r3 => asI .i64 x3 fun a1 => asN r3 <| K a0 a1

def keepCopyByte_c0 : AC := .seq (.region [.op (some 2) none (.nilOwn 4 none)]) (.seq (.region [.op (some 3) none (.mv (.t 0)), .op (some 4) none (.appNil 4 (.t 3) 1 true), .op (some 2) none (.mv (.t 4))]) (.ret [2] [4]))
def keepCopyByte : AFunc := ⟨1, 5, [.tmp 2], keepCopyByte_c0⟩
def keepCopyByter (R : Nat → List AV → Option Res) (N : Nat) (s1 : List UInt8) : Option Res :=
  need (decide (s1.length ≤ 1099511627776)) <|
  some ⟨AV.bytes ((s1.drop 0).take s1.length), true, []⟩
theorem keepCopyByte_eq (R : Nat → List AV → Option Res) (N : Nat) (s1 : List UInt8) : runF gl R N keepCopyByte [AV.bytes s1] = keepCopyByter R N s1 := by
  kernel_rfl
theorem keepCopyByte_fit : fitF Try.prog keepCopyByte Try.f10 = true := by
  kernel_rfl

def keepCutByte_c0 : AC := .seq (.region [.op (some 4) none (.mv (.k (AV.bytes [])))]) (.seq (.region [.op (some 5) none (.mv (.t 0)), .op (some 6) none (.mv (.t 0)), .op (some 7) none (.len (.t 6) false), .op (some 8) none (.mv (.t 1)), .op (some 9) none (.mn [.t 7, .t 8]), .op (some 10) none (.slice (.t 5) none (some (.t 9)) 1), .op (some 11) none (.call id_keepCopyByte [.t 10] (.bytes)), .op (some 4) none (.mv (.t 11))]) (.ret [4] []))
def keepCutByte : AFunc := ⟨2, 12, [.tmp 4], keepCutByte_c0⟩
def keepCutByter (R : Nat → List AV → Option Res) (N : Nat) (s1 : List UInt8) (i1 : Int) : Option Res :=
  need (decide (0 ≤ (if i1 < ((s1.length : Nat) : Int) then i1 else ((s1.length : Nat) : Int) : Int)) && decide ((if i1 < ((s1.length : Nat) : Int) then i1 else ((s1.length : Nat) : Int) : Int) ≤ ((s1.length : Nat) : Int))) <|
  (R id_keepCopyByte [AV.bytes ((s1.take (Int.toNat (if i1 < ((s1.length : Nat) : Int) then i1 else ((s1.length : Nat) : Int)))).drop 0)]).bind fun r1 =>
  asY r1.v fun s2 =>
  some ⟨AV.bytes s2, false, []⟩
theorem keepCutByte_eq (R : Nat → List AV → Option Res) (N : Nat) (s1 : List UInt8) (i1 : Int) : runF gl R N keepCutByte [AV.bytes s1, AV.int .i64 i1] = keepCutByter R N s1 i1 := by
  kernel_rfl
theorem keepCutByte_fit : fitF Try.prog keepCutByte Try.f5 = true := by
  kernel_rfl

def bytesEqual_c0 : AC := .seq (.region [.op (some 4) none (.mv (.k (AV.bool false)))]) (.seq (.region [.op (some 5) none (.mv (.t 0)), .op (some 6) none (.cvStr (.t 5)), .op (some 7) none (.mv (.t 1)), .op (some 8) none (.cvStr (.t 7)), .op (some 9) none (.bin .eql (.t 6) (.t 8)), .op (some 4) none (.mv (.t 9))]) (.ret [4] []))
def bytesEqual : AFunc := ⟨2, 10, [.tmp 4], bytesEqual_c0⟩
def bytesEqualr (R : Nat → List AV → Option Res) (N : Nat) (s1 : List UInt8) (s2 : List UInt8) : Option Res :=
  some ⟨AV.bool (s1 == s2), false, []⟩
theorem bytesEqual_eq (R : Nat → List AV → Option Res) (N : Nat) (s1 : List UInt8) (s2 : List UInt8) : runF gl R N bytesEqual [AV.bytes s1, AV.bytes s2] = bytesEqualr R N s1 s2 := by
  kernel_rfl
theorem bytesEqual_fit : fitF Try.prog bytesEqual Try.f13 = true := by
  kernel_rfl

def bytesHasPrefix_c0 : AC := .seq (.region [.op (some 4) none (.mv (.k (AV.bool false)))]) (.seq (.region [.op (some 5) none (.mv (.t 0)), .op (some 6) none (.len (.t 5) false), .op (some 7) none (.mv (.t 1)), .op (some 8) none (.len (.t 7) false), .op (some 9) none (.bin .geq (.t 6) (.t 8)), .op (some 10) none (.mv (.t 9)), .split 10, .op (some 11) (some (10, true)) (.mv (.t 0)), .op (some 12) (some (10, true)) (.mv (.t 1)), .op (some 13) (some (10, true)) (.len (.t 12) false), .op (some 14) (some (10, true)) (.slice (.t 11) none (some (.t 13)) 1), .op (some 15) (some (10, true)) (.mv (.t 1)), .op (some 16) (some (10, true)) (.call id_bytesEqual [.t 14, .t 15] (.bool)), .op (some 17) none (.pick (.t 10) (.t 16) (.k (AV.bool false))), .op (some 4) none (.mv (.t 17))]) (.ret [4] []))
def bytesHasPrefix : AFunc := ⟨2, 18, [.tmp 4], bytesHasPrefix_c0⟩
def bytesHasPrefixr (R : Nat → List AV → Option Res) (N : Nat) (s1 : List UInt8) (s2 : List UInt8) : Option Res :=
  bif decide ((((s1.length : Nat) : Int) : Int) ≥ ((s2.length : Nat) : Int)) then
    (need (decide (0 ≤ (((s2.length : Nat) : Int) : Int)) && decide ((((s2.length : Nat) : Int) : Int) ≤ ((s1.length : Nat) : Int))) <|
    (R id_bytesEqual [AV.bytes ((s1.take (Int.toNat ((s2.length : Nat) : Int))).drop 0), AV.bytes s2]).bind fun r1 =>
    asB r1.v fun b1 =>
    some ⟨AV.bool b1, false, []⟩)
  else
    some ⟨AV.bool false, false, []⟩
theorem bytesHasPrefix_eq (R : Nat → List AV → Option Res) (N : Nat) (s1 : List UInt8) (s2 : List UInt8) : runF gl R N bytesHasPrefix [AV.bytes s1, AV.bytes s2] = bytesHasPrefixr R N s1 s2 := by
  kernel_rfl
theorem bytesHasPrefix_fit : fitF Try.prog bytesHasPrefix Try.f11 = true := by
  kernel_rfl

def bytesIndexByte_c0 : AC := .seq (.region [.op (some 4) none (.mv (.k (AV.int .i64 0)))]) (.seq (.region [.op (some 5) none (.mv (.t 0)), .op (some 6) none (.mv (.t 1)), .op (some 7) none (.call id_internalBytealgIndexByte [.t 5, .t 6] (.int .i64)), .op (some 4) none (.mv (.t 7))]) (.ret [4] []))
def bytesIndexByte : AFunc := ⟨2, 8, [.tmp 4], bytesIndexByte_c0⟩
def bytesIndexByter (R : Nat → List AV → Option Res) (N : Nat) (s1 : List UInt8) (i1 : Int) : Option Res :=
  (R id_internalBytealgIndexByte [AV.bytes s1, AV.int .u8 i1]).bind fun r1 =>
  asI .i64 r1.v fun i2 =>
  some ⟨AV.int .i64 i2, false, []⟩
theorem bytesIndexByte_eq (R : Nat → List AV → Option Res) (N : Nat) (s1 : List UInt8) (i1 : Int) : runF gl R N bytesIndexByte [AV.bytes s1, AV.int .u8 i1] = bytesIndexByter R N s1 i1 := by
  kernel_rfl
theorem bytesIndexByte_fit : fitF Try.prog bytesIndexByte Try.f12 = true := by
  kernel_rfl

def linesSplit_L1s (R : Nat → List AV → Option Res) (N : Nat) (go : List UInt8 → Int → List AV → Option Res) (k0 : List AV → Option Res) (k1 : List AV → Option Res) (s2 : List UInt8) (i1 : Int) (l1 : List AV) : Option Res :=
  bif decide ((i1 : Int) < ((s2.length : Nat) : Int)) then
    (need (decide (0 ≤ (i1 : Int)) && decide ((i1 : Int) ≤ ((s2.length : Nat) : Int))) <|
    (R id_bytesIndexByte [AV.bytes ((s2.take s2.length).drop (Int.toNat i1)), AV.int .u8 10]).bind fun r2 =>
    asI .i64 r2.v fun i2 =>
    bif decide ((i2 : Int) < 0) then
      (need (decide (((l1.drop 0).take l1.length).length + [AV.agg [AV.int .i64 i1, AV.int .i64 ((s2.length : Nat) : Int), AV.int .i64 ((s2.length : Nat) : Int)]].length ≤ 1099511627776)) <|
      k0 (((l1.drop 0).take l1.length) ++ [AV.agg [AV.int .i64 i1, AV.int .i64 ((s2.length : Nat) : Int), AV.int .i64 ((s2.length : Nat) : Int)]]))
    else
      bif decide ((i2 : Int) > 0) then
        (need (decide (0 ≤ (IntKind.i64.wrap ((IntKind.i64.wrap (i1 + i2)) - 1) : Int))) <|
        (s2[Int.toNat (IntKind.i64.wrap ((IntKind.i64.wrap (i1 + i2)) - 1))]?).bind fun c1 =>
        bif ((c1.toNat : Int) : Int) == 13 then
          (need (decide (((l1.drop 0).take l1.length).length + [AV.agg [AV.int .i64 i1, AV.int .i64 (IntKind.i64.wrap ((IntKind.i64.wrap (i1 + i2)) - 1)), AV.int .i64 (IntKind.i64.wrap ((IntKind.i64.wrap (i1 + i2)) + 1))]].length ≤ 1099511627776)) <|
          go s2 (IntKind.i64.wrap ((IntKind.i64.wrap (i1 + i2)) + 1)) (((l1.drop 0).take l1.length) ++ [AV.agg [AV.int .i64 i1, AV.int .i64 (IntKind.i64.wrap ((IntKind.i64.wrap (i1 + i2)) - 1)), AV.int .i64 (IntKind.i64.wrap ((IntKind.i64.wrap (i1 + i2)) + 1))]]))
        else
          need (decide (((l1.drop 0).take l1.length).length + [AV.agg [AV.int .i64 i1, AV.int .i64 (IntKind.i64.wrap (i1 + i2)), AV.int .i64 (IntKind.i64.wrap ((IntKind.i64.wrap (i1 + i2)) + 1))]].length ≤ 1099511627776)) <|
          go s2 (IntKind.i64.wrap ((IntKind.i64.wrap (i1 + i2)) + 1)) (((l1.drop 0).take l1.length) ++ [AV.agg [AV.int .i64 i1, AV.int .i64 (IntKind.i64.wrap (i1 + i2)), AV.int .i64 (IntKind.i64.wrap ((IntKind.i64.wrap (i1 + i2)) + 1))]]))
      else
        need (decide (((l1.drop 0).take l1.length).length + [AV.agg [AV.int .i64 i1, AV.int .i64 (IntKind.i64.wrap (i1 + i2)), AV.int .i64 (IntKind.i64.wrap ((IntKind.i64.wrap (i1 + i2)) + 1))]].length ≤ 1099511627776)) <|
        go s2 (IntKind.i64.wrap ((IntKind.i64.wrap (i1 + i2)) + 1)) (((l1.drop 0).take l1.length) ++ [AV.agg [AV.int .i64 i1, AV.int .i64 (IntKind.i64.wrap (i1 + i2)), AV.int .i64 (IntKind.i64.wrap ((IntKind.i64.wrap (i1 + i2)) + 1))]]))
  else
    k1 l1
def linesSplit_L1 (R : Nat → List AV → Option Res) (N : Nat) (k0 : List AV → Option Res) (k1 : List AV → Option Res) : Nat → List UInt8 → Int → List AV → Option Res
  | 0, _, _, _ => none
  | n + 1, s2, i1, l1 => linesSplit_L1s R N (linesSplit_L1 R N k0 k1 n) k0 k1 s2 i1 l1
def linesSplit_c0 : AC := .seq (.seq (.region [.op (some 11) none (.mv (.t 4)), .op (some 12) none (.mv (.t 0)), .op (some 13) none (.len (.t 12) false), .op (some 14) none (.bin .lss (.t 11) (.t 13))]) (.cond (.t 14) (.skip) (.exit 0 [3] [3]))) (.block 1 (.seq (.region [.op (some 15) none (.mv (.t 0)), .op (some 16) none (.mv (.t 4)), .op (some 17) none (.slice (.t 15) (some (.t 16)) none 1), .op (some 18) none (.call id_bytesIndexByte [.t 17, .k (AV.int .u8 10)] (.int .i64)), .op (some 5) none (.mv (.t 18))]) (.seq (.seq (.region [.op (some 19) none (.mv (.t 5)), .op (some 20) none (.bin .lss (.t 19) (.k (AV.int .i64 0)))]) (.cond (.t 20) (.seq (.region [.op (some 21) none (.mv (.t 3)), .op (some 22) none (.mv (.t 4)), .op (some 23) none (.mv (.t 0)), .op (some 24) none (.len (.t 23) false), .op (some 25) none (.mv (.t 0)), .op (some 26) none (.len (.t 25) false), .op (some 27) none (.build [AV.int .i64 0, AV.int .i64 0, AV.int .i64 0] [(0, 1, .t 22), (1, 1, .t 24), (2, 1, .t 26)]), .op (some 28) none (.bslice [.t 27] 3 false), .op (some 29) none (.app 3 (.t 21) (.t 28) 3 .any false), .op (some 2) none (.mv (.t 29))]) (.ret [2] [3])) (.skip))) (.seq (.region [.op (some 30) none (.mv (.t 4)), .op (some 31) none (.mv (.t 4)), .op (some 32) none (.mv (.t 5)), .op (some 33) none (.bin .add (.t 31) (.t 32)), .op (some 34) none (.mv (.t 4)), .op (some 35) none (.mv (.t 5)), .op (some 36) none (.bin .add (.t 34) (.t 35)), .op (some 37) none (.bin .add (.t 36) (.k (AV.int .i64 1))), .op (some 38) none (.build [AV.int .i64 0, AV.int .i64 0, AV.int .i64 0] [(0, 1, .t 30), (1, 1, .t 33), (2, 1, .t 37)]), .op (some 6) none (.alloc 1006 [AV.int .i64 0, AV.int .i64 0, AV.int .i64 0]), .op none none (.store (.t 6) (.t 38) 3)]) (.seq (.seq (.region [.op (some 39) none (.mv (.t 5)), .op (some 40) none (.bin .gtr (.t 39) (.k (AV.int .i64 0))), .op (some 41) none (.mv (.t 40)), .split 41, .op (some 42) (some (41, true)) (.mv (.t 0)), .op (some 43) (some (41, true)) (.faddr (.t 6) 1), .op (some 44) (some (41, true)) (.load (.t 43) none (.int .i64)), .op (some 45) (some (41, true)) (.bin .sub (.t 44) (.k (AV.int .i64 1))), .op (some 46) (some (41, true)) (.iaddr (.t 42) (.t 45) 1 (.int .u8)), .op (some 47) (some (41, true)) (.load (.t 46) none (.int .u8)), .op (some 48) (some (41, true)) (.bin .eql (.t 47) (.k (AV.int .u8 13))), .op (some 49) none (.pick (.t 41) (.t 48) (.k (AV.bool false)))]) (.cond (.t 49) (.region [.op (some 50) none (.faddr (.t 6) 1), .op (some 51) none (.load (.t 50) none (.int .i64)), .op (some 52) none (.bin .sub (.t 51) (.k (AV.int .i64 1))), .op (some 53) none (.faddr (.t 6) 1), .op none none (.store (.t 53) (.t 52) 1)]) (.skip))) (.seq (.region [.op (some 54) none (.mv (.t 3)), .op (some 55) none (.load (.t 6) (some 3) (.agg [.int .i64, .int .i64, .int .i64])), .op (some 56) none (.bslice [.t 55] 3 false), .op (some 57) none (.app 3 (.t 54) (.t 56) 3 .any false), .op (some 3) none (.mv (.t 57))]) (.region [.op (some 58) none (.faddr (.t 6) 2), .op (some 59) none (.load (.t 58) none (.int .i64)), .op (some 4) none (.mv (.t 59))])))))))
theorem linesSplit_L1s_eq (R : Nat → List AV → Option Res) (N : Nat) (K : Ex → St → Option Res) (W : St → Option Res) (s2 : List UInt8) (i1 : Int) (l1 : List AV) :
    evC gl R N linesSplit_c0 (Kseq (fun st' => W (prune [0, 3, 4] [3] st')) K) ⟨[(0, .imm (AV.bytes s2)), (3, .own 3 0 l1.length none), (4, .imm (AV.int .i64 i1))], [(3, .row 3 l1 false)]⟩ =
    linesSplit_L1s R N (fun (s2 : List UInt8) (i1 : Int) (l1 : List AV) => W ⟨[(0, .imm (AV.bytes s2)), (3, .own 3 0 l1.length none), (4, .imm (AV.int .i64 i1))], [(3, .row 3 l1 false)]⟩) (fun (l2 : List AV) => K .ret ⟨[(2, .own 3 0 l2.length none)], [(3, .row 3 l2 false)]⟩) (fun (l3 : List AV) => K (.exit 0) ⟨[(3, .own 3 0 l3.length none)], [(3, .row 3 l3 false)]⟩) s2 i1 l1 := by
  kernel_rfl
theorem linesSplit_L1_eq (R : Nat → List AV → Option Res) (N : Nat) (K : Ex → St → Option Res) : ∀ (n : Nat) (s2 : List UInt8) (i1 : Int) (l1 : List AV),
    rounds [0, 3, 4] [3] (evC gl R N linesSplit_c0) K n ⟨[(0, .imm (AV.bytes s2)), (3, .own 3 0 l1.length none), (4, .imm (AV.int .i64 i1))], [(3, .row 3 l1 false)]⟩ = linesSplit_L1 R N (fun (l2 : List AV) => K .ret ⟨[(2, .own 3 0 l2.length none)], [(3, .row 3 l2 false)]⟩) (fun (l3 : List AV) => K (.exit 0) ⟨[(3, .own 3 0 l3.length none)], [(3, .row 3 l3 false)]⟩) n s2 i1 l1
  | 0, _, _, _ => rfl
  | n + 1, s2, i1, l1 => (linesSplit_L1s_eq R N K (rounds [0, 3, 4] [3] (evC gl R N linesSplit_c0) K n) s2 i1 l1).trans
      (congrArg (fun go => linesSplit_L1s R N go (fun (l2 : List AV) => K .ret ⟨[(2, .own 3 0 l2.length none)], [(3, .row 3 l2 false)]⟩) (fun (l3 : List AV) => K (.exit 0) ⟨[(3, .own 3 0 l3.length none)], [(3, .row 3 l3 false)]⟩) s2 i1 l1) (funext fun s2 => funext fun i1 => funext fun l1 => linesSplit_L1_eq R N K n s2 i1 l1))
def linesSplit_c1 : AC := .seq (.region [.op (some 60) none (.mv (.t 3)), .op (some 2) none (.mv (.t 60))]) (.ret [2] [3])
def linesSplit_c2 : AC := .seq (.region [.op (some 2) none (.nilOwn 3 (some (3, .any)))]) (.seq (.region [.op (some 3) none (.nilOwn 3 (some (3, .any)))]) (.seq (.region [.op (some 4) none (.mv (.k (AV.int .i64 0)))]) (.seq (.seq (.region [.op (some 7) none (.mv (.t 0)), .op (some 8) none (.bsliceOwn 8 [.k (AV.int .u8 239), .k (AV.int .u8 187), .k (AV.int .u8 191)] 1 .any true), .op (some 9) none (.cvSame (.t 8)), .op (some 10) none (.call id_bytesHasPrefix [.t 7, .t 9] (.bool))]) (.cond (.t 10) (.region [.op (some 4) none (.mv (.k (AV.int .i64 3)))]) (.skip))) (.seq (.block 0 (.loop [0, 3, 4] [3] (linesSplit_c0))) (linesSplit_c1)))))
def linesSplit : AFunc := ⟨1, 61, [.tmp 2], linesSplit_c2⟩
def linesSplitr (R : Nat → List AV → Option Res) (N : Nat) (s1 : List UInt8) : Option Res :=
  (R id_bytesHasPrefix [AV.bytes s1, AV.bytes (([239, 187, 191].drop 0).take 3)]).bind fun r1 =>
  asB r1.v fun b1 =>
  bif b1 then
    (linesSplit_L1 R N
      (fun l6 =>
        some ⟨AV.row 3 ((l6.drop 0).take l6.length), true, []⟩)
      (fun l7 =>
        some ⟨AV.row 3 ((l7.drop 0).take l7.length), true, []⟩)
      N s1 3 [])
  else
    linesSplit_L1 R N
      (fun l8 =>
        some ⟨AV.row 3 ((l8.drop 0).take l8.length), true, []⟩)
      (fun l9 =>
        some ⟨AV.row 3 ((l9.drop 0).take l9.length), true, []⟩)
      N s1 0 []
theorem linesSplit_eq (R : Nat → List AV → Option Res) (N : Nat) (s1 : List UInt8) : runF gl R N linesSplit [AV.bytes s1] = linesSplitr R N s1 := by
  refine Eq.trans (b :=
      (R id_bytesHasPrefix [AV.bytes s1, AV.bytes (([239, 187, 191].drop 0).take 3)]).bind fun r1 =>
      asB r1.v fun b1 =>
      bif b1 then
        (rounds [0, 3, 4] [3] (evC gl R N linesSplit_c0) (Kblock 0 (Kthen gl R N linesSplit_c1 (Kret linesSplit.rets))) N ⟨[(0, .imm (AV.bytes s1)), (3, .own 3 0 (([] : List AV).length) none), (4, .imm (AV.int .i64 3))], [(3, .row 3 [] false)]⟩)
      else
        rounds [0, 3, 4] [3] (evC gl R N linesSplit_c0) (Kblock 0 (Kthen gl R N linesSplit_c1 (Kret linesSplit.rets))) N ⟨[(0, .imm (AV.bytes s1)), (3, .own 3 0 (([] : List AV).length) none), (4, .imm (AV.int .i64 0))], [(3, .row 3 [] false)]⟩) (by kernel_rfl) ?_
  simp (config := { maxSteps := 100000000 }) only [linesSplit_L1_eq]
  kernel_rfl
theorem linesSplit_fit : fitF Try.prog linesSplit Try.f6 = true := by
  kernel_rfl

def keepWithin_c0 : AC := .seq (.region [.op (some 4) none (.mv (.k (AV.int .i64 0)))]) (.seq (.seq (.region [.op (some 6) none (.mv (.t 1)), .op (some 7) none (.bin .lss (.t 6) (.k (AV.int .i64 1)))]) (.cond (.t 7) (.seq (.region [.op (some 4) none (.mv (.k (AV.int .i64 0)))]) (.ret [4] [])) (.skip))) (.seq (.region [.op (some 8) none (.mv (.t 0)), .op (some 9) none (.mv (.t 1)), .op (some 10) none (.bin .rem (.t 8) (.t 9)), .op (some 5) none (.mv (.t 10))]) (.seq (.seq (.region [.op (some 11) none (.mv (.t 5)), .op (some 12) none (.bin .lss (.t 11) (.k (AV.int .i64 0)))]) (.cond (.t 12) (.region [.op (some 13) none (.mv (.t 5)), .op (some 14) none (.mv (.t 1)), .op (some 15) none (.bin .add (.t 13) (.t 14)), .op (some 5) none (.mv (.t 15))]) (.skip))) (.seq (.region [.op (some 16) none (.mv (.t 5)), .op (some 4) none (.mv (.t 16))]) (.ret [4] [])))))
def keepWithin : AFunc := ⟨2, 17, [.tmp 4], keepWithin_c0⟩
def keepWithinr (R : Nat → List AV → Option Res) (N : Nat) (i1 : Int) (i2 : Int) : Option Res :=
  bif decide ((i2 : Int) < 1) then
    (some ⟨AV.int .i64 0, false, []⟩)
  else
    need (!decide (i2 = 0)) <|
    bif decide (((Int.tmod i1 i2) : Int) < 0) then
      (some ⟨AV.int .i64 (IntKind.i64.wrap ((Int.tmod i1 i2) + i2)), false, []⟩)
    else
      some ⟨AV.int .i64 (Int.tmod i1 i2), false, []⟩
theorem keepWithin_eq (R : Nat → List AV → Option Res) (N : Nat) (i1 : Int) (i2 : Int) : runF gl R N keepWithin [AV.int .i64 i1, AV.int .i64 i2] = keepWithinr R N i1 i2 := by
  kernel_rfl
theorem keepWithin_fit : fitF Try.prog keepWithin Try.f7 = true := by
  kernel_rfl

def linesAt_L1s (R : Nat → List AV → Option Res) (N : Nat) (go : List AV → Int → Int → Option Res) (k0 : Int → Int → Option Res) (k1 : Option Res) (l2 : List AV) (i2 : Int) (i3 : Int) : Option Res :=
  bif decide ((i3 : Int) ≥ 0) then
    (need (decide (0 ≤ (i3 : Int))) <|
    (l2[Int.toNat i3]?).bind fun e1 =>
    asIIIA e1 fun i4 i5 i6 =>
    bif decide ((i4 : Int) ≤ i2) then
      (need (decide (0 ≤ (i3 : Int))) <|
      (l2[Int.toNat i3]?).bind fun e2 =>
      asIIIA e2 fun i7 i8 i9 =>
      k0 i3 (IntKind.i64.wrap (i2 - i7)))
    else
      go l2 i2 (IntKind.i64.wrap (i3 - 1)))
  else
    k1
def linesAt_L1 (R : Nat → List AV → Option Res) (N : Nat) (k0 : Int → Int → Option Res) (k1 : Option Res) : Nat → List AV → Int → Int → Option Res
  | 0, _, _, _ => none
  | n + 1, l2, i2, i3 => linesAt_L1s R N (linesAt_L1 R N k0 k1 n) k0 k1 l2 i2 i3
def linesAt_c0 : AC := .seq (.seq (.region [.op (some 10) none (.mv (.t 6)), .op (some 11) none (.bin .geq (.t 10) (.k (AV.int .i64 0)))]) (.cond (.t 11) (.skip) (.exit 0 [] []))) (.seq (.block 1 (.seq (.region [.op (some 14) none (.mv (.t 0)), .op (some 15) none (.mv (.t 6)), .op (some 16) none (.iaddr (.t 14) (.t 15) 3 (.agg [.int .i64, .int .i64, .int .i64])), .op (some 17) none (.faddr (.t 16) 0), .op (some 18) none (.load (.t 17) none (.int .i64)), .op (some 19) none (.mv (.t 1)), .op (some 20) none (.bin .leq (.t 18) (.t 19))]) (.cond (.t 20) (.seq (.regionD [4, 5] [] [.op (some 21) none (.mv (.t 6)), .op (some 22) none (.mv (.t 1)), .op (some 23) none (.mv (.t 0)), .op (some 24) none (.mv (.t 6)), .op (some 25) none (.iaddr (.t 23) (.t 24) 3 (.agg [.int .i64, .int .i64, .int .i64])), .op (some 26) none (.faddr (.t 25) 0), .op (some 27) none (.load (.t 26) none (.int .i64)), .op (some 28) none (.bin .sub (.t 22) (.t 27)), .op (some 4) none (.mv (.t 21)), .op (some 5) none (.mv (.t 28))] []) (.ret [4, 5] [])) (.skip)))) (.region [.op (some 12) none (.mv (.t 6)), .op (some 13) none (.bin .sub (.t 12) (.k (AV.int .i64 1))), .op (some 6) none (.mv (.t 13))]))
theorem linesAt_L1s_eq (R : Nat → List AV → Option Res) (N : Nat) (K : Ex → St → Option Res) (W : St → Option Res) (l2 : List AV) (i2 : Int) (i3 : Int) :
    evC gl R N linesAt_c0 (Kseq (fun st' => W (prune [0, 1, 6] [] st')) K) ⟨[(0, .imm (AV.row 3 l2)), (1, .imm (AV.int .i64 i2)), (6, .imm (AV.int .i64 i3))], []⟩ =
    linesAt_L1s R N (fun (l2 : List AV) (i2 : Int) (i3 : Int) => W ⟨[(0, .imm (AV.row 3 l2)), (1, .imm (AV.int .i64 i2)), (6, .imm (AV.int .i64 i3))], []⟩) (fun (i10 : Int) (i11 : Int) => K .ret ⟨[(4, .imm (AV.int .i64 i10)), (5, .imm (AV.int .i64 i11))], []⟩) (K (.exit 0) ⟨[], []⟩) l2 i2 i3 := by
  kernel_rfl
theorem linesAt_L1_eq (R : Nat → List AV → Option Res) (N : Nat) (K : Ex → St → Option Res) : ∀ (n : Nat) (l2 : List AV) (i2 : Int) (i3 : Int),
    rounds [0, 1, 6] [] (evC gl R N linesAt_c0) K n ⟨[(0, .imm (AV.row 3 l2)), (1, .imm (AV.int .i64 i2)), (6, .imm (AV.int .i64 i3))], []⟩ = linesAt_L1 R N (fun (i10 : Int) (i11 : Int) => K .ret ⟨[(4, .imm (AV.int .i64 i10)), (5, .imm (AV.int .i64 i11))], []⟩) (K (.exit 0) ⟨[], []⟩) n l2 i2 i3
  | 0, _, _, _ => rfl
  | n + 1, l2, i2, i3 => (linesAt_L1s_eq R N K (rounds [0, 1, 6] [] (evC gl R N linesAt_c0) K n) l2 i2 i3).trans
      (congrArg (fun go => linesAt_L1s R N go (fun (i10 : Int) (i11 : Int) => K .ret ⟨[(4, .imm (AV.int .i64 i10)), (5, .imm (AV.int .i64 i11))], []⟩) (K (.exit 0) ⟨[], []⟩) l2 i2 i3) (funext fun l2 => funext fun i2 => funext fun i3 => linesAt_L1_eq R N K n l2 i2 i3))
def linesAt_c1 : AC := .seq (.region [.op (some 4) none (.mv (.k (AV.int .i64 (-1)))), .op (some 5) none (.mv (.k (AV.int .i64 0)))]) (.ret [4, 5] [])
def linesAt_c2 : AC := .seq (.region [.op (some 4) none (.mv (.k (AV.int .i64 0))), .op (some 5) none (.mv (.k (AV.int .i64 0)))]) (.seq (.seq (.region [.op (some 7) none (.mv (.t 0)), .op (some 8) none (.len (.t 7) false), .op (some 9) none (.bin .sub (.t 8) (.k (AV.int .i64 1))), .op (some 6) none (.mv (.t 9))]) (.block 0 (.loop [0, 1, 6] [] (linesAt_c0)))) (linesAt_c1))
def linesAt : AFunc := ⟨2, 29, [.tmp 4, .tmp 5], linesAt_c2⟩
def linesAtr (R : Nat → List AV → Option Res) (N : Nat) (l1 : List AV) (i1 : Int) : Option Res :=
  linesAt_L1 R N
    (fun i14 i15 =>
      some ⟨AV.tup [AV.int .i64 i14, AV.int .i64 i15], false, []⟩)
    (
      some ⟨AV.tup [AV.int .i64 (-1), AV.int .i64 0], false, []⟩)
    N l1 i1 (IntKind.i64.wrap (((l1.length : Nat) : Int) - 1))
theorem linesAt_eq (R : Nat → List AV → Option Res) (N : Nat) (l1 : List AV) (i1 : Int) : runF gl R N linesAt [AV.row 3 l1, AV.int .i64 i1] = linesAtr R N l1 i1 := by
  refine Eq.trans (b :=
      rounds [0, 1, 6] [] (evC gl R N linesAt_c0) (Kblock 0 (Kthen gl R N linesAt_c1 (Kret linesAt.rets))) N ⟨[(0, .imm (AV.row 3 l1)), (1, .imm (AV.int .i64 i1)), (6, .imm (AV.int .i64 (IntKind.i64.wrap (((l1.length : Nat) : Int) - 1))))], []⟩) (by kernel_rfl) ?_
  simp (config := { maxSteps := 100000000 }) only [linesAt_L1_eq]
  kernel_rfl
theorem linesAt_fit : fitF Try.prog linesAt Try.f8 = true := by
  kernel_rfl

def law02Wakes_c0 : AC := .seq (.region [.op (some 0) none (.mv (.k (AV.bool false)))]) (.seq (.region [.op (some 1) none (.bsliceOwn 1 [.k (AV.int .u8 97), .k (AV.int .u8 13), .k (AV.int .u8 10)] 1 .any true), .op (some 2) none (.cvSame (.t 1)), .op (some 3) none (.call id_linesSplit [.t 2] (.row 3)), .op (some 4) none (.len (.t 3) false), .op (some 5) none (.bin .eql (.t 4) (.k (AV.int .i64 1))), .op (some 0) none (.mv (.t 5))]) (.ret [0] []))
def law02Wakes : AFunc := ⟨0, 6, [.tmp 0], law02Wakes_c0⟩
def law02Wakesr (R : Nat → List AV → Option Res) (N : Nat) : Option Res :=
  (R id_linesSplit [AV.bytes (([97, 13, 10].drop 0).take 3)]).bind fun r1 =>
  asR 3 r1.v fun l1 =>
  some ⟨AV.bool ((((l1.length : Nat) : Int) : Int) == 1), false, []⟩
theorem law02Wakes_eq (R : Nat → List AV → Option Res) (N : Nat) : runF gl R N law02Wakes [] = law02Wakesr R N := by
  kernel_rfl
theorem law02Wakes_fit : fitF Try.prog law02Wakes Try.f9 = true := by
  kernel_rfl

def law02LinesAt_c0 : AC := .seq (.region [.op (some 4) none (.mv (.k (AV.bool false)))]) (.seq (.region [.op (some 10) none (.mv (.t 0)), .op (some 11) none (.call id_keepCutByte [.t 10, .k (AV.int .i64 120)] (.bytes)), .op (some 0) none (.mv (.t 11))]) (.seq (.region [.op (some 12) none (.mv (.t 0)), .op (some 13) none (.call id_linesSplit [.t 12] (.row 3)), .op (some 5) none (.mv (.t 13))]) (.seq (.region [.op (some 14) none (.mv (.t 1)), .op (some 15) none (.mv (.t 0)), .op (some 16) none (.len (.t 15) false), .op (some 17) none (.bin .add (.t 16) (.k (AV.int .i64 3))), .op (some 18) none (.call id_keepWithin [.t 14, .t 17] (.int .i64)), .op (some 1) none (.mv (.t 18))]) (.seq (.region [.op (some 20) none (.mv (.t 5)), .op (some 21) none (.mv (.t 1)), .op (some 22) none (.call id_linesAt [.t 20, .t 21] (.tup [.int .i64, .int .i64])), .op (some 19) none (.mv (.t 22)), .op (some 23) none (.extract (.t 19) 0), .op (some 24) none (.extract (.t 19) 1), .op (some 6) none (.mv (.t 23)), .op (some 7) none (.mv (.t 24))]) (.seq (.seq (.region [.op (some 25) none (.mv (.t 5)), .op (some 26) none (.len (.t 25) false), .op (some 27) none (.bin .eql (.t 26) (.k (AV.int .i64 0))), .op (some 28) none (.mv (.t 27)), .split 28, .op (some 29) (some (28, false)) (.mv (.t 1)), .op (some 30) (some (28, false)) (.mv (.t 5)), .op (some 31) (some (28, false)) (.iaddr (.t 30) (.k (AV.int .i64 0)) 3 (.agg [.int .i64, .int .i64, .int .i64])), .op (some 32) (some (28, false)) (.faddr (.t 31) 0), .op (some 33) (some (28, false)) (.load (.t 32) none (.int .i64)), .op (some 34) (some (28, false)) (.bin .lss (.t 29) (.t 33)), .op (some 35) none (.pick (.t 28) (.k (AV.bool true)) (.t 34))]) (.cond (.t 35) (.seq (.region [.op (some 36) none (.mv (.t 6)), .op (some 37) none (.bin .eql (.t 36) (.k (AV.int .i64 (-1)))), .op (some 38) none (.mv (.t 37)), .split 38, .op (some 39) (some (38, true)) (.mv (.t 7)), .op (some 40) (some (38, true)) (.bin .eql (.t 39) (.k (AV.int .i64 0))), .op (some 41) none (.pick (.t 38) (.t 40) (.k (AV.bool false))), .op (some 42) none (.mv (.t 41)), .split 42, .op (some 43) (some (42, true)) (.call id_law02Wakes [] (.bool)), .op (some 44) none (.pick (.t 42) (.t 43) (.k (AV.bool false))), .op (some 4) none (.mv (.t 44))]) (.ret [4] [])) (.skip))) (.seq (.seq (.region [.op (some 45) none (.mv (.t 6)), .op (some 46) none (.bin .lss (.t 45) (.k (AV.int .i64 0))), .op (some 47) none (.mv (.t 46)), .split 47, .op (some 48) (some (47, false)) (.mv (.t 6)), .op (some 49) (some (47, false)) (.mv (.t 5)), .op (some 50) (some (47, false)) (.len (.t 49) false), .op (some 51) (some (47, false)) (.bin .geq (.t 48) (.t 50)), .op (some 52) none (.pick (.t 47) (.k (AV.bool true)) (.t 51)), .op (some 53) none (.mv (.t 52)), .split 53, .op (some 54) (some (53, false)) (.mv (.t 5)), .op (some 55) (some (53, false)) (.mv (.t 6)), .op (some 56) (some (53, false)) (.iaddr (.t 54) (.t 55) 3 (.agg [.int .i64, .int .i64, .int .i64])), .op (some 57) (some (53, false)) (.faddr (.t 56) 0), .op (some 58) (some (53, false)) (.load (.t 57) none (.int .i64)), .op (some 59) (some (53, false)) (.mv (.t 7)), .op (some 60) (some (53, false)) (.bin .add (.t 58) (.t 59)), .op (some 61) (some (53, false)) (.mv (.t 1)), .op (some 62) (some (53, false)) (.bin .neq (.t 60) (.t 61)), .op (some 63) none (.pick (.t 53) (.k (AV.bool true)) (.t 62)), .op (some 64) none (.mv (.t 63)), .split 64, .op (some 65) (some (64, false)) (.mv (.t 7)), .op (some 66) (some (64, false)) (.bin .lss (.t 65) (.k (AV.int .i64 0))), .op (some 67) none (.pick (.t 64) (.k (AV.bool true)) (.t 66))]) (.cond (.t 67) (.seq (.region [.op (some 4) none (.mv (.k (AV.bool false)))]) (.ret [4] [])) (.skip))) (.seq (.region [.op (some 69) none (.mv (.t 5)), .op (some 70) none (.call id_linesAt [.t 69, .k (AV.int .i64 (-1))] (.tup [.int .i64, .int .i64])), .op (some 68) none (.mv (.t 70)), .op (some 71) none (.extract (.t 68) 0), .op (some 72) none (.extract (.t 68) 1), .op (some 8) none (.mv (.t 71)), .op (some 9) none (.mv (.t 72))]) (.seq (.region [.op (some 73) none (.mv (.t 6)), .op (some 74) none (.bin .add (.t 73) (.k (AV.int .i64 1))), .op (some 75) none (.mv (.t 5)), .op (some 76) none (.len (.t 75) false), .op (some 77) none (.bin .eql (.t 74) (.t 76)), .op (some 78) none (.mv (.t 77)), .split 78, .op (some 79) (some (78, false)) (.mv (.t 1)), .op (some 80) (some (78, false)) (.mv (.t 5)), .op (some 81) (some (78, false)) (.mv (.t 6)), .op (some 82) (some (78, false)) (.bin .add (.t 81) (.k (AV.int .i64 1))), .op (some 83) (some (78, false)) (.iaddr (.t 80) (.t 82) 3 (.agg [.int .i64, .int .i64, .int .i64])), .op (some 84) (some (78, false)) (.faddr (.t 83) 0), .op (some 85) (some (78, false)) (.load (.t 84) none (.int .i64)), .op (some 86) (some (78, false)) (.bin .lss (.t 79) (.t 85)), .op (some 87) none (.pick (.t 78) (.k (AV.bool true)) (.t 86)), .op (some 88) none (.mv (.t 87)), .split 88, .op (some 89) (some (88, true)) (.mv (.t 8)), .op (some 90) (some (88, true)) (.bin .eql (.t 89) (.k (AV.int .i64 (-1)))), .op (some 91) none (.pick (.t 88) (.t 90) (.k (AV.bool false))), .op (some 92) none (.mv (.t 91)), .split 92, .op (some 93) (some (92, true)) (.mv (.t 9)), .op (some 94) (some (92, true)) (.bin .eql (.t 93) (.k (AV.int .i64 0))), .op (some 95) none (.pick (.t 92) (.t 94) (.k (AV.bool false))), .op (some 96) none (.mv (.t 95)), .split 96, .op (some 97) (some (96, true)) (.call id_law02Wakes [] (.bool)), .op (some 98) none (.pick (.t 96) (.t 97) (.k (AV.bool false))), .op (some 4) none (.mv (.t 98))]) (.ret [4] [])))))))))
def law02LinesAt : AFunc := ⟨2, 99, [.tmp 4], law02LinesAt_c0⟩
def law02LinesAtr (R : Nat → List AV → Option Res) (N : Nat) (s1 : List UInt8) (i1 : Int) : Option Res :=
  (R id_keepCutByte [AV.bytes s1, AV.int .i64 120]).bind fun r1 =>
  asY r1.v fun s2 =>
  (R id_linesSplit [AV.bytes s2]).bind fun r2 =>
  asR 3 r2.v fun l1 =>
  (R id_keepWithin [AV.int .i64 i1, AV.int .i64 (IntKind.i64.wrap (((s2.length : Nat) : Int) + 3))]).bind fun r3 =>
  asI .i64 r3.v fun i2 =>
  (R id_linesAt [AV.row 3 l1, AV.int .i64 i2]).bind fun r4 =>
  asIIT r4.v fun i3 i4 =>
  bif (((l1.length : Nat) : Int) : Int) == 0 then
    (bif (i3 : Int) == (-1) then
      (bif (i4 : Int) == 0 then
        ((R id_law02Wakes []).bind fun r5 =>
        asB r5.v fun b1 =>
        some ⟨AV.bool b1, false, []⟩)
      else
        some ⟨AV.bool false, false, []⟩)
    else
      some ⟨AV.bool false, false, []⟩)
  else
    need (decide (0 ≤ (0 : Int))) <|
    (l1[Int.toNat 0]?).bind fun e1 =>
    asIIIA e1 fun i5 i6 i7 =>
    bif decide ((i2 : Int) < i5) then
      (bif (i3 : Int) == (-1) then
        (bif (i4 : Int) == 0 then
          ((R id_law02Wakes []).bind fun r6 =>
          asB r6.v fun b2 =>
          some ⟨AV.bool b2, false, []⟩)
        else
          some ⟨AV.bool false, false, []⟩)
      else
        some ⟨AV.bool false, false, []⟩)
    else
      bif decide ((i3 : Int) < 0) then
        (some ⟨AV.bool false, false, []⟩)
      else
        bif decide ((i3 : Int) ≥ ((l1.length : Nat) : Int)) then
          (some ⟨AV.bool false, false, []⟩)
        else
          need (decide (0 ≤ (i3 : Int))) <|
          (l1[Int.toNat i3]?).bind fun e2 =>
          asIIIA e2 fun i8 i9 i10 =>
          bif ((IntKind.i64.wrap (i8 + i4)) : Int) != i2 then
            (some ⟨AV.bool false, false, []⟩)
          else
            bif decide ((i4 : Int) < 0) then
              (some ⟨AV.bool false, false, []⟩)
            else
              (R id_linesAt [AV.row 3 l1, AV.int .i64 (-1)]).bind fun r7 =>
              asIIT r7.v fun i11 i12 =>
              bif ((IntKind.i64.wrap (i3 + 1)) : Int) == ((l1.length : Nat) : Int) then
                (bif (i11 : Int) == (-1) then
                  (bif (i12 : Int) == 0 then
                    ((R id_law02Wakes []).bind fun r8 =>
                    asB r8.v fun b3 =>
                    some ⟨AV.bool b3, false, []⟩)
                  else
                    some ⟨AV.bool false, false, []⟩)
                else
                  some ⟨AV.bool false, false, []⟩)
              else
                need (decide (0 ≤ (IntKind.i64.wrap (i3 + 1) : Int))) <|
                (l1[Int.toNat (IntKind.i64.wrap (i3 + 1))]?).bind fun e3 =>
                asIIIA e3 fun i13 i14 i15 =>
                bif decide ((i2 : Int) < i13) then
                  (bif (i11 : Int) == (-1) then
                    (bif (i12 : Int) == 0 then
                      ((R id_law02Wakes []).bind fun r9 =>
                      asB r9.v fun b4 =>
                      some ⟨AV.bool b4, false, []⟩)
                    else
                      some ⟨AV.bool false, false, []⟩)
                  else
                    some ⟨AV.bool false, false, []⟩)
                else
                  some ⟨AV.bool false, false, []⟩
theorem law02LinesAt_eq (R : Nat → List AV → Option Res) (N : Nat) (s1 : List UInt8) (i1 : Int) : runF gl R N law02LinesAt [AV.bytes s1, AV.int .i64 i1] = law02LinesAtr R N s1 i1 := by
  kernel_rfl
theorem law02LinesAt_fit : fitF Try.prog law02LinesAt Try.f3 = true := by
  kernel_rfl

def law02LinesTile_L2s (R : Nat → List AV → Option Res) (N : Nat) (go : List UInt8 → List AV → Int → Int → Int → Int → Int → Int → Int → Option Res) (k0 : Bool → Option Res) (k1 : List UInt8 → List AV → Int → Int → Int → Int → Int → Option Res) (s4 : List UInt8) (l3 : List AV) (i7 : Int) (i8 : Int) (i9 : Int) (i10 : Int) (i11 : Int) (i12 : Int) (i13 : Int) : Option Res :=
  bif decide ((i8 : Int) < i12) then
    (need (decide (0 ≤ (i8 : Int))) <|
    (s4[Int.toNat i8]?).bind fun c4 =>
    bif ((c4.toNat : Int) : Int) == 10 then
      (k0 false)
    else
      (R id_linesAt [AV.row 3 l3, AV.int .i64 i8]).bind fun r3 =>
      asIIT r3.v fun i14 i15 =>
      bif (i14 : Int) != i7 then
        (k0 false)
      else
        bif (i15 : Int) != (IntKind.i64.wrap (i8 - i11)) then
          (k0 false)
        else
          go s4 l3 i7 (IntKind.i64.wrap (i8 + 1)) i9 i10 i11 i12 i13)
  else
    k1 s4 l3 i9 i10 i11 i12 i13
def law02LinesTile_L2 (R : Nat → List AV → Option Res) (N : Nat) (k0 : Bool → Option Res) (k1 : List UInt8 → List AV → Int → Int → Int → Int → Int → Option Res) : Nat → List UInt8 → List AV → Int → Int → Int → Int → Int → Int → Int → Option Res
  | 0, _, _, _, _, _, _, _, _, _ => none
  | n + 1, s4, l3, i7, i8, i9, i10, i11, i12, i13 => law02LinesTile_L2s R N (law02LinesTile_L2 R N k0 k1 n) k0 k1 s4 l3 i7 i8 i9 i10 i11 i12 i13
def law02LinesTile_c0 : AC := .seq (.seq (.region [.op (some 103) none (.mv (.t 8)), .op (some 104) none (.faddr (.t 6) 1), .op (some 105) none (.load (.t 104) none (.int .i64)), .op (some 106) none (.bin .lss (.t 103) (.t 105))]) (.cond (.t 106) (.skip) (.exit 2 [0, 3, 6, 37, 38] [1006]))) (.seq (.block 3 (.seq (.seq (.region [.op (some 109) none (.mv (.t 0)), .op (some 110) none (.mv (.t 8)), .op (some 111) none (.iaddr (.t 109) (.t 110) 1 (.int .u8)), .op (some 112) none (.load (.t 111) none (.int .u8)), .op (some 113) none (.bin .eql (.t 112) (.k (AV.int .u8 10)))]) (.cond (.t 113) (.seq (.region [.op (some 2) none (.mv (.k (AV.bool false)))]) (.ret [2] [])) (.skip))) (.seq (.region [.op (some 115) none (.mv (.t 3)), .op (some 116) none (.mv (.t 8)), .op (some 117) none (.call id_linesAt [.t 115, .t 116] (.tup [.int .i64, .int .i64])), .op (some 114) none (.mv (.t 117)), .op (some 118) none (.extract (.t 114) 0), .op (some 119) none (.extract (.t 114) 1), .op (some 9) none (.mv (.t 118)), .op (some 10) none (.mv (.t 119))]) (.seq (.region [.op (some 120) none (.mv (.t 9)), .op (some 121) none (.mv (.t 5)), .op (some 122) none (.bin .neq (.t 120) (.t 121)), .op (some 123) none (.mv (.t 122)), .split 123, .op (some 124) (some (123, false)) (.mv (.t 10)), .op (some 125) (some (123, false)) (.mv (.t 8)), .op (some 126) (some (123, false)) (.faddr (.t 6) 0), .op (some 127) (some (123, false)) (.load (.t 126) none (.int .i64)), .op (some 128) (some (123, false)) (.bin .sub (.t 125) (.t 127)), .op (some 129) (some (123, false)) (.bin .neq (.t 124) (.t 128)), .op (some 130) none (.pick (.t 123) (.k (AV.bool true)) (.t 129))]) (.cond (.t 130) (.seq (.region [.op (some 2) none (.mv (.k (AV.bool false)))]) (.ret [2] [])) (.skip)))))) (.region [.op (some 107) none (.mv (.t 8)), .op (some 108) none (.bin .add (.t 107) (.k (AV.int .i64 1))), .op (some 8) none (.mv (.t 108))]))
theorem law02LinesTile_L2s_eq (R : Nat → List AV → Option Res) (N : Nat) (K : Ex → St → Option Res) (W : St → Option Res) (s4 : List UInt8) (l3 : List AV) (i7 : Int) (i8 : Int) (i9 : Int) (i10 : Int) (i11 : Int) (i12 : Int) (i13 : Int) :
    evC gl R N law02LinesTile_c0 (Kseq (fun st' => W (prune [0, 3, 5, 6, 8, 37, 38] [1006] st')) K) ⟨[(0, .imm (AV.bytes s4)), (3, .imm (AV.row 3 l3)), (5, .imm (AV.int .i64 i7)), (6, .ptr 1006 0 0), (8, .imm (AV.int .i64 i8)), (37, .imm (AV.int .i64 i9)), (38, .imm (AV.int .i64 i10))], [(1006, .box [.imm (AV.int .i64 i11), .imm (AV.int .i64 i12), .imm (AV.int .i64 i13)])]⟩ =
    law02LinesTile_L2s R N (fun (s4 : List UInt8) (l3 : List AV) (i7 : Int) (i8 : Int) (i9 : Int) (i10 : Int) (i11 : Int) (i12 : Int) (i13 : Int) => W ⟨[(0, .imm (AV.bytes s4)), (3, .imm (AV.row 3 l3)), (5, .imm (AV.int .i64 i7)), (6, .ptr 1006 0 0), (8, .imm (AV.int .i64 i8)), (37, .imm (AV.int .i64 i9)), (38, .imm (AV.int .i64 i10))], [(1006, .box [.imm (AV.int .i64 i11), .imm (AV.int .i64 i12), .imm (AV.int .i64 i13)])]⟩) (fun (b1 : Bool) => K .ret ⟨[(2, .imm (AV.bool b1))], []⟩) (fun (s5 : List UInt8) (l4 : List AV) (i16 : Int) (i17 : Int) (i18 : Int) (i19 : Int) (i20 : Int) => K (.exit 2) ⟨[(0, .imm (AV.bytes s5)), (3, .imm (AV.row 3 l4)), (6, .ptr 1006 0 0), (37, .imm (AV.int .i64 i16)), (38, .imm (AV.int .i64 i17))], [(1006, .box [.imm (AV.int .i64 i18), .imm (AV.int .i64 i19), .imm (AV.int .i64 i20)])]⟩) s4 l3 i7 i8 i9 i10 i11 i12 i13 := by
  kernel_rfl
theorem law02LinesTile_L2_eq (R : Nat → List AV → Option Res) (N : Nat) (K : Ex → St → Option Res) : ∀ (n : Nat) (s4 : List UInt8) (l3 : List AV) (i7 : Int) (i8 : Int) (i9 : Int) (i10 : Int) (i11 : Int) (i12 : Int) (i13 : Int),
    rounds [0, 3, 5, 6, 8, 37, 38] [1006] (evC gl R N law02LinesTile_c0) K n ⟨[(0, .imm (AV.bytes s4)), (3, .imm (AV.row 3 l3)), (5, .imm (AV.int .i64 i7)), (6, .ptr 1006 0 0), (8, .imm (AV.int .i64 i8)), (37, .imm (AV.int .i64 i9)), (38, .imm (AV.int .i64 i10))], [(1006, .box [.imm (AV.int .i64 i11), .imm (AV.int .i64 i12), .imm (AV.int .i64 i13)])]⟩ = law02LinesTile_L2 R N (fun (b1 : Bool) => K .ret ⟨[(2, .imm (AV.bool b1))], []⟩) (fun (s5 : List UInt8) (l4 : List AV) (i16 : Int) (i17 : Int) (i18 : Int) (i19 : Int) (i20 : Int) => K (.exit 2) ⟨[(0, .imm (AV.bytes s5)), (3, .imm (AV.row 3 l4)), (6, .ptr 1006 0 0), (37, .imm (AV.int .i64 i16)), (38, .imm (AV.int .i64 i17))], [(1006, .box [.imm (AV.int .i64 i18), .imm (AV.int .i64 i19), .imm (AV.int .i64 i20)])]⟩) n s4 l3 i7 i8 i9 i10 i11 i12 i13
  | 0, _, _, _, _, _, _, _, _, _ => rfl
  | n + 1, s4, l3, i7, i8, i9, i10, i11, i12, i13 => (law02LinesTile_L2s_eq R N K (rounds [0, 3, 5, 6, 8, 37, 38] [1006] (evC gl R N law02LinesTile_c0) K n) s4 l3 i7 i8 i9 i10 i11 i12 i13).trans
      (congrArg (fun go => law02LinesTile_L2s R N go (fun (b1 : Bool) => K .ret ⟨[(2, .imm (AV.bool b1))], []⟩) (fun (s5 : List UInt8) (l4 : List AV) (i16 : Int) (i17 : Int) (i18 : Int) (i19 : Int) (i20 : Int) => K (.exit 2) ⟨[(0, .imm (AV.bytes s5)), (3, .imm (AV.row 3 l4)), (6, .ptr 1006 0 0), (37, .imm (AV.int .i64 i16)), (38, .imm (AV.int .i64 i17))], [(1006, .box [.imm (AV.int .i64 i18), .imm (AV.int .i64 i19), .imm (AV.int .i64 i20)])]⟩) s4 l3 i7 i8 i9 i10 i11 i12 i13) (funext fun s4 => funext fun l3 => funext fun i7 => funext fun i8 => funext fun i9 => funext fun i10 => funext fun i11 => funext fun i12 => funext fun i13 => law02LinesTile_L2_eq R N K n s4 l3 i7 i8 i9 i10 i11 i12 i13))
def law02LinesTile_L1s (R : Nat → List AV → Option Res) (N : Nat) (go : List UInt8 → List AV → Int → Int → Int → Option Res) (k0 : Bool → Option Res) (k1 : List UInt8 → Int → Option Res) (s3 : List UInt8) (l2 : List AV) (i1 : Int) (i2 : Int) (i3 : Int) : Option Res :=
  bif decide ((i3 : Int) < i2) then
    (need (decide (0 ≤ (i3 : Int))) <|
    (l2[Int.toNat i3]?).bind fun e1 =>
    asIIIA e1 fun i4 i5 i6 =>
    bif (i4 : Int) != i1 then
      (k0 false)
    else
      bif decide ((i5 : Int) < i4) then
        (k0 false)
      else
        bif decide ((i6 : Int) < i5) then
          (k0 false)
        else
          bif decide ((i6 : Int) > ((s3.length : Nat) : Int)) then
            (k0 false)
          else
            bif (i6 : Int) == i4 then
              (k0 false)
            else
              need (decide (0 ≤ (i6 : Int)) && decide ((i6 : Int) ≤ ((s3.length : Nat) : Int))) <|
              need (decide (0 ≤ (i5 : Int)) && decide ((i5 : Int) ≤ ((Int.toNat i6 : Nat) : Int))) <|
              bif !(((s3.take (Int.toNat i6)).drop (Int.toNat i5)) == ([10] : List UInt8)) then
                (bif !(((s3.take (Int.toNat i6)).drop (Int.toNat i5)) == ([13, 10] : List UInt8)) then
                  (bif !(((s3.take (Int.toNat i6)).drop (Int.toNat i5)) == ([] : List UInt8)) then
                    (k0 false)
                  else
                    bif decide (((IntKind.i64.wrap (i3 + 1)) : Int) < ((l2.length : Nat) : Int)) then
                      (k0 false)
                    else
                      law02LinesTile_L2 R N
                        (fun b3 =>
                          k0 b3)
                        (fun s7 l6 i26 i27 i28 i29 i30 =>
                          go s7 l6 i30 i26 (IntKind.i64.wrap (i27 + 1)))
                        N s3 l2 i3 i4 i2 i3 i4 i5 i6)
                else
                  law02LinesTile_L2 R N
                    (fun b4 =>
                      k0 b4)
                    (fun s8 l7 i31 i32 i33 i34 i35 =>
                      go s8 l7 i35 i31 (IntKind.i64.wrap (i32 + 1)))
                    N s3 l2 i3 i4 i2 i3 i4 i5 i6)
              else
                law02LinesTile_L2 R N
                  (fun b5 =>
                    k0 b5)
                  (fun s9 l8 i36 i37 i38 i39 i40 =>
                    go s9 l8 i40 i36 (IntKind.i64.wrap (i37 + 1)))
                  N s3 l2 i3 i4 i2 i3 i4 i5 i6)
  else
    k1 s3 i1
def law02LinesTile_L1 (R : Nat → List AV → Option Res) (N : Nat) (k0 : Bool → Option Res) (k1 : List UInt8 → Int → Option Res) : Nat → List UInt8 → List AV → Int → Int → Int → Option Res
  | 0, _, _, _, _, _ => none
  | n + 1, s3, l2, i1, i2, i3 => law02LinesTile_L1s R N (law02LinesTile_L1 R N k0 k1 n) k0 k1 s3 l2 i1 i2 i3
def law02LinesTile_c1 : AC := .region [.op (some 131) none (.faddr (.t 6) 2), .op (some 132) none (.load (.t 131) none (.int .i64)), .op (some 4) none (.mv (.t 132))]
def law02LinesTile_c2 : AC := .region [.op (some 133) none (.bin .add (.t 38) (.k (AV.int .i64 1))), .op (some 38) none (.mv (.t 133))]
def law02LinesTile_c3 : AC := .seq (.region [.op (some 39) none (.bin .lss (.t 38) (.t 37))]) (.seq (.cond (.t 39) (.skip) (.exit 0 [0, 4] [])) (.seq (.block 1 (.seq (.region [.op (some 40) none (.mv (.t 38)), .op (some 5) none (.mv (.t 40))]) (.seq (.region [.op (some 41) none (.mv (.t 3)), .op (some 42) none (.mv (.t 5)), .op (some 43) none (.iaddr (.t 41) (.t 42) 3 (.agg [.int .i64, .int .i64, .int .i64])), .op (some 44) none (.load (.t 43) (some 3) (.agg [.int .i64, .int .i64, .int .i64])), .op (some 6) none (.alloc 1006 [AV.int .i64 0, AV.int .i64 0, AV.int .i64 0]), .op none none (.store (.t 6) (.t 44) 3)]) (.seq (.seq (.region [.op (some 45) none (.faddr (.t 6) 0), .op (some 46) none (.load (.t 45) none (.int .i64)), .op (some 47) none (.mv (.t 4)), .op (some 48) none (.bin .neq (.t 46) (.t 47)), .op (some 49) none (.mv (.t 48)), .split 49, .op (some 50) (some (49, false)) (.faddr (.t 6) 1), .op (some 51) (some (49, false)) (.load (.t 50) none (.int .i64)), .op (some 52) (some (49, false)) (.faddr (.t 6) 0), .op (some 53) (some (49, false)) (.load (.t 52) none (.int .i64)), .op (some 54) (some (49, false)) (.bin .lss (.t 51) (.t 53)), .op (some 55) none (.pick (.t 49) (.k (AV.bool true)) (.t 54)), .op (some 56) none (.mv (.t 55)), .split 56, .op (some 57) (some (56, false)) (.faddr (.t 6) 2), .op (some 58) (some (56, false)) (.load (.t 57) none (.int .i64)), .op (some 59) (some (56, false)) (.faddr (.t 6) 1), .op (some 60) (some (56, false)) (.load (.t 59) none (.int .i64)), .op (some 61) (some (56, false)) (.bin .lss (.t 58) (.t 60)), .op (some 62) none (.pick (.t 56) (.k (AV.bool true)) (.t 61)), .op (some 63) none (.mv (.t 62)), .split 63, .op (some 64) (some (63, false)) (.faddr (.t 6) 2), .op (some 65) (some (63, false)) (.load (.t 64) none (.int .i64)), .op (some 66) (some (63, false)) (.mv (.t 0)), .op (some 67) (some (63, false)) (.len (.t 66) false), .op (some 68) (some (63, false)) (.bin .gtr (.t 65) (.t 67)), .op (some 69) none (.pick (.t 63) (.k (AV.bool true)) (.t 68)), .op (some 70) none (.mv (.t 69)), .split 70, .op (some 71) (some (70, false)) (.faddr (.t 6) 2), .op (some 72) (some (70, false)) (.load (.t 71) none (.int .i64)), .op (some 73) (some (70, false)) (.faddr (.t 6) 0), .op (some 74) (some (70, false)) (.load (.t 73) none (.int .i64)), .op (some 75) (some (70, false)) (.bin .eql (.t 72) (.t 74)), .op (some 76) none (.pick (.t 70) (.k (AV.bool true)) (.t 75))]) (.cond (.t 76) (.seq (.region [.op (some 2) none (.mv (.k (AV.bool false)))]) (.ret [2] [])) (.skip))) (.seq (.region [.op (some 77) none (.mv (.t 0)), .op (some 78) none (.faddr (.t 6) 1), .op (some 79) none (.load (.t 78) none (.int .i64)), .op (some 80) none (.faddr (.t 6) 2), .op (some 81) none (.load (.t 80) none (.int .i64)), .op (some 82) none (.slice (.t 77) (some (.t 79)) (some (.t 81)) 1), .op (some 83) none (.cvStr (.t 82)), .op (some 7) none (.mv (.t 83))]) (.seq (.seq (.region [.op (some 84) none (.mv (.t 7)), .op (some 85) none (.bin .neq (.t 84) (.k (AV.str ([10] : List UInt8)))), .op (some 86) none (.mv (.t 85)), .split 86, .op (some 87) (some (86, true)) (.mv (.t 7)), .op (some 88) (some (86, true)) (.bin .neq (.t 87) (.k (AV.str ([13, 10] : List UInt8)))), .op (some 89) none (.pick (.t 86) (.t 88) (.k (AV.bool false))), .op (some 90) none (.mv (.t 89)), .split 90, .op (some 91) (some (90, true)) (.mv (.t 7)), .op (some 92) (some (90, true)) (.bin .neq (.t 91) (.k (AV.str ([] : List UInt8)))), .op (some 93) (some (90, true)) (.mv (.t 92)), .split 93, .op (some 94) (some (93, false)) (.mv (.t 5)), .op (some 95) (some (93, false)) (.bin .add (.t 94) (.k (AV.int .i64 1))), .op (some 96) (some (93, false)) (.mv (.t 3)), .op (some 97) (some (93, false)) (.len (.t 96) false), .op (some 98) (some (93, false)) (.bin .lss (.t 95) (.t 97)), .op (some 99) (some (90, true)) (.pick (.t 93) (.k (AV.bool true)) (.t 98)), .op (some 100) none (.pick (.t 90) (.t 99) (.k (AV.bool false)))]) (.cond (.t 100) (.seq (.region [.op (some 2) none (.mv (.k (AV.bool false)))]) (.ret [2] [])) (.skip))) (.seq (.seq (.region [.op (some 101) none (.faddr (.t 6) 0), .op (some 102) none (.load (.t 101) none (.int .i64)), .op (some 8) none (.mv (.t 102))]) (.block 2 (.loop [0, 3, 5, 6, 8, 37, 38] [1006] (law02LinesTile_c0)))) (law02LinesTile_c1)))))))) (law02LinesTile_c2)))
theorem law02LinesTile_L1s_eq (R : Nat → List AV → Option Res) (N : Nat) (K : Ex → St → Option Res) (W : St → Option Res) (s3 : List UInt8) (l2 : List AV) (i1 : Int) (i2 : Int) (i3 : Int) :
    evC gl R N law02LinesTile_c3 (Kseq (fun st' => W (prune [0, 3, 4, 37, 38] [] st')) K) ⟨[(0, .imm (AV.bytes s3)), (3, .imm (AV.row 3 l2)), (4, .imm (AV.int .i64 i1)), (37, .imm (AV.int .i64 i2)), (38, .imm (AV.int .i64 i3))], []⟩ =
    law02LinesTile_L1s R N (fun (s3 : List UInt8) (l2 : List AV) (i1 : Int) (i2 : Int) (i3 : Int) => W ⟨[(0, .imm (AV.bytes s3)), (3, .imm (AV.row 3 l2)), (4, .imm (AV.int .i64 i1)), (37, .imm (AV.int .i64 i2)), (38, .imm (AV.int .i64 i3))], []⟩) (fun (b6 : Bool) => K .ret ⟨[(2, .imm (AV.bool b6))], []⟩) (fun (s10 : List UInt8) (i41 : Int) => K (.exit 0) ⟨[(0, .imm (AV.bytes s10)), (4, .imm (AV.int .i64 i41))], []⟩) s3 l2 i1 i2 i3 := by
  refine Eq.trans (b :=
      bif decide ((i3 : Int) < i2) then
        (need (decide (0 ≤ (i3 : Int))) <|
        (l2[Int.toNat i3]?).bind fun e1 =>
        asIIIA e1 fun i4 i5 i6 =>
        bif (i4 : Int) != i1 then
          ((fun (b7 : Bool) => K .ret ⟨[(2, .imm (AV.bool b7))], []⟩) false)
        else
          bif decide ((i5 : Int) < i4) then
            ((fun (b7 : Bool) => K .ret ⟨[(2, .imm (AV.bool b7))], []⟩) false)
          else
            bif decide ((i6 : Int) < i5) then
              ((fun (b7 : Bool) => K .ret ⟨[(2, .imm (AV.bool b7))], []⟩) false)
            else
              bif decide ((i6 : Int) > ((s3.length : Nat) : Int)) then
                ((fun (b7 : Bool) => K .ret ⟨[(2, .imm (AV.bool b7))], []⟩) false)
              else
                bif (i6 : Int) == i4 then
                  ((fun (b7 : Bool) => K .ret ⟨[(2, .imm (AV.bool b7))], []⟩) false)
                else
                  need (decide (0 ≤ (i6 : Int)) && decide ((i6 : Int) ≤ ((s3.length : Nat) : Int))) <|
                  need (decide (0 ≤ (i5 : Int)) && decide ((i5 : Int) ≤ ((Int.toNat i6 : Nat) : Int))) <|
                  bif !(((s3.take (Int.toNat i6)).drop (Int.toNat i5)) == ([10] : List UInt8)) then
                    (bif !(((s3.take (Int.toNat i6)).drop (Int.toNat i5)) == ([13, 10] : List UInt8)) then
                      (bif !(((s3.take (Int.toNat i6)).drop (Int.toNat i5)) == ([] : List UInt8)) then
                        ((fun (b7 : Bool) => K .ret ⟨[(2, .imm (AV.bool b7))], []⟩) false)
                      else
                        bif decide (((IntKind.i64.wrap (i3 + 1)) : Int) < ((l2.length : Nat) : Int)) then
                          ((fun (b7 : Bool) => K .ret ⟨[(2, .imm (AV.bool b7))], []⟩) false)
                        else
                          rounds [0, 3, 5, 6, 8, 37, 38] [1006] (evC gl R N law02LinesTile_c0) (Kblock 2 (Kthen gl R N law02LinesTile_c1 (Kblock 1 (Kthen gl R N law02LinesTile_c2 (Kseq (fun st' => W (prune [0, 3, 4, 37, 38] [] st')) K))))) N ⟨[(0, .imm (AV.bytes s3)), (3, .imm (AV.row 3 l2)), (5, .imm (AV.int .i64 i3)), (6, .ptr 1006 0 0), (8, .imm (AV.int .i64 i4)), (37, .imm (AV.int .i64 i2)), (38, .imm (AV.int .i64 i3))], [(1006, .box [.imm (AV.int .i64 i4), .imm (AV.int .i64 i5), .imm (AV.int .i64 i6)])]⟩)
                    else
                      rounds [0, 3, 5, 6, 8, 37, 38] [1006] (evC gl R N law02LinesTile_c0) (Kblock 2 (Kthen gl R N law02LinesTile_c1 (Kblock 1 (Kthen gl R N law02LinesTile_c2 (Kseq (fun st' => W (prune [0, 3, 4, 37, 38] [] st')) K))))) N ⟨[(0, .imm (AV.bytes s3)), (3, .imm (AV.row 3 l2)), (5, .imm (AV.int .i64 i3)), (6, .ptr 1006 0 0), (8, .imm (AV.int .i64 i4)), (37, .imm (AV.int .i64 i2)), (38, .imm (AV.int .i64 i3))], [(1006, .box [.imm (AV.int .i64 i4), .imm (AV.int .i64 i5), .imm (AV.int .i64 i6)])]⟩)
                  else
                    rounds [0, 3, 5, 6, 8, 37, 38] [1006] (evC gl R N law02LinesTile_c0) (Kblock 2 (Kthen gl R N law02LinesTile_c1 (Kblock 1 (Kthen gl R N law02LinesTile_c2 (Kseq (fun st' => W (prune [0, 3, 4, 37, 38] [] st')) K))))) N ⟨[(0, .imm (AV.bytes s3)), (3, .imm (AV.row 3 l2)), (5, .imm (AV.int .i64 i3)), (6, .ptr 1006 0 0), (8, .imm (AV.int .i64 i4)), (37, .imm (AV.int .i64 i2)), (38, .imm (AV.int .i64 i3))], [(1006, .box [.imm (AV.int .i64 i4), .imm (AV.int .i64 i5), .imm (AV.int .i64 i6)])]⟩)
      else
        (fun (s11 : List UInt8) (i42 : Int) => K (.exit 0) ⟨[(0, .imm (AV.bytes s11)), (4, .imm (AV.int .i64 i42))], []⟩) s3 i1) (by kernel_rfl) ?_
  simp (config := { maxSteps := 100000000 }) only [law02LinesTile_L2_eq]
  kernel_rfl
theorem law02LinesTile_L1_eq (R : Nat → List AV → Option Res) (N : Nat) (K : Ex → St → Option Res) : ∀ (n : Nat) (s3 : List UInt8) (l2 : List AV) (i1 : Int) (i2 : Int) (i3 : Int),
    rounds [0, 3, 4, 37, 38] [] (evC gl R N law02LinesTile_c3) K n ⟨[(0, .imm (AV.bytes s3)), (3, .imm (AV.row 3 l2)), (4, .imm (AV.int .i64 i1)), (37, .imm (AV.int .i64 i2)), (38, .imm (AV.int .i64 i3))], []⟩ = law02LinesTile_L1 R N (fun (b6 : Bool) => K .ret ⟨[(2, .imm (AV.bool b6))], []⟩) (fun (s10 : List UInt8) (i41 : Int) => K (.exit 0) ⟨[(0, .imm (AV.bytes s10)), (4, .imm (AV.int .i64 i41))], []⟩) n s3 l2 i1 i2 i3
  | 0, _, _, _, _, _ => rfl
  | n + 1, s3, l2, i1, i2, i3 => (law02LinesTile_L1s_eq R N K (rounds [0, 3, 4, 37, 38] [] (evC gl R N law02LinesTile_c3) K n) s3 l2 i1 i2 i3).trans
      (congrArg (fun go => law02LinesTile_L1s R N go (fun (b6 : Bool) => K .ret ⟨[(2, .imm (AV.bool b6))], []⟩) (fun (s10 : List UInt8) (i41 : Int) => K (.exit 0) ⟨[(0, .imm (AV.bytes s10)), (4, .imm (AV.int .i64 i41))], []⟩) s3 l2 i1 i2 i3) (funext fun s3 => funext fun l2 => funext fun i1 => funext fun i2 => funext fun i3 => law02LinesTile_L1_eq R N K n s3 l2 i1 i2 i3))
def law02LinesTile_c4 : AC := .seq (.region [.op (some 134) none (.mv (.t 4)), .op (some 135) none (.mv (.t 0)), .op (some 136) none (.len (.t 135) false), .op (some 137) none (.bin .eql (.t 134) (.t 136)), .op (some 138) none (.mv (.t 137)), .split 138, .op (some 139) (some (138, true)) (.call id_law02Wakes [] (.bool)), .op (some 140) none (.pick (.t 138) (.t 139) (.k (AV.bool false))), .op (some 2) none (.mv (.t 140))]) (.ret [2] [])
def law02LinesTile_c5 : AC := .seq (.region [.op (some 2) none (.mv (.k (AV.bool false)))]) (.seq (.region [.op (some 11) none (.mv (.t 0)), .op (some 12) none (.call id_keepCutByte [.t 11, .k (AV.int .i64 300)] (.bytes)), .op (some 0) none (.mv (.t 12))]) (.seq (.region [.op (some 13) none (.mv (.t 0)), .op (some 14) none (.call id_linesSplit [.t 13] (.row 3)), .op (some 3) none (.mv (.t 14))]) (.seq (.region [.op (some 4) none (.mv (.k (AV.int .i64 0)))]) (.seq (.seq (.region [.op (some 15) none (.mv (.t 0)), .op (some 16) none (.len (.t 15) false), .op (some 17) none (.bin .geq (.t 16) (.k (AV.int .i64 3))), .op (some 18) none (.mv (.t 17)), .split 18, .op (some 19) (some (18, true)) (.mv (.t 0)), .op (some 20) (some (18, true)) (.iaddr (.t 19) (.k (AV.int .i64 0)) 1 (.int .u8)), .op (some 21) (some (18, true)) (.load (.t 20) none (.int .u8)), .op (some 22) (some (18, true)) (.bin .eql (.t 21) (.k (AV.int .u8 239))), .op (some 23) none (.pick (.t 18) (.t 22) (.k (AV.bool false))), .op (some 24) none (.mv (.t 23)), .split 24, .op (some 25) (some (24, true)) (.mv (.t 0)), .op (some 26) (some (24, true)) (.iaddr (.t 25) (.k (AV.int .i64 1)) 1 (.int .u8)), .op (some 27) (some (24, true)) (.load (.t 26) none (.int .u8)), .op (some 28) (some (24, true)) (.bin .eql (.t 27) (.k (AV.int .u8 187))), .op (some 29) none (.pick (.t 24) (.t 28) (.k (AV.bool false))), .op (some 30) none (.mv (.t 29)), .split 30, .op (some 31) (some (30, true)) (.mv (.t 0)), .op (some 32) (some (30, true)) (.iaddr (.t 31) (.k (AV.int .i64 2)) 1 (.int .u8)), .op (some 33) (some (30, true)) (.load (.t 32) none (.int .u8)), .op (some 34) (some (30, true)) (.bin .eql (.t 33) (.k (AV.int .u8 191))), .op (some 35) none (.pick (.t 30) (.t 34) (.k (AV.bool false)))]) (.cond (.t 35) (.region [.op (some 4) none (.mv (.k (AV.int .i64 3)))]) (.skip))) (.seq (.seq (.region [.op (some 36) none (.mv (.t 3)), .op (some 37) none (.len (.t 36) false), .op (some 38) none (.mv (.k (AV.int .i64 0)))]) (.block 0 (.loop [0, 3, 4, 37, 38] [] (law02LinesTile_c3)))) (law02LinesTile_c4))))))
def law02LinesTile : AFunc := ⟨1, 141, [.tmp 2], law02LinesTile_c5⟩
def law02LinesTiler (R : Nat → List AV → Option Res) (N : Nat) (s1 : List UInt8) : Option Res :=
  (R id_keepCutByte [AV.bytes s1, AV.int .i64 300]).bind fun r1 =>
  asY r1.v fun s2 =>
  (R id_linesSplit [AV.bytes s2]).bind fun r2 =>
  asR 3 r2.v fun l1 =>
  bif decide ((((s2.length : Nat) : Int) : Int) ≥ 3) then
    (need (decide (0 ≤ (0 : Int))) <|
    (s2[Int.toNat 0]?).bind fun c1 =>
    bif ((c1.toNat : Int) : Int) == 239 then
      (need (decide (0 ≤ (1 : Int))) <|
      (s2[Int.toNat 1]?).bind fun c2 =>
      bif ((c2.toNat : Int) : Int) == 187 then
        (need (decide (0 ≤ (2 : Int))) <|
        (s2[Int.toNat 2]?).bind fun c3 =>
        bif ((c3.toNat : Int) : Int) == 191 then
          (law02LinesTile_L1 R N
            (fun b8 =>
              some ⟨AV.bool b8, false, []⟩)
            (fun s12 i43 =>
              bif (i43 : Int) == ((s12.length : Nat) : Int) then
                ((R id_law02Wakes []).bind fun r4 =>
                asB r4.v fun b9 =>
                some ⟨AV.bool b9, false, []⟩)
              else
                some ⟨AV.bool false, false, []⟩)
            N s2 l1 3 ((l1.length : Nat) : Int) 0)
        else
          law02LinesTile_L1 R N
            (fun b10 =>
              some ⟨AV.bool b10, false, []⟩)
            (fun s13 i44 =>
              bif (i44 : Int) == ((s13.length : Nat) : Int) then
                ((R id_law02Wakes []).bind fun r5 =>
                asB r5.v fun b11 =>
                some ⟨AV.bool b11, false, []⟩)
              else
                some ⟨AV.bool false, false, []⟩)
            N s2 l1 0 ((l1.length : Nat) : Int) 0)
      else
        law02LinesTile_L1 R N
          (fun b12 =>
            some ⟨AV.bool b12, false, []⟩)
          (fun s14 i45 =>
            bif (i45 : Int) == ((s14.length : Nat) : Int) then
              ((R id_law02Wakes []).bind fun r6 =>
              asB r6.v fun b13 =>
              some ⟨AV.bool b13, false, []⟩)
            else
              some ⟨AV.bool false, false, []⟩)
          N s2 l1 0 ((l1.length : Nat) : Int) 0)
    else
      law02LinesTile_L1 R N
        (fun b14 =>
          some ⟨AV.bool b14, false, []⟩)
        (fun s15 i46 =>
          bif (i46 : Int) == ((s15.length : Nat) : Int) then
            ((R id_law02Wakes []).bind fun r7 =>
            asB r7.v fun b15 =>
            some ⟨AV.bool b15, false, []⟩)
          else
            some ⟨AV.bool false, false, []⟩)
        N s2 l1 0 ((l1.length : Nat) : Int) 0)
  else
    law02LinesTile_L1 R N
      (fun b16 =>
        some ⟨AV.bool b16, false, []⟩)
      (fun s16 i47 =>
        bif (i47 : Int) == ((s16.length : Nat) : Int) then
          ((R id_law02Wakes []).bind fun r8 =>
          asB r8.v fun b17 =>
          some ⟨AV.bool b17, false, []⟩)
        else
          some ⟨AV.bool false, false, []⟩)
      N s2 l1 0 ((l1.length : Nat) : Int) 0
theorem law02LinesTile_eq (R : Nat → List AV → Option Res) (N : Nat) (s1 : List UInt8) : runF gl R N law02LinesTile [AV.bytes s1] = law02LinesTiler R N s1 := by
  refine Eq.trans (b :=
      (R id_keepCutByte [AV.bytes s1, AV.int .i64 300]).bind fun r1 =>
      asY r1.v fun s2 =>
      (R id_linesSplit [AV.bytes s2]).bind fun r2 =>
      asR 3 r2.v fun l1 =>
      bif decide ((((s2.length : Nat) : Int) : Int) ≥ 3) then
        (need (decide (0 ≤ (0 : Int))) <|
        (s2[Int.toNat 0]?).bind fun c1 =>
        bif ((c1.toNat : Int) : Int) == 239 then
          (need (decide (0 ≤ (1 : Int))) <|
          (s2[Int.toNat 1]?).bind fun c2 =>
          bif ((c2.toNat : Int) : Int) == 187 then
            (need (decide (0 ≤ (2 : Int))) <|
            (s2[Int.toNat 2]?).bind fun c3 =>
            bif ((c3.toNat : Int) : Int) == 191 then
              (rounds [0, 3, 4, 37, 38] [] (evC gl R N law02LinesTile_c3) (Kblock 0 (Kthen gl R N law02LinesTile_c4 (Kret law02LinesTile.rets))) N ⟨[(0, .imm (AV.bytes s2)), (3, .imm (AV.row 3 l1)), (4, .imm (AV.int .i64 3)), (37, .imm (AV.int .i64 ((l1.length : Nat) : Int))), (38, .imm (AV.int .i64 0))], []⟩)
            else
              rounds [0, 3, 4, 37, 38] [] (evC gl R N law02LinesTile_c3) (Kblock 0 (Kthen gl R N law02LinesTile_c4 (Kret law02LinesTile.rets))) N ⟨[(0, .imm (AV.bytes s2)), (3, .imm (AV.row 3 l1)), (4, .imm (AV.int .i64 0)), (37, .imm (AV.int .i64 ((l1.length : Nat) : Int))), (38, .imm (AV.int .i64 0))], []⟩)
          else
            rounds [0, 3, 4, 37, 38] [] (evC gl R N law02LinesTile_c3) (Kblock 0 (Kthen gl R N law02LinesTile_c4 (Kret law02LinesTile.rets))) N ⟨[(0, .imm (AV.bytes s2)), (3, .imm (AV.row 3 l1)), (4, .imm (AV.int .i64 0)), (37, .imm (AV.int .i64 ((l1.length : Nat) : Int))), (38, .imm (AV.int .i64 0))], []⟩)
        else
          rounds [0, 3, 4, 37, 38] [] (evC gl R N law02LinesTile_c3) (Kblock 0 (Kthen gl R N law02LinesTile_c4 (Kret law02LinesTile.rets))) N ⟨[(0, .imm (AV.bytes s2)), (3, .imm (AV.row 3 l1)), (4, .imm (AV.int .i64 0)), (37, .imm (AV.int .i64 ((l1.length : Nat) : Int))), (38, .imm (AV.int .i64 0))], []⟩)
      else
        rounds [0, 3, 4, 37, 38] [] (evC gl R N law02LinesTile_c3) (Kblock 0 (Kthen gl R N law02LinesTile_c4 (Kret law02LinesTile.rets))) N ⟨[(0, .imm (AV.bytes s2)), (3, .imm (AV.row 3 l1)), (4, .imm (AV.int .i64 0)), (37, .imm (AV.int .i64 ((l1.length : Nat) : Int))), (38, .imm (AV.int .i64 0))], []⟩) (by kernel_rfl) ?_
  simp (config := { maxSteps := 100000000 }) only [law02LinesTile_L1_eq]
  kernel_rfl
theorem law02LinesTile_fit : fitF Try.prog law02LinesTile Try.f4 = true := by
  kernel_rfl

def table : List (Nat × AFunc) := [(id_keepCopyByte, keepCopyByte), (id_keepCutByte, keepCutByte), (id_bytesEqual, bytesEqual), (id_bytesHasPrefix, bytesHasPrefix), (id_bytesIndexByte, bytesIndexByte), (id_linesSplit, linesSplit), (id_keepWithin, keepWithin), (id_linesAt, linesAt), (id_law02Wakes, law02Wakes), (id_law02LinesAt, law02LinesAt), (id_law02LinesTile, law02LinesTile)]
theorem table_fits : Fits Try.prog table := ⟨⟨_, Try.func10, keepCopyByte_fit⟩, ⟨_, Try.func5, keepCutByte_fit⟩, ⟨_, Try.func13, bytesEqual_fit⟩, ⟨_, Try.func11, bytesHasPrefix_fit⟩, ⟨_, Try.func12, bytesIndexByte_fit⟩, ⟨_, Try.func6, linesSplit_fit⟩, ⟨_, Try.func7, keepWithin_fit⟩, ⟨_, Try.func8, linesAt_fit⟩, ⟨_, Try.func9, law02Wakes_fit⟩, ⟨_, Try.func3, law02LinesAt_fit⟩, ⟨_, Try.func4, law02LinesTile_fit⟩, trivial⟩
theorem table_fit : ∀ f F, get table f = some F → ∃ fn, Try.prog.funcs[f]? = some fn ∧ fitF Try.prog F fn = true := table_fits.get
end Go.Proofs.Ytnapopfbmdghkaa.Vf
