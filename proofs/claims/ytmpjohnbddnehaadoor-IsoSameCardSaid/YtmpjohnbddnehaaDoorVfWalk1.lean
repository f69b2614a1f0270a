/- The code of the functions that the statements reach, as our evaluator takes it, and what each of them comes to, readably: printed by a program of ours. No condition. -/
import Derived.Test.YtmpjohnbddnehaaDoorVf4
import Derived.Test.YtmpjohnbddnehaaDoorChecked
import Derived.Lib.DecodeN
namespace Go.Proofs.YtmpjohnbddnehaaDoor.Vf
set_option linter.unusedVariables false
set_option linter.unusedSimpArgs false
set_option maxRecDepth 100000

def g_maxLen : Nat := 0
def g_first : Nat := 1
def g_accept : Nat := 2
def gl : List (Nat × List AV) := [(g_first, (List.range 256).map fun c => AV.int .u8 (Lib.firstT c)), (g_accept, (List.range 32).map fun i => AV.int .u8 (bif Nat.beq (i % 2) 0 then Lib.accLo (i / 2) else Lib.accHi (i / 2))), (g_maxLen, [])]
def needSt {α : Type} (e p : AV) (off sz : Nat) (x : Option α) : Option α := need (Nat.beq p.flat.length sz && Nat.ble (off + sz) e.flat.length && p.flat.all AV.one && Nat.ble 1 sz) x
def id_bytesIndexByte : Nat := 44
def id_charsDigit : Nat := 93
def id_charsLetter : Nat := 75
def id_charsName : Nat := 48
def id_internalBytealgIndexByte : Nat := 69
def id_internalStringsliteCutPrefix : Nat := 74
def id_internalStringsliteHasPrefix : Nat := 92
def id_internalStringsliteTrimPrefix : Nat := 76
def id_isoCanon : Nat := 26
def id_isoKeyed : Nat := 79
def id_isoOrder : Nat := 60
def id_isoRight : Nat := 52
def id_isoSame : Nat := 23
def id_isoSame1 : Nat := 57
def id_isoValid : Nat := 19
def id_isoValid1 : Nat := 51
def id_keepCopyApiThing : Nat := 28
def id_keepCopyInt : Nat := 84
def id_keepCutInt : Nat := 54
def id_keepLend : Nat := 38
def id_keepText : Nat := 35
def id_keepWithin : Nat := 14
def id_law18Graph : Nat := 21
def id_law18IsoSame : Nat := 7
def id_law18Wakes : Nat := 20
def id_propsValidTag : Nat := 17
def id_ref01Escape : Nat := 81
def id_ref01Hex : Nat := 83
def id_ref01Printable : Nat := 82
def id_ref01PutDouble : Nat := 53
def id_ref01Rune : Nat := 80
def id_ref18Canon : Nat := 22
def id_ref18CanonMeet : Nat := 55
def id_ref18Same : Nat := 24
def id_ref18SameLow : Nat := 59
def id_slicesCloneIntInt : Nat := 61
def id_slicesContainsFuncScholiumApiThingScholiumApiThing : Nat := 50
def id_slicesEqualFuncScholiumApiThingScholiumApiThingScholiumApiThingScholiumApiThing : Nat := 56
def id_slicesEqualIntInt : Nat := 58
def id_slicesIndexFuncScholiumApiThingScholiumApiThing : Nat := 77
def id_slicesReverseIntInt : Nat := 85
def id_stringsBuilderCopyCheckLow : Nat := 95
def id_stringsBuilderGrow : Nat := 86
def id_stringsBuilderGrowLow : Nat := 96
def id_stringsBuilderReset : Nat := 115
def id_stringsBuilderString : Nat := 88
def id_stringsBuilderWriteString : Nat := 87
def id_stringsCutPrefix : Nat := 47
def id_stringsJoin : Nat := 65
def id_stringsTrimPrefix : Nat := 49
def id_unicodeUtf8DecodeRune : Nat := 90
def id_unicodeUtf8DecodeRuneSlow : Nat := 97
def id_unicodeUtf8ValidString : Nat := 78
def asISSRA {α : Type} (v : AV) (K : Int → List UInt8 → List UInt8 → List AV → Option α) : Option α :=
  asA v fun l1 => asC l1 fun x2 r2 => asI .i64 x2 fun a0 => asC r2 fun x3 r3 => asS x3 fun a1 => asC r3 fun x4 r4 => asS x4 fun a2 => asC r4 fun x5 r5 => asR 1 x5 fun a3 => asN r5 <| K a0 a1 a2 a3
def asSBT {α : Type} (v : AV) (K : List UInt8 → Bool → Option α) : Option α :=
  asT v fun l1 => asC l1 fun x2 r2 => asS x2 fun a0 => asC r2 fun x3 r3 => asB x3 fun a1 => asN r3 <| K a0 a1
def asJIT {α : Type} (v : AV) (K : Int → Int → Option α) : Option α :=
  asT v fun l1 => asC l1 fun x2 r2 => asI .i32 x2 fun a0 => asC r2 fun x3 r3 => asI .i64 x3 fun a1 => asN r3 <| K a0 a1
def as0T {α : Type} (v : AV) (K : Option α) : Option α :=
  asT v fun l1 => asN l1 <| K 
def asJIBT {α : Type} (v : AV) (K : Int → Int → Bool → Option α) : Option α :=
  asT v fun l1 => asC l1 fun x2 r2 => asI .i32 x2 fun a0 => asC r2 fun x3 r3 => asI .i64 x3 fun a1 => asC r3 fun x4 r4 => asB x4 fun a2 => asN r4 <| K a0 a1 a2
def asIIISRA {α : Type} (v : AV) (K : Int → Int → Int → List UInt8 → List AV → Option α) : Option α :=
  asA v fun l1 => asC l1 fun x2 r2 => asI .i64 x2 fun a0 => asC r2 fun x3 r3 => asI .i64 x3 fun a1 => asC r3 fun x4 r4 => asI .i64 x4 fun a2 => asC r4 fun x5 r5 => asS x5 fun a3 => asC r5 fun x6 r6 => asR 1 x6 fun a4 => asN r6 <| K a0 a1 a2 a3 a4

def isoKeyed_L1s (R : Nat → List AV → Option Res) (N : Nat) (go : List AV → List AV → Int → List (AV × AV) → Option Res) (k0 : Bool → Option Res) (k1 : List AV → List (AV × AV) → Option Res) (l3 : List AV) (l4 : List AV) (i1 : Int) (m1 : List (AV × AV)) : Option Res :=
  bif decide ((i1 : Int) < ((l4.length : Nat) : Int)) then
    (need (decide (0 ≤ (i1 : Int))) <|
    (l4[Int.toNat i1]?).bind fun e1 =>
    asI .i64 e1 fun i2 =>
    need (decide (0 ≤ (i2 : Int))) <|
    (l3[Int.toNat i2]?).bind fun e2 =>
    asISSRA e2 fun i3 s1 s2 l5 =>
    need (keyS (AV.agg [AV.str s1, AV.str s2]) && knownS (AV.agg [AV.str s1, AV.str s2]) m1) <|
    bif (i3 : Int) != 1 then
    (k0 false)
    else
    go l3 l4 (IntKind.i64.wrap (i1 + 2)) (incS (AV.agg [AV.str s1, AV.str s2]) m1))
  else
    k1 l4 m1
def isoKeyed_L1 (R : Nat → List AV → Option Res) (N : Nat) (k0 : Bool → Option Res) (k1 : List AV → List (AV × AV) → Option Res) : Nat → List AV → List AV → Int → List (AV × AV) → Option Res
  | 0, _, _, _, _ => none
  | n + 1, l3, l4, i1, m1 => isoKeyed_L1s R N (isoKeyed_L1 R N k0 k1 n) k0 k1 l3 l4 i1 m1
def isoKeyed_c0 : AC := .seq (.seq (.region [.op (some 9) none (.mv (.t 6)), .op (some 10) none (.mv (.t 1)), .op (some 11) none (.len (.t 10) false), .op (some 12) none (.bin .lss (.t 9) (.t 11))]) (.cond (.t 12) (.skip) (.exit 0 [1, 5] [2008]))) (.seq (.block 1 (.seq (.region [.op (some 15) none (.mv (.t 0)), .op (some 16) none (.mv (.t 1)), .op (some 17) none (.mv (.t 6)), .op (some 18) none (.iaddr (.t 16) (.t 17) 1 (.int .i64)), .op (some 19) none (.load (.t 18) none (.int .i64)), .op (some 20) none (.iaddr (.t 15) (.t 19) 4 (.agg [.int .i64, .str, .str, .row 1])), .op (some 21) none (.load (.t 20) (some 4) (.agg [.int .i64, .str, .str, .row 1])), .op (some 7) none (.alloc 1007 [AV.int .i64 0, AV.str [], AV.str [], AV.row 1 []]), .op none none (.store (.t 7) (.t 21) 4)]) (.seq (.regionI [0, 1, 5, 6, 7] [1007, 2008] [.op (some 22) none (.mv (.t 5)), .op (some 23) none (.faddr (.t 7) 1), .op (some 24) none (.load (.t 23) none (.str)), .op (some 25) none (.faddr (.t 7) 2), .op (some 26) none (.load (.t 25) none (.str)), .op (some 27) none (.build [AV.str [], AV.str []] [(0, 1, .t 24), (1, 1, .t 26)])] 28 29 30 31 (.t 22) (.t 27)) (.seq (.region [.op (some 32) none (.faddr (.t 7) 0), .op (some 33) none (.load (.t 32) none (.int .i64)), .op (some 34) none (.bin .neq (.t 33) (.k (AV.int .i64 1)))]) (.cond (.t 34) (.seq (.region [.op (some 4) none (.mv (.k (AV.bool false)))]) (.ret [4] [])) (.skip)))))) (.region [.op (some 13) none (.mv (.t 6)), .op (some 14) none (.bin .add (.t 13) (.k (AV.int .i64 2))), .op (some 6) none (.mv (.t 14))]))
theorem isoKeyed_L1s_eq (R : Nat → List AV → Option Res) (N : Nat) (K : Ex → St → Option Res) (W : St → Option Res) (l3 : List AV) (l4 : List AV) (i1 : Int) (m1 : List (AV × AV)) :
    evC gl R N isoKeyed_c0 (Kseq (fun st' => W (prune [0, 1, 5, 6] [2008] st')) K) ⟨[(0, .imm (AV.row 4 l3)), (1, .imm (AV.row 1 l4)), (5, .mp 2008), (6, .imm (AV.int .i64 i1))], [(2008, .map m1)]⟩ =
    isoKeyed_L1s R N (fun (l3 : List AV) (l4 : List AV) (i1 : Int) (m1 : List (AV × AV)) => W ⟨[(0, .imm (AV.row 4 l3)), (1, .imm (AV.row 1 l4)), (5, .mp 2008), (6, .imm (AV.int .i64 i1))], [(2008, .map m1)]⟩) (fun (b1 : Bool) => K .ret ⟨[(4, .imm (AV.bool b1))], []⟩) (fun (l6 : List AV) (m2 : List (AV × AV)) => K (.exit 0) ⟨[(1, .imm (AV.row 1 l6)), (5, .mp 2008)], [(2008, .map m2)]⟩) l3 l4 i1 m1 := by
  kernel_rfl
theorem isoKeyed_L1_eq (R : Nat → List AV → Option Res) (N : Nat) (K : Ex → St → Option Res) : ∀ (n : Nat) (l3 : List AV) (l4 : List AV) (i1 : Int) (m1 : List (AV × AV)),
    rounds [0, 1, 5, 6] [2008] (evC gl R N isoKeyed_c0) K n ⟨[(0, .imm (AV.row 4 l3)), (1, .imm (AV.row 1 l4)), (5, .mp 2008), (6, .imm (AV.int .i64 i1))], [(2008, .map m1)]⟩ = isoKeyed_L1 R N (fun (b1 : Bool) => K .ret ⟨[(4, .imm (AV.bool b1))], []⟩) (fun (l6 : List AV) (m2 : List (AV × AV)) => K (.exit 0) ⟨[(1, .imm (AV.row 1 l6)), (5, .mp 2008)], [(2008, .map m2)]⟩) n l3 l4 i1 m1
  | 0, _, _, _, _ => rfl
  | n + 1, l3, l4, i1, m1 => (isoKeyed_L1s_eq R N K (rounds [0, 1, 5, 6] [2008] (evC gl R N isoKeyed_c0) K n) l3 l4 i1 m1).trans
      (congrArg (fun go => isoKeyed_L1s R N go (fun (b1 : Bool) => K .ret ⟨[(4, .imm (AV.bool b1))], []⟩) (fun (l6 : List AV) (m2 : List (AV × AV)) => K (.exit 0) ⟨[(1, .imm (AV.row 1 l6)), (5, .mp 2008)], [(2008, .map m2)]⟩) l3 l4 i1 m1) (funext fun l3 => funext fun l4 => funext fun i1 => funext fun m1 => isoKeyed_L1_eq R N K n l3 l4 i1 m1))
def isoKeyed_c1 : AC := .seq (.region [.op (some 35) none (.mv (.t 1)), .op (some 36) none (.len (.t 35) false), .op (some 37) none (.bin .rem (.t 36) (.k (AV.int .i64 2))), .op (some 38) none (.bin .eql (.t 37) (.k (AV.int .i64 0))), .op (some 39) none (.mv (.t 38)), .split 39, .op (some 40) (some (39, true)) (.mv (.t 5)), .op (some 41) (some (39, true)) (.lenM (.t 40)), .op (some 42) (some (39, true)) (.mv (.t 1)), .op (some 43) (some (39, true)) (.len (.t 42) false), .op (some 44) (some (39, true)) (.bin .quo (.t 43) (.k (AV.int .i64 2))), .op (some 45) (some (39, true)) (.bin .eql (.t 41) (.t 44)), .op (some 46) none (.pick (.t 39) (.t 45) (.k (AV.bool false))), .op (some 4) none (.mv (.t 46))]) (.ret [4] [])
def isoKeyed_c2 : AC := .seq (.region [.op (some 4) none (.mv (.k (AV.bool false)))]) (.seq (.region [.op (some 8) none (.mkMap 2008), .op (some 5) none (.mv (.t 8))]) (.seq (.seq (.region [.op (some 6) none (.mv (.k (AV.int .i64 0)))]) (.block 0 (.loop [0, 1, 5, 6] [2008] (isoKeyed_c0)))) (isoKeyed_c1)))
def isoKeyed : AFunc := ⟨2, 47, [.tmp 4], isoKeyed_c2⟩
def isoKeyedr (R : Nat → List AV → Option Res) (N : Nat) (l1 : List AV) (l2 : List AV) : Option Res :=
  isoKeyed_L1 R N
    (fun b3 =>
    some ⟨AV.bool b3, false, []⟩)
    (fun l8 m4 =>
    need (!decide (2 = 0)) <|
    bif ((Int.tmod ((l8.length : Nat) : Int) 2) : Int) == 0 then
    (need (!decide (2 = 0)) <|
    some ⟨AV.bool ((((m4.length : Nat) : Int) : Int) == (IntKind.i64.wrap (Int.tdiv ((l8.length : Nat) : Int) 2))), false, []⟩)
    else
    some ⟨AV.bool false, false, []⟩)
    N l1 l2 0 []
theorem isoKeyed_eq (R : Nat → List AV → Option Res) (N : Nat) (l1 : List AV) (l2 : List AV) : runF gl R N isoKeyed [AV.row 4 l1, AV.row 1 l2] = isoKeyedr R N l1 l2 := by
  refine Eq.trans (b :=
    rounds [0, 1, 5, 6] [2008] (evC gl R N isoKeyed_c0) (Kblock 0 (Kthen gl R N isoKeyed_c1 (Kret isoKeyed.rets []))) N ⟨[(0, .imm (AV.row 4 l1)), (1, .imm (AV.row 1 l2)), (5, .mp 2008), (6, .imm (AV.int .i64 0))], [(2008, .map [])]⟩) (by kernel_rfl) ?_
  simp (config := { maxSteps := 100000000 }) only [isoKeyed_L1_eq]
  kernel_rfl
theorem isoKeyed_fit : fitF Tryd.prog isoKeyed Tryd.f79 = true := by
  kernel_rfl

def isoRight_L1s (R : Nat → List AV → Option Res) (N : Nat) (go : List AV → List AV → Int → Int → Int → List UInt8 → List UInt8 → List AV → Option Res) (k0 : Bool → Option Res) (k1 : List AV → Int → List UInt8 → List UInt8 → List AV → Option Res) (l3 : List AV) (l4 : List AV) (i2 : Int) (i3 : Int) (i4 : Int) (s3 : List UInt8) (s4 : List UInt8) (l5 : List AV) : Option Res :=
  bif decide ((i3 : Int) < i2) then
    (need (decide (0 ≤ (i3 : Int))) <|
    (l4[Int.toNat i3]?).bind fun e1 =>
    asI .i64 e1 fun i5 =>
    bif decide ((i5 : Int) < 0) then
    (k0 false)
    else
    bif decide ((i5 : Int) ≥ ((l3.length : Nat) : Int)) then
    (k0 false)
    else
    go l3 l4 i2 (IntKind.i64.wrap (i3 + 1)) i4 s3 s4 l5)
  else
    k1 l3 i4 s3 s4 l5
def isoRight_L1 (R : Nat → List AV → Option Res) (N : Nat) (k0 : Bool → Option Res) (k1 : List AV → Int → List UInt8 → List UInt8 → List AV → Option Res) : Nat → List AV → List AV → Int → Int → Int → List UInt8 → List UInt8 → List AV → Option Res
  | 0, _, _, _, _, _, _, _, _ => none
  | n + 1, l3, l4, i2, i3, i4, s3, s4, l5 => isoRight_L1s R N (isoRight_L1 R N k0 k1 n) k0 k1 l3 l4 i2 i3 i4 s3 s4 l5
def isoRight_c0 : AC := .seq (.region [.op (some 20) none (.bin .lss (.t 19) (.t 18))]) (.seq (.cond (.t 20) (.skip) (.exit 0 [0, 3] [1003])) (.seq (.block 1 (.seq (.region [.op (some 21) none (.iaddr (.t 17) (.t 19) 1 (.int .i64)), .op (some 22) none (.load (.t 21) none (.int .i64)), .op (some 6) none (.mv (.t 22))]) (.seq (.region [.op (some 23) none (.mv (.t 6)), .op (some 24) none (.bin .lss (.t 23) (.k (AV.int .i64 0))), .op (some 25) none (.mv (.t 24)), .split 25, .op (some 26) (some (25, false)) (.mv (.t 6)), .op (some 27) (some (25, false)) (.mv (.t 0)), .op (some 28) (some (25, false)) (.len (.t 27) false), .op (some 29) (some (25, false)) (.bin .geq (.t 26) (.t 28)), .op (some 30) none (.pick (.t 25) (.k (AV.bool true)) (.t 29))]) (.cond (.t 30) (.seq (.region [.op (some 4) none (.mv (.k (AV.bool false)))]) (.ret [4] [])) (.skip))))) (.region [.op (some 31) none (.bin .add (.t 19) (.k (AV.int .i64 1))), .op (some 19) none (.mv (.t 31))])))
theorem isoRight_L1s_eq (R : Nat → List AV → Option Res) (N : Nat) (K : Ex → St → Option Res) (W : St → Option Res) (l3 : List AV) (l4 : List AV) (i2 : Int) (i3 : Int) (i4 : Int) (s3 : List UInt8) (s4 : List UInt8) (l5 : List AV) :
    evC gl R N isoRight_c0 (Kseq (fun st' => W (prune [0, 3, 17, 18, 19] [1003] st')) K) ⟨[(0, .imm (AV.row 4 l3)), (3, .ptr 1003 0 0), (17, .imm (AV.row 1 l4)), (18, .imm (AV.int .i64 i2)), (19, .imm (AV.int .i64 i3))], [(1003, .box [.imm (AV.int .i64 i4), .imm (AV.str s3), .imm (AV.str s4), .imm (AV.row 1 l5)])]⟩ =
    isoRight_L1s R N (fun (l3 : List AV) (l4 : List AV) (i2 : Int) (i3 : Int) (i4 : Int) (s3 : List UInt8) (s4 : List UInt8) (l5 : List AV) => W ⟨[(0, .imm (AV.row 4 l3)), (3, .ptr 1003 0 0), (17, .imm (AV.row 1 l4)), (18, .imm (AV.int .i64 i2)), (19, .imm (AV.int .i64 i3))], [(1003, .box [.imm (AV.int .i64 i4), .imm (AV.str s3), .imm (AV.str s4), .imm (AV.row 1 l5)])]⟩) (fun (b2 : Bool) => K .ret ⟨[(4, .imm (AV.bool b2))], []⟩) (fun (l6 : List AV) (i6 : Int) (s5 : List UInt8) (s6 : List UInt8) (l7 : List AV) => K (.exit 0) ⟨[(0, .imm (AV.row 4 l6)), (3, .ptr 1003 0 0)], [(1003, .box [.imm (AV.int .i64 i6), .imm (AV.str s5), .imm (AV.str s6), .imm (AV.row 1 l7)])]⟩) l3 l4 i2 i3 i4 s3 s4 l5 := by
  kernel_rfl
theorem isoRight_L1_eq (R : Nat → List AV → Option Res) (N : Nat) (K : Ex → St → Option Res) : ∀ (n : Nat) (l3 : List AV) (l4 : List AV) (i2 : Int) (i3 : Int) (i4 : Int) (s3 : List UInt8) (s4 : List UInt8) (l5 : List AV),
    rounds [0, 3, 17, 18, 19] [1003] (evC gl R N isoRight_c0) K n ⟨[(0, .imm (AV.row 4 l3)), (3, .ptr 1003 0 0), (17, .imm (AV.row 1 l4)), (18, .imm (AV.int .i64 i2)), (19, .imm (AV.int .i64 i3))], [(1003, .box [.imm (AV.int .i64 i4), .imm (AV.str s3), .imm (AV.str s4), .imm (AV.row 1 l5)])]⟩ = isoRight_L1 R N (fun (b2 : Bool) => K .ret ⟨[(4, .imm (AV.bool b2))], []⟩) (fun (l6 : List AV) (i6 : Int) (s5 : List UInt8) (s6 : List UInt8) (l7 : List AV) => K (.exit 0) ⟨[(0, .imm (AV.row 4 l6)), (3, .ptr 1003 0 0)], [(1003, .box [.imm (AV.int .i64 i6), .imm (AV.str s5), .imm (AV.str s6), .imm (AV.row 1 l7)])]⟩) n l3 l4 i2 i3 i4 s3 s4 l5
  | 0, _, _, _, _, _, _, _, _ => rfl
  | n + 1, l3, l4, i2, i3, i4, s3, s4, l5 => (isoRight_L1s_eq R N K (rounds [0, 3, 17, 18, 19] [1003] (evC gl R N isoRight_c0) K n) l3 l4 i2 i3 i4 s3 s4 l5).trans
      (congrArg (fun go => isoRight_L1s R N go (fun (b2 : Bool) => K .ret ⟨[(4, .imm (AV.bool b2))], []⟩) (fun (l6 : List AV) (i6 : Int) (s5 : List UInt8) (s6 : List UInt8) (l7 : List AV) => K (.exit 0) ⟨[(0, .imm (AV.row 4 l6)), (3, .ptr 1003 0 0)], [(1003, .box [.imm (AV.int .i64 i6), .imm (AV.str s5), .imm (AV.str s6), .imm (AV.row 1 l7)])]⟩) l3 l4 i2 i3 i4 s3 s4 l5) (funext fun l3 => funext fun l4 => funext fun i2 => funext fun i3 => funext fun i4 => funext fun s3 => funext fun s4 => funext fun l5 => isoRight_L1_eq R N K n l3 l4 i2 i3 i4 s3 s4 l5))
def isoRight_c1 : AC := .seq (.seq (.region [.op (some 32) none (.faddr (.t 3) 0), .op (some 33) none (.load (.t 32) none (.int .i64))]) (.block 2 (.seq (.region [.op (some 35) none (.bin .eql (.t 33) (.k (AV.int .i64 1))), .op (some 34) none (.mv (.t 35))]) (.cond (.t 34) (.seq (.region [.op (some 36) none (.faddr (.t 3) 3), .op (some 37) none (.load (.t 36) none (.row 1)), .op (some 38) none (.len (.t 37) false), .op (some 39) none (.bin .eql (.t 38) (.k (AV.int .i64 0))), .op (some 40) none (.mv (.t 39)), .split 40, .op (some 41) (some (40, true)) (.faddr (.t 3) 2), .op (some 42) (some (40, true)) (.load (.t 41) none (.str)), .op (some 43) (some (40, true)) (.call id_unicodeUtf8ValidString [.t 42] (.bool)), .op (some 44) none (.pick (.t 40) (.t 43) (.k (AV.bool false))), .op (some 4) none (.mv (.t 44))]) (.ret [4] [])) (.seq (.region [.op (some 46) none (.bin .eql (.t 33) (.k (AV.int .i64 2))), .op (some 45) none (.mv (.t 46))]) (.cond (.t 45) (.seq (.region [.op (some 47) none (.faddr (.t 3) 2), .op (some 48) none (.load (.t 47) none (.str)), .op (some 49) none (.bin .eql (.t 48) (.k (AV.str ([] : List UInt8)))), .op (some 4) none (.mv (.t 49))]) (.ret [4] [])) (.seq (.region [.op (some 51) none (.bin .eql (.t 33) (.k (AV.int .i64 3))), .op (some 50) none (.mv (.t 51))]) (.cond (.t 50) (.seq (.region [.op (some 52) none (.faddr (.t 3) 2), .op (some 53) none (.load (.t 52) none (.str)), .op (some 54) none (.bin .eql (.t 53) (.k (AV.str ([] : List UInt8)))), .op (some 55) none (.mv (.t 54)), .split 55, .op (some 56) (some (55, true)) (.mv (.t 0)), .op (some 57) (some (55, true)) (.faddr (.t 3) 3), .op (some 58) (some (55, true)) (.load (.t 57) none (.row 1)), .op (some 59) (some (55, true)) (.call id_isoKeyed [.t 56, .t 58] (.bool)), .op (some 60) none (.pick (.t 55) (.t 59) (.k (AV.bool false))), .op (some 4) none (.mv (.t 60))]) (.ret [4] [])) (.skip))))))))) (.seq (.region [.op (some 4) none (.mv (.k (AV.bool false)))]) (.ret [4] []))
def isoRight_c2 : AC := .seq (.region [.op (some 3) none (.box 1003 (.t 1) 4), .op (some 4) none (.mv (.k (AV.bool false)))]) (.seq (.seq (.region [.op (some 7) none (.faddr (.t 3) 1), .op (some 8) none (.load (.t 7) none (.str)), .op (some 9) none (.call id_propsValidTag [.t 8] (.bool)), .op (some 10) none (.un .not (.t 9)), .op (some 11) none (.mv (.t 10)), .split 11, .op (some 12) (some (11, false)) (.faddr (.t 3) 1), .op (some 13) (some (11, false)) (.load (.t 12) none (.str)), .op (some 14) (some (11, false)) (.bin .eql (.t 13) (.k (AV.str ([33] : List UInt8)))), .op (some 15) none (.pick (.t 11) (.k (AV.bool true)) (.t 14))]) (.cond (.t 15) (.seq (.region [.op (some 4) none (.mv (.k (AV.bool false)))]) (.ret [4] [])) (.skip))) (.seq (.seq (.region [.op (some 16) none (.faddr (.t 3) 3), .op (some 17) none (.load (.t 16) none (.row 1)), .op (some 18) none (.len (.t 17) false), .op (some 19) none (.mv (.k (AV.int .i64 0)))]) (.block 0 (.loop [0, 3, 17, 18, 19] [1003] (isoRight_c0)))) (isoRight_c1)))
def isoRight : AFunc := ⟨2, 61, [.tmp 4], isoRight_c2⟩
def isoRightr (R : Nat → List AV → Option Res) (N : Nat) (l1 : List AV) (i1 : Int) (s1 : List UInt8) (s2 : List UInt8) (l2 : List AV) : Option Res :=
  (R id_propsValidTag [AV.str s1]).bind fun r1 =>
  asB r1.v fun b1 =>
  bif !b1 then
    (some ⟨AV.bool false, false, []⟩)
  else
    bif s1 == ([33] : List UInt8) then
    (some ⟨AV.bool false, false, []⟩)
    else
    isoRight_L1 R N
      (fun b4 =>
    some ⟨AV.bool b4, false, []⟩)
      (fun l10 i8 s9 s10 l11 =>
    bif (i8 : Int) == 1 then
    (bif (((l11.length : Nat) : Int) : Int) == 0 then
    ((R id_unicodeUtf8ValidString [AV.str s10]).bind fun r2 =>
    asB r2.v fun b5 =>
    some ⟨AV.bool b5, false, []⟩)
    else
    some ⟨AV.bool false, false, []⟩)
    else
    bif (i8 : Int) == 2 then
    (some ⟨AV.bool (s10 == ([] : List UInt8)), false, []⟩)
    else
    bif (i8 : Int) == 3 then
    (bif s10 == ([] : List UInt8) then
    ((R id_isoKeyed [AV.row 4 l10, AV.row 1 l11]).bind fun r3 =>
    asB r3.v fun b6 =>
    some ⟨AV.bool b6, false, []⟩)
    else
    some ⟨AV.bool false, false, []⟩)
    else
    some ⟨AV.bool false, false, []⟩)
      N l1 l2 ((l2.length : Nat) : Int) 0 i1 s1 s2 l2
theorem isoRight_eq (R : Nat → List AV → Option Res) (N : Nat) (l1 : List AV) (i1 : Int) (s1 : List UInt8) (s2 : List UInt8) (l2 : List AV) : runF gl R N isoRight [AV.row 4 l1, AV.agg [AV.int .i64 i1, AV.str s1, AV.str s2, AV.row 1 l2]] = isoRightr R N l1 i1 s1 s2 l2 := by
  refine Eq.trans (b :=
    (R id_propsValidTag [AV.str s1]).bind fun r1 =>
    asB r1.v fun b1 =>
    bif !b1 then
    (some ⟨AV.bool false, false, []⟩)
    else
    bif s1 == ([33] : List UInt8) then
    (some ⟨AV.bool false, false, []⟩)
    else
    rounds [0, 3, 17, 18, 19] [1003] (evC gl R N isoRight_c0) (Kblock 0 (Kthen gl R N isoRight_c1 (Kret isoRight.rets []))) N ⟨[(0, .imm (AV.row 4 l1)), (3, .ptr 1003 0 0), (17, .imm (AV.row 1 l2)), (18, .imm (AV.int .i64 ((l2.length : Nat) : Int))), (19, .imm (AV.int .i64 0))], [(1003, .box [.imm (AV.int .i64 i1), .imm (AV.str s1), .imm (AV.str s2), .imm (AV.row 1 l2)])]⟩) (by kernel_rfl) ?_
  simp (config := { maxSteps := 100000000 }) only [isoRight_L1_eq]
  kernel_rfl
theorem isoRight_fit : fitF Tryd.prog isoRight Tryd.f52 = true := by
  kernel_rfl

def slicesEqualIntInt_L1s (R : Nat → List AV → Option Res) (N : Nat) (go : List AV → List AV → Int → Int → Option Res) (k0 : Bool → Option Res) (k1 : Option Res) (l3 : List AV) (l4 : List AV) (i1 : Int) (i2 : Int) : Option Res :=
  bif decide ((i2 : Int) < i1) then
    (need (decide (0 ≤ (i2 : Int))) <|
    (l3[Int.toNat i2]?).bind fun e1 =>
    asI .i64 e1 fun i3 =>
    need (decide (0 ≤ (i2 : Int))) <|
    (l4[Int.toNat i2]?).bind fun e2 =>
    asI .i64 e2 fun i4 =>
    bif (i3 : Int) != i4 then
    (k0 false)
    else
    go l3 l4 i1 (IntKind.i64.wrap (i2 + 1)))
  else
    k1
def slicesEqualIntInt_L1 (R : Nat → List AV → Option Res) (N : Nat) (k0 : Bool → Option Res) (k1 : Option Res) : Nat → List AV → List AV → Int → Int → Option Res
  | 0, _, _, _, _ => none
  | n + 1, l3, l4, i1, i2 => slicesEqualIntInt_L1s R N (slicesEqualIntInt_L1 R N k0 k1 n) k0 k1 l3 l4 i1 i2
def slicesEqualIntInt_c0 : AC := .seq (.region [.op (some 14) none (.bin .lss (.t 13) (.t 12))]) (.seq (.cond (.t 14) (.skip) (.exit 0 [] [])) (.seq (.block 1 (.seq (.region [.op (some 15) none (.mv (.t 13)), .op (some 5) none (.mv (.t 15))]) (.seq (.regionD [0, 1, 12, 13, 24] [] [.op (some 16) none (.mv (.t 0)), .op (some 17) none (.mv (.t 5)), .op (some 18) none (.iaddr (.t 16) (.t 17) 1 (.int .i64)), .op (some 19) none (.load (.t 18) none (.int .i64)), .op (some 20) none (.mv (.t 1)), .op (some 21) none (.mv (.t 5)), .op (some 22) none (.iaddr (.t 20) (.t 21) 1 (.int .i64)), .op (some 23) none (.load (.t 22) none (.int .i64)), .op (some 24) none (.bin .neq (.t 19) (.t 23))] []) (.cond (.t 24) (.seq (.region [.op (some 4) none (.mv (.k (AV.bool false)))]) (.ret [4] [])) (.skip))))) (.region [.op (some 25) none (.bin .add (.t 13) (.k (AV.int .i64 1))), .op (some 13) none (.mv (.t 25))])))
theorem slicesEqualIntInt_L1s_eq (R : Nat → List AV → Option Res) (N : Nat) (K : Ex → St → Option Res) (W : St → Option Res) (l3 : List AV) (l4 : List AV) (i1 : Int) (i2 : Int) :
    evC gl R N slicesEqualIntInt_c0 (Kseq (fun st' => W (prune [0, 1, 12, 13] [] st')) K) ⟨[(0, .imm (AV.row 1 l3)), (1, .imm (AV.row 1 l4)), (12, .imm (AV.int .i64 i1)), (13, .imm (AV.int .i64 i2))], []⟩ =
    slicesEqualIntInt_L1s R N (fun (l3 : List AV) (l4 : List AV) (i1 : Int) (i2 : Int) => W ⟨[(0, .imm (AV.row 1 l3)), (1, .imm (AV.row 1 l4)), (12, .imm (AV.int .i64 i1)), (13, .imm (AV.int .i64 i2))], []⟩) (fun (b1 : Bool) => K .ret ⟨[(4, .imm (AV.bool b1))], []⟩) (K (.exit 0) ⟨[], []⟩) l3 l4 i1 i2 := by
  kernel_rfl
theorem slicesEqualIntInt_L1_eq (R : Nat → List AV → Option Res) (N : Nat) (K : Ex → St → Option Res) : ∀ (n : Nat) (l3 : List AV) (l4 : List AV) (i1 : Int) (i2 : Int),
    rounds [0, 1, 12, 13] [] (evC gl R N slicesEqualIntInt_c0) K n ⟨[(0, .imm (AV.row 1 l3)), (1, .imm (AV.row 1 l4)), (12, .imm (AV.int .i64 i1)), (13, .imm (AV.int .i64 i2))], []⟩ = slicesEqualIntInt_L1 R N (fun (b1 : Bool) => K .ret ⟨[(4, .imm (AV.bool b1))], []⟩) (K (.exit 0) ⟨[], []⟩) n l3 l4 i1 i2
  | 0, _, _, _, _ => rfl
  | n + 1, l3, l4, i1, i2 => (slicesEqualIntInt_L1s_eq R N K (rounds [0, 1, 12, 13] [] (evC gl R N slicesEqualIntInt_c0) K n) l3 l4 i1 i2).trans
      (congrArg (fun go => slicesEqualIntInt_L1s R N go (fun (b1 : Bool) => K .ret ⟨[(4, .imm (AV.bool b1))], []⟩) (K (.exit 0) ⟨[], []⟩) l3 l4 i1 i2) (funext fun l3 => funext fun l4 => funext fun i1 => funext fun i2 => slicesEqualIntInt_L1_eq R N K n l3 l4 i1 i2))
def slicesEqualIntInt_c1 : AC := .seq (.region [.op (some 4) none (.mv (.k (AV.bool true)))]) (.ret [4] [])
def slicesEqualIntInt_c2 : AC := .seq (.region [.op (some 4) none (.mv (.k (AV.bool false)))]) (.seq (.seq (.region [.op (some 6) none (.mv (.t 0)), .op (some 7) none (.len (.t 6) false), .op (some 8) none (.mv (.t 1)), .op (some 9) none (.len (.t 8) false), .op (some 10) none (.bin .neq (.t 7) (.t 9))]) (.cond (.t 10) (.seq (.region [.op (some 4) none (.mv (.k (AV.bool false)))]) (.ret [4] [])) (.skip))) (.seq (.seq (.region [.op (some 11) none (.mv (.t 0)), .op (some 12) none (.len (.t 11) false), .op (some 13) none (.mv (.k (AV.int .i64 0)))]) (.block 0 (.loop [0, 1, 12, 13] [] (slicesEqualIntInt_c0)))) (slicesEqualIntInt_c1)))
def slicesEqualIntInt : AFunc := ⟨2, 26, [.tmp 4], slicesEqualIntInt_c2⟩
def slicesEqualIntIntr (R : Nat → List AV → Option Res) (N : Nat) (l1 : List AV) (l2 : List AV) : Option Res :=
  bif (((l1.length : Nat) : Int) : Int) != ((l2.length : Nat) : Int) then
    (some ⟨AV.bool false, false, []⟩)
  else
    slicesEqualIntInt_L1 R N
      (fun b3 =>
    some ⟨AV.bool b3, false, []⟩)
      (
    some ⟨AV.bool true, false, []⟩)
      N l1 l2 ((l1.length : Nat) : Int) 0
theorem slicesEqualIntInt_eq (R : Nat → List AV → Option Res) (N : Nat) (l1 : List AV) (l2 : List AV) : runF gl R N slicesEqualIntInt [AV.row 1 l1, AV.row 1 l2] = slicesEqualIntIntr R N l1 l2 := by
  refine Eq.trans (b :=
    bif (((l1.length : Nat) : Int) : Int) != ((l2.length : Nat) : Int) then
    (some ⟨AV.bool false, false, []⟩)
    else
    rounds [0, 1, 12, 13] [] (evC gl R N slicesEqualIntInt_c0) (Kblock 0 (Kthen gl R N slicesEqualIntInt_c1 (Kret slicesEqualIntInt.rets []))) N ⟨[(0, .imm (AV.row 1 l1)), (1, .imm (AV.row 1 l2)), (12, .imm (AV.int .i64 ((l1.length : Nat) : Int))), (13, .imm (AV.int .i64 0))], []⟩) (by kernel_rfl) ?_
  simp (config := { maxSteps := 100000000 }) only [slicesEqualIntInt_L1_eq]
  kernel_rfl
theorem slicesEqualIntInt_fit : fitF Tryd.prog slicesEqualIntInt Tryd.f58 = true := by
  kernel_rfl

def keepWithin_c0 : AC := .seq (.region [.op (some 4) none (.mv (.k (AV.int .i64 0)))]) (.seq (.seq (.region [.op (some 6) none (.mv (.t 1)), .op (some 7) none (.bin .lss (.t 6) (.k (AV.int .i64 1)))]) (.cond (.t 7) (.seq (.region [.op (some 4) none (.mv (.k (AV.int .i64 0)))]) (.ret [4] [])) (.skip))) (.seq (.region [.op (some 8) none (.mv (.t 0)), .op (some 9) none (.mv (.t 1)), .op (some 10) none (.bin .rem (.t 8) (.t 9)), .op (some 5) none (.mv (.t 10))]) (.seq (.seq (.region [.op (some 11) none (.mv (.t 5)), .op (some 12) none (.bin .lss (.t 11) (.k (AV.int .i64 0)))]) (.cond (.t 12) (.region [.op (some 13) none (.mv (.t 5)), .op (some 14) none (.mv (.t 1)), .op (some 15) none (.bin .add (.t 13) (.t 14)), .op (some 5) none (.mv (.t 15))]) (.skip))) (.seq (.region [.op (some 16) none (.mv (.t 5)), .op (some 4) none (.mv (.t 16))]) (.ret [4] [])))))
def keepWithin : AFunc := ⟨2, 17, [.tmp 4], keepWithin_c0⟩
def keepWithinr (R : Nat → List AV → Option Res) (N : Nat) (i1 : Int) (i2 : Int) : Option Res :=
  bif decide ((i2 : Int) < 1) then
    (some ⟨AV.int .i64 0, false, []⟩)
  else
    need (!decide (i2 = 0)) <|
    bif decide (((Int.tmod i1 i2) : Int) < 0) then
    (some ⟨AV.int .i64 (IntKind.i64.wrap ((Int.tmod i1 i2) + i2)), false, []⟩)
    else
    some ⟨AV.int .i64 (Int.tmod i1 i2), false, []⟩
theorem keepWithin_eq (R : Nat → List AV → Option Res) (N : Nat) (i1 : Int) (i2 : Int) : runF gl R N keepWithin [AV.int .i64 i1, AV.int .i64 i2] = keepWithinr R N i1 i2 := by
  kernel_rfl
theorem keepWithin_fit : fitF Tryd.prog keepWithin Tryd.f14 = true := by
  kernel_rfl

def bytesIndexByte_c0 : AC := .seq (.region [.op (some 4) none (.mv (.k (AV.int .i64 0)))]) (.seq (.region [.op (some 5) none (.mv (.t 0)), .op (some 6) none (.mv (.t 1)), .op (some 7) none (.call id_internalBytealgIndexByte [.t 5, .t 6] (.int .i64)), .op (some 4) none (.mv (.t 7))]) (.ret [4] []))
def bytesIndexByte : AFunc := ⟨2, 8, [.tmp 4], bytesIndexByte_c0⟩
def bytesIndexByter (R : Nat → List AV → Option Res) (N : Nat) (s1 : List UInt8) (i1 : Int) : Option Res :=
  (R id_internalBytealgIndexByte [AV.bytes s1, AV.int .u8 i1]).bind fun r1 =>
  asI .i64 r1.v fun i2 =>
  some ⟨AV.int .i64 i2, false, []⟩
theorem bytesIndexByte_eq (R : Nat → List AV → Option Res) (N : Nat) (s1 : List UInt8) (i1 : Int) : runF gl R N bytesIndexByte [AV.bytes s1, AV.int .u8 i1] = bytesIndexByter R N s1 i1 := by
  kernel_rfl
theorem bytesIndexByte_fit : fitF Tryd.prog bytesIndexByte Tryd.f44 = true := by
  kernel_rfl

def internalStringsliteHasPrefix_c0 : AC := .seq (.region [.op (some 4) none (.mv (.k (AV.bool false)))]) (.seq (.region [.op (some 5) none (.mv (.t 0)), .op (some 6) none (.len (.t 5) true), .op (some 7) none (.mv (.t 1)), .op (some 8) none (.len (.t 7) true), .op (some 9) none (.bin .geq (.t 6) (.t 8)), .op (some 10) none (.mv (.t 9)), .split 10, .op (some 11) (some (10, true)) (.mv (.t 0)), .op (some 12) (some (10, true)) (.mv (.t 1)), .op (some 13) (some (10, true)) (.len (.t 12) true), .op (some 14) (some (10, true)) (.sliceS (.t 11) none (some (.t 13))), .op (some 15) (some (10, true)) (.mv (.t 1)), .op (some 16) (some (10, true)) (.bin .eql (.t 14) (.t 15)), .op (some 17) none (.pick (.t 10) (.t 16) (.k (AV.bool false))), .op (some 4) none (.mv (.t 17))]) (.ret [4] []))
def internalStringsliteHasPrefix : AFunc := ⟨2, 18, [.tmp 4], internalStringsliteHasPrefix_c0⟩
def internalStringsliteHasPrefixr (R : Nat → List AV → Option Res) (N : Nat) (s1 : List UInt8) (s2 : List UInt8) : Option Res :=
  bif decide ((((s1.length : Nat) : Int) : Int) ≥ ((s2.length : Nat) : Int)) then
    (need (decide (0 ≤ (((s2.length : Nat) : Int) : Int)) && decide ((((s2.length : Nat) : Int) : Int) ≤ ((s1.length : Nat) : Int))) <|
    some ⟨AV.bool (((s1.take (Int.toNat ((s2.length : Nat) : Int))).drop 0) == s2), false, []⟩)
  else
    some ⟨AV.bool false, false, []⟩
theorem internalStringsliteHasPrefix_eq (R : Nat → List AV → Option Res) (N : Nat) (s1 : List UInt8) (s2 : List UInt8) : runF gl R N internalStringsliteHasPrefix [AV.str s1, AV.str s2] = internalStringsliteHasPrefixr R N s1 s2 := by
  kernel_rfl
theorem internalStringsliteHasPrefix_fit : fitF Tryd.prog internalStringsliteHasPrefix Tryd.f92 = true := by
  kernel_rfl

def internalStringsliteCutPrefix_c0 : AC := .seq (.region [.op (some 4) none (.mv (.k (AV.str ([] : List UInt8)))), .op (some 5) none (.mv (.k (AV.bool false)))]) (.seq (.seq (.region [.op (some 6) none (.mv (.t 0)), .op (some 7) none (.mv (.t 1)), .op (some 8) none (.call id_internalStringsliteHasPrefix [.t 6, .t 7] (.bool)), .op (some 9) none (.un .not (.t 8))]) (.cond (.t 9) (.seq (.region [.op (some 10) none (.mv (.t 0)), .op (some 4) none (.mv (.t 10)), .op (some 5) none (.mv (.k (AV.bool false)))]) (.ret [4, 5] [])) (.skip))) (.seq (.region [.op (some 11) none (.mv (.t 0)), .op (some 12) none (.mv (.t 1)), .op (some 13) none (.len (.t 12) true), .op (some 14) none (.sliceS (.t 11) (some (.t 13)) none), .op (some 4) none (.mv (.t 14)), .op (some 5) none (.mv (.k (AV.bool true)))]) (.ret [4, 5] [])))
def internalStringsliteCutPrefix : AFunc := ⟨2, 15, [.tmp 4, .tmp 5], internalStringsliteCutPrefix_c0⟩
def internalStringsliteCutPrefixr (R : Nat → List AV → Option Res) (N : Nat) (s1 : List UInt8) (s2 : List UInt8) : Option Res :=
  (R id_internalStringsliteHasPrefix [AV.str s1, AV.str s2]).bind fun r1 =>
  asB r1.v fun b1 =>
  bif !b1 then
    (some ⟨AV.tup [AV.str s1, AV.bool false], false, []⟩)
  else
    need (decide (0 ≤ (((s2.length : Nat) : Int) : Int)) && decide ((((s2.length : Nat) : Int) : Int) ≤ ((s1.length : Nat) : Int))) <|
    some ⟨AV.tup [AV.str ((s1.take s1.length).drop (Int.toNat ((s2.length : Nat) : Int))), AV.bool true], false, []⟩
theorem internalStringsliteCutPrefix_eq (R : Nat → List AV → Option Res) (N : Nat) (s1 : List UInt8) (s2 : List UInt8) : runF gl R N internalStringsliteCutPrefix [AV.str s1, AV.str s2] = internalStringsliteCutPrefixr R N s1 s2 := by
  kernel_rfl
theorem internalStringsliteCutPrefix_fit : fitF Tryd.prog internalStringsliteCutPrefix Tryd.f74 = true := by
  kernel_rfl

def stringsCutPrefix_c0 : AC := .seq (.region [.op (some 4) none (.mv (.k (AV.str ([] : List UInt8)))), .op (some 5) none (.mv (.k (AV.bool false)))]) (.seq (.region [.op (some 6) none (.mv (.t 0)), .op (some 7) none (.mv (.t 1)), .op (some 8) none (.call id_internalStringsliteCutPrefix [.t 6, .t 7] (.tup [.str, .bool])), .op (some 9) none (.extract (.t 8) 0), .op (some 10) none (.extract (.t 8) 1), .op (some 4) none (.mv (.t 9)), .op (some 5) none (.mv (.t 10))]) (.ret [4, 5] []))
def stringsCutPrefix : AFunc := ⟨2, 11, [.tmp 4, .tmp 5], stringsCutPrefix_c0⟩
def stringsCutPrefixr (R : Nat → List AV → Option Res) (N : Nat) (s1 : List UInt8) (s2 : List UInt8) : Option Res :=
  (R id_internalStringsliteCutPrefix [AV.str s1, AV.str s2]).bind fun r1 =>
  asSBT r1.v fun s3 b1 =>
  some ⟨AV.tup [AV.str s3, AV.bool b1], false, []⟩
theorem stringsCutPrefix_eq (R : Nat → List AV → Option Res) (N : Nat) (s1 : List UInt8) (s2 : List UInt8) : runF gl R N stringsCutPrefix [AV.str s1, AV.str s2] = stringsCutPrefixr R N s1 s2 := by
  kernel_rfl
theorem stringsCutPrefix_fit : fitF Tryd.prog stringsCutPrefix Tryd.f47 = true := by
  kernel_rfl

def charsDigit_c0 : AC := .seq (.region [.op (some 2) none (.mv (.k (AV.bool false)))]) (.seq (.region [.op (some 3) none (.mv (.t 0)), .op (some 4) none (.bin .geq (.t 3) (.k (AV.int .u8 48))), .op (some 5) none (.mv (.t 4)), .split 5, .op (some 6) (some (5, true)) (.mv (.t 0)), .op (some 7) (some (5, true)) (.bin .leq (.t 6) (.k (AV.int .u8 57))), .op (some 8) none (.pick (.t 5) (.t 7) (.k (AV.bool false))), .op (some 2) none (.mv (.t 8))]) (.ret [2] []))
def charsDigit : AFunc := ⟨1, 9, [.tmp 2], charsDigit_c0⟩
def charsDigitr (R : Nat → List AV → Option Res) (N : Nat) (i1 : Int) : Option Res :=
  bif decide ((i1 : Int) ≥ 48) then
    (some ⟨AV.bool (decide ((i1 : Int) ≤ 57)), false, []⟩)
  else
    some ⟨AV.bool false, false, []⟩
theorem charsDigit_eq (R : Nat → List AV → Option Res) (N : Nat) (i1 : Int) : runF gl R N charsDigit [AV.int .u8 i1] = charsDigitr R N i1 := by
  kernel_rfl
theorem charsDigit_fit : fitF Tryd.prog charsDigit Tryd.f93 = true := by
  kernel_rfl

def charsLetter_c0 : AC := .seq (.region [.op (some 2) none (.mv (.k (AV.bool false)))]) (.seq (.region [.op (some 3) none (.mv (.t 0)), .op (some 4) none (.bin .geq (.t 3) (.k (AV.int .u8 97))), .op (some 5) none (.mv (.t 4)), .split 5, .op (some 6) (some (5, true)) (.mv (.t 0)), .op (some 7) (some (5, true)) (.bin .leq (.t 6) (.k (AV.int .u8 122))), .op (some 8) none (.pick (.t 5) (.t 7) (.k (AV.bool false))), .op (some 9) none (.mv (.t 8)), .split 9, .op (some 10) (some (9, false)) (.mv (.t 0)), .op (some 11) (some (9, false)) (.bin .geq (.t 10) (.k (AV.int .u8 65))), .op (some 12) (some (9, false)) (.mv (.t 11)), .split 12, .op (some 13) (some (12, true)) (.mv (.t 0)), .op (some 14) (some (12, true)) (.bin .leq (.t 13) (.k (AV.int .u8 90))), .op (some 15) (some (9, false)) (.pick (.t 12) (.t 14) (.k (AV.bool false))), .op (some 16) none (.pick (.t 9) (.k (AV.bool true)) (.t 15)), .op (some 17) none (.mv (.t 16)), .split 17, .op (some 18) (some (17, false)) (.mv (.t 0)), .op (some 19) (some (17, false)) (.call id_charsDigit [.t 18] (.bool)), .op (some 20) none (.pick (.t 17) (.k (AV.bool true)) (.t 19)), .op (some 21) none (.mv (.t 20)), .split 21, .op (some 22) (some (21, false)) (.mv (.t 0)), .op (some 23) (some (21, false)) (.bin .eql (.t 22) (.k (AV.int .u8 45))), .op (some 24) none (.pick (.t 21) (.k (AV.bool true)) (.t 23)), .op (some 25) none (.mv (.t 24)), .split 25, .op (some 26) (some (25, false)) (.mv (.t 0)), .op (some 27) (some (25, false)) (.bin .eql (.t 26) (.k (AV.int .u8 95))), .op (some 28) none (.pick (.t 25) (.k (AV.bool true)) (.t 27)), .op (some 2) none (.mv (.t 28))]) (.ret [2] []))
def charsLetter : AFunc := ⟨1, 29, [.tmp 2], charsLetter_c0⟩
def charsLetterr (R : Nat → List AV → Option Res) (N : Nat) (i1 : Int) : Option Res :=
  bif decide ((i1 : Int) ≥ 97) then
    (bif decide ((i1 : Int) ≤ 122) then
    (some ⟨AV.bool true, false, []⟩)
    else
    bif decide ((i1 : Int) ≥ 65) then
    (bif decide ((i1 : Int) ≤ 90) then
    (some ⟨AV.bool true, false, []⟩)
    else
    (R id_charsDigit [AV.int .u8 i1]).bind fun r1 =>
    asB r1.v fun b1 =>
    bif b1 then
    (some ⟨AV.bool true, false, []⟩)
    else
    bif (i1 : Int) == 45 then
    (some ⟨AV.bool true, false, []⟩)
    else
    some ⟨AV.bool ((i1 : Int) == 95), false, []⟩)
    else
    (R id_charsDigit [AV.int .u8 i1]).bind fun r2 =>
    asB r2.v fun b2 =>
    bif b2 then
    (some ⟨AV.bool true, false, []⟩)
    else
    bif (i1 : Int) == 45 then
    (some ⟨AV.bool true, false, []⟩)
    else
    some ⟨AV.bool ((i1 : Int) == 95), false, []⟩)
  else
    bif decide ((i1 : Int) ≥ 65) then
    (bif decide ((i1 : Int) ≤ 90) then
    (some ⟨AV.bool true, false, []⟩)
    else
    (R id_charsDigit [AV.int .u8 i1]).bind fun r3 =>
    asB r3.v fun b3 =>
    bif b3 then
    (some ⟨AV.bool true, false, []⟩)
    else
    bif (i1 : Int) == 45 then
    (some ⟨AV.bool true, false, []⟩)
    else
    some ⟨AV.bool ((i1 : Int) == 95), false, []⟩)
    else
    (R id_charsDigit [AV.int .u8 i1]).bind fun r4 =>
    asB r4.v fun b4 =>
    bif b4 then
    (some ⟨AV.bool true, false, []⟩)
    else
    bif (i1 : Int) == 45 then
    (some ⟨AV.bool true, false, []⟩)
    else
    some ⟨AV.bool ((i1 : Int) == 95), false, []⟩
theorem charsLetter_eq (R : Nat → List AV → Option Res) (N : Nat) (i1 : Int) : runF gl R N charsLetter [AV.int .u8 i1] = charsLetterr R N i1 := by
  kernel_rfl
theorem charsLetter_fit : fitF Tryd.prog charsLetter Tryd.f75 = true := by
  kernel_rfl

def charsName_L1s (R : Nat → List AV → Option Res) (N : Nat) (go : List UInt8 → List UInt8 → Int → Int → Option Res) (k0 : Bool → Option Res) (k1 : List UInt8 → Option Res) (s2 : List UInt8) (s3 : List UInt8) (i1 : Int) (i2 : Int) : Option Res :=
  bif decide ((i2 : Int) < i1) then
    (need (decide (0 ≤ (i2 : Int))) <|
    (s3[Int.toNat i2]?).bind fun c1 =>
    (R id_charsLetter [AV.int .u8 (c1.toNat : Int)]).bind fun r1 =>
    asB r1.v fun b1 =>
    bif !b1 then
    (k0 false)
    else
    go s2 s3 i1 (IntKind.i64.wrap (i2 + 1)))
  else
    k1 s2
def charsName_L1 (R : Nat → List AV → Option Res) (N : Nat) (k0 : Bool → Option Res) (k1 : List UInt8 → Option Res) : Nat → List UInt8 → List UInt8 → Int → Int → Option Res
  | 0, _, _, _, _ => none
  | n + 1, s2, s3, i1, i2 => charsName_L1s R N (charsName_L1 R N k0 k1 n) k0 k1 s2 s3 i1 i2
def charsName_c0 : AC := .seq (.region [.op (some 9) none (.bin .lss (.t 8) (.t 7))]) (.seq (.cond (.t 9) (.skip) (.exit 0 [0] [])) (.seq (.block 1 (.seq (.region [.op (some 10) none (.iaddr (.t 6) (.t 8) 1 (.int .u8)), .op (some 11) none (.load (.t 10) none (.int .u8)), .op (some 4) none (.mv (.t 11))]) (.seq (.region [.op (some 12) none (.mv (.t 4)), .op (some 13) none (.call id_charsLetter [.t 12] (.bool)), .op (some 14) none (.un .not (.t 13))]) (.cond (.t 14) (.seq (.region [.op (some 2) none (.mv (.k (AV.bool false)))]) (.ret [2] [])) (.skip))))) (.region [.op (some 15) none (.bin .add (.t 8) (.k (AV.int .i64 1))), .op (some 8) none (.mv (.t 15))])))
theorem charsName_L1s_eq (R : Nat → List AV → Option Res) (N : Nat) (K : Ex → St → Option Res) (W : St → Option Res) (s2 : List UInt8) (s3 : List UInt8) (i1 : Int) (i2 : Int) :
    evC gl R N charsName_c0 (Kseq (fun st' => W (prune [0, 6, 7, 8] [] st')) K) ⟨[(0, .imm (AV.str s2)), (6, .imm (AV.bytes s3)), (7, .imm (AV.int .i64 i1)), (8, .imm (AV.int .i64 i2))], []⟩ =
    charsName_L1s R N (fun (s2 : List UInt8) (s3 : List UInt8) (i1 : Int) (i2 : Int) => W ⟨[(0, .imm (AV.str s2)), (6, .imm (AV.bytes s3)), (7, .imm (AV.int .i64 i1)), (8, .imm (AV.int .i64 i2))], []⟩) (fun (b2 : Bool) => K .ret ⟨[(2, .imm (AV.bool b2))], []⟩) (fun (s4 : List UInt8) => K (.exit 0) ⟨[(0, .imm (AV.str s4))], []⟩) s2 s3 i1 i2 := by
  kernel_rfl
theorem charsName_L1_eq (R : Nat → List AV → Option Res) (N : Nat) (K : Ex → St → Option Res) : ∀ (n : Nat) (s2 : List UInt8) (s3 : List UInt8) (i1 : Int) (i2 : Int),
    rounds [0, 6, 7, 8] [] (evC gl R N charsName_c0) K n ⟨[(0, .imm (AV.str s2)), (6, .imm (AV.bytes s3)), (7, .imm (AV.int .i64 i1)), (8, .imm (AV.int .i64 i2))], []⟩ = charsName_L1 R N (fun (b2 : Bool) => K .ret ⟨[(2, .imm (AV.bool b2))], []⟩) (fun (s4 : List UInt8) => K (.exit 0) ⟨[(0, .imm (AV.str s4))], []⟩) n s2 s3 i1 i2
  | 0, _, _, _, _ => rfl
  | n + 1, s2, s3, i1, i2 => (charsName_L1s_eq R N K (rounds [0, 6, 7, 8] [] (evC gl R N charsName_c0) K n) s2 s3 i1 i2).trans
      (congrArg (fun go => charsName_L1s R N go (fun (b2 : Bool) => K .ret ⟨[(2, .imm (AV.bool b2))], []⟩) (fun (s4 : List UInt8) => K (.exit 0) ⟨[(0, .imm (AV.str s4))], []⟩) s2 s3 i1 i2) (funext fun s2 => funext fun s3 => funext fun i1 => funext fun i2 => charsName_L1_eq R N K n s2 s3 i1 i2))
def charsName_c1 : AC := .seq (.region [.op (some 16) none (.mv (.t 0)), .op (some 17) none (.bin .neq (.t 16) (.k (AV.str ([] : List UInt8)))), .op (some 18) none (.mv (.t 17)), .split 18, .op (some 19) (some (18, true)) (.mv (.t 0)), .op (some 20) (some (18, true)) (.len (.t 19) true), .op (some 21) (some (18, true)) (.bin .leq (.t 20) (.k (AV.int .i64 32))), .op (some 22) none (.pick (.t 18) (.t 21) (.k (AV.bool false))), .op (some 2) none (.mv (.t 22))]) (.ret [2] [])
def charsName_c2 : AC := .seq (.region [.op (some 2) none (.mv (.k (AV.bool false)))]) (.seq (.seq (.region [.op (some 5) none (.mv (.t 0)), .op (some 6) none (.cvBytes (.t 5)), .op (some 7) none (.len (.t 6) false), .op (some 8) none (.mv (.k (AV.int .i64 0)))]) (.block 0 (.loop [0, 6, 7, 8] [] (charsName_c0)))) (charsName_c1))
def charsName : AFunc := ⟨1, 23, [.tmp 2], charsName_c2⟩
def charsNamer (R : Nat → List AV → Option Res) (N : Nat) (s1 : List UInt8) : Option Res :=
  charsName_L1 R N
    (fun b4 =>
    some ⟨AV.bool b4, false, []⟩)
    (fun s6 =>
    bif !(s6 == ([] : List UInt8)) then
    (some ⟨AV.bool (decide ((((s6.length : Nat) : Int) : Int) ≤ 32)), false, []⟩)
    else
    some ⟨AV.bool false, false, []⟩)
    N s1 s1 ((s1.length : Nat) : Int) 0
theorem charsName_eq (R : Nat → List AV → Option Res) (N : Nat) (s1 : List UInt8) : runF gl R N charsName [AV.str s1] = charsNamer R N s1 := by
  refine Eq.trans (b :=
    rounds [0, 6, 7, 8] [] (evC gl R N charsName_c0) (Kblock 0 (Kthen gl R N charsName_c1 (Kret charsName.rets []))) N ⟨[(0, .imm (AV.str s1)), (6, .imm (AV.bytes s1)), (7, .imm (AV.int .i64 ((s1.length : Nat) : Int))), (8, .imm (AV.int .i64 0))], []⟩) (by kernel_rfl) ?_
  simp (config := { maxSteps := 100000000 }) only [charsName_L1_eq]
  kernel_rfl
theorem charsName_fit : fitF Tryd.prog charsName Tryd.f48 = true := by
  kernel_rfl

def internalStringsliteTrimPrefix_c0 : AC := .seq (.region [.op (some 4) none (.mv (.k (AV.str ([] : List UInt8))))]) (.seq (.seq (.region [.op (some 5) none (.mv (.t 0)), .op (some 6) none (.mv (.t 1)), .op (some 7) none (.call id_internalStringsliteHasPrefix [.t 5, .t 6] (.bool))]) (.cond (.t 7) (.seq (.region [.op (some 8) none (.mv (.t 0)), .op (some 9) none (.mv (.t 1)), .op (some 10) none (.len (.t 9) true), .op (some 11) none (.sliceS (.t 8) (some (.t 10)) none), .op (some 4) none (.mv (.t 11))]) (.ret [4] [])) (.skip))) (.seq (.region [.op (some 12) none (.mv (.t 0)), .op (some 4) none (.mv (.t 12))]) (.ret [4] [])))
def internalStringsliteTrimPrefix : AFunc := ⟨2, 13, [.tmp 4], internalStringsliteTrimPrefix_c0⟩
def internalStringsliteTrimPrefixr (R : Nat → List AV → Option Res) (N : Nat) (s1 : List UInt8) (s2 : List UInt8) : Option Res :=
  (R id_internalStringsliteHasPrefix [AV.str s1, AV.str s2]).bind fun r1 =>
  asB r1.v fun b1 =>
  bif b1 then
    (need (decide (0 ≤ (((s2.length : Nat) : Int) : Int)) && decide ((((s2.length : Nat) : Int) : Int) ≤ ((s1.length : Nat) : Int))) <|
    some ⟨AV.str ((s1.take s1.length).drop (Int.toNat ((s2.length : Nat) : Int))), false, []⟩)
  else
    some ⟨AV.str s1, false, []⟩
theorem internalStringsliteTrimPrefix_eq (R : Nat → List AV → Option Res) (N : Nat) (s1 : List UInt8) (s2 : List UInt8) : runF gl R N internalStringsliteTrimPrefix [AV.str s1, AV.str s2] = internalStringsliteTrimPrefixr R N s1 s2 := by
  kernel_rfl
theorem internalStringsliteTrimPrefix_fit : fitF Tryd.prog internalStringsliteTrimPrefix Tryd.f76 = true := by
  kernel_rfl

def stringsTrimPrefix_c0 : AC := .seq (.region [.op (some 4) none (.mv (.k (AV.str ([] : List UInt8))))]) (.seq (.region [.op (some 5) none (.mv (.t 0)), .op (some 6) none (.mv (.t 1)), .op (some 7) none (.call id_internalStringsliteTrimPrefix [.t 5, .t 6] (.str)), .op (some 4) none (.mv (.t 7))]) (.ret [4] []))
def stringsTrimPrefix : AFunc := ⟨2, 8, [.tmp 4], stringsTrimPrefix_c0⟩
def stringsTrimPrefixr (R : Nat → List AV → Option Res) (N : Nat) (s1 : List UInt8) (s2 : List UInt8) : Option Res :=
  (R id_internalStringsliteTrimPrefix [AV.str s1, AV.str s2]).bind fun r1 =>
  asS r1.v fun s3 =>
  some ⟨AV.str s3, false, []⟩
theorem stringsTrimPrefix_eq (R : Nat → List AV → Option Res) (N : Nat) (s1 : List UInt8) (s2 : List UInt8) : runF gl R N stringsTrimPrefix [AV.str s1, AV.str s2] = stringsTrimPrefixr R N s1 s2 := by
  kernel_rfl
theorem stringsTrimPrefix_fit : fitF Tryd.prog stringsTrimPrefix Tryd.f49 = true := by
  kernel_rfl

def propsValidTag_c0 : AC := .seq (.region [.op (some 2) none (.mv (.k (AV.bool false)))]) (.seq (.region [.op (some 6) none (.mv (.t 0)), .op (some 7) none (.call id_stringsCutPrefix [.t 6, .k (AV.str ([33] : List UInt8))] (.tup [.str, .bool])), .op (some 5) none (.mv (.t 7)), .op (some 8) none (.extract (.t 5) 0), .op (some 9) none (.extract (.t 5) 1), .op (some 3) none (.mv (.t 8)), .op (some 4) none (.mv (.t 9))]) (.seq (.region [.op (some 10) none (.mv (.t 4)), .op (some 11) none (.mv (.t 10)), .split 11, .op (some 12) (some (11, true)) (.mv (.t 3)), .op (some 13) (some (11, true)) (.bin .eql (.t 12) (.k (AV.str ([] : List UInt8)))), .op (some 14) (some (11, true)) (.mv (.t 13)), .split 14, .op (some 15) (some (14, false)) (.mv (.t 3)), .op (some 16) (some (14, false)) (.call id_stringsTrimPrefix [.t 15, .k (AV.str ([33] : List UInt8))] (.str)), .op (some 17) (some (14, false)) (.call id_charsName [.t 16] (.bool)), .op (some 18) (some (11, true)) (.pick (.t 14) (.k (AV.bool true)) (.t 17)), .op (some 19) none (.pick (.t 11) (.t 18) (.k (AV.bool false))), .op (some 2) none (.mv (.t 19))]) (.ret [2] [])))
def propsValidTag : AFunc := ⟨1, 20, [.tmp 2], propsValidTag_c0⟩
def propsValidTagr (R : Nat → List AV → Option Res) (N : Nat) (s1 : List UInt8) : Option Res :=
  (R id_stringsCutPrefix [AV.str s1, AV.str ([33] : List UInt8)]).bind fun r1 =>
  asSBT r1.v fun s2 b1 =>
  bif b1 then
    (bif s2 == ([] : List UInt8) then
    (some ⟨AV.bool true, false, []⟩)
    else
    (R id_stringsTrimPrefix [AV.str s2, AV.str ([33] : List UInt8)]).bind fun r2 =>
    asS r2.v fun s3 =>
    (R id_charsName [AV.str s3]).bind fun r3 =>
    asB r3.v fun b2 =>
    some ⟨AV.bool b2, false, []⟩)
  else
    some ⟨AV.bool false, false, []⟩
theorem propsValidTag_eq (R : Nat → List AV → Option Res) (N : Nat) (s1 : List UInt8) : runF gl R N propsValidTag [AV.str s1] = propsValidTagr R N s1 := by
  kernel_rfl
theorem propsValidTag_fit : fitF Tryd.prog propsValidTag Tryd.f17 = true := by
  kernel_rfl

def unicodeUtf8DecodeRuneSlow_c1 : AC := .seq (.region [.op (some 2) none (.mv (.k (AV.int .i32 0))), .op (some 3) none (.mv (.k (AV.int .i64 0)))]) (.seq (.region [.op (some 13) none (.mv (.t 0)), .op (some 14) none (.len (.t 13) false), .op (some 4) none (.mv (.t 14))]) (.seq (.seq (.region [.op (some 15) none (.mv (.t 4)), .op (some 16) none (.bin .lss (.t 15) (.k (AV.int .i64 1)))]) (.cond (.t 16) (.seq (.region [.op (some 2) none (.mv (.k (AV.int .i32 65533))), .op (some 3) none (.mv (.k (AV.int .i64 0)))]) (.ret [2, 3] [])) (.skip))) (.seq (.region [.op (some 17) none (.mv (.t 0)), .op (some 18) none (.iaddr (.t 17) (.k (AV.int .i64 0)) 1 (.int .u8)), .op (some 19) none (.load (.t 18) none (.int .u8)), .op (some 5) none (.mv (.t 19))]) (.stuck))))
def unicodeUtf8DecodeRuneSlow : AFunc := ⟨1, 122, [.tmp 2, .tmp 3], unicodeUtf8DecodeRuneSlow_c1⟩
def unicodeUtf8DecodeRuneSlowr (R : Nat → List AV → Option Res) (N : Nat) (s1 : List UInt8) : Option Res :=
  bif decide ((((s1.length : Nat) : Int) : Int) < 1) then
    (some ⟨AV.tup [AV.int .i32 65533, AV.int .i64 0], false, []⟩)
  else
    need (decide (0 ≤ (0 : Int))) <|
    (s1[Int.toNat 0]?).bind fun c1 =>
    none
theorem unicodeUtf8DecodeRuneSlow_eq (R : Nat → List AV → Option Res) (N : Nat) (s1 : List UInt8) : runF gl R N unicodeUtf8DecodeRuneSlow [AV.bytes s1] = unicodeUtf8DecodeRuneSlowr R N s1 := by
  kernel_rfl
theorem unicodeUtf8DecodeRuneSlow_fit : fitF Tryd.prog unicodeUtf8DecodeRuneSlow Tryd.f97 = true := by
  kernel_rfl

def unicodeUtf8DecodeRune_L1s (R : Nat → List AV → Option Res) (N : Nat) (go : List UInt8 → List UInt8 → Int → Int → Option Res) (k0 : Int → Int → Option Res) (k1 : List UInt8 → Option Res) (s2 : List UInt8) (s3 : List UInt8) (i1 : Int) (i2 : Int) : Option Res :=
  bif decide ((i2 : Int) < i1) then
    (need (decide (0 ≤ (i2 : Int))) <|
    (s3[Int.toNat i2]?).bind fun c1 =>
    bif decide (((c1.toNat : Int) : Int) < 128) then
    (k0 (IntKind.i32.wrap (c1.toNat : Int)) 1)
    else
    k1 s2)
  else
    k1 s2
def unicodeUtf8DecodeRune_L1 (R : Nat → List AV → Option Res) (N : Nat) (k0 : Int → Int → Option Res) (k1 : List UInt8 → Option Res) : Nat → List UInt8 → List UInt8 → Int → Int → Option Res
  | 0, _, _, _, _ => none
  | n + 1, s2, s3, i1, i2 => unicodeUtf8DecodeRune_L1s R N (unicodeUtf8DecodeRune_L1 R N k0 k1 n) k0 k1 s2 s3 i1 i2
def unicodeUtf8DecodeRune_c0 : AC := .seq (.region [.op (some 9) none (.bin .lss (.t 8) (.t 7))]) (.seq (.cond (.t 9) (.skip) (.exit 0 [0] [])) (.seq (.block 1 (.seq (.region [.op (some 10) none (.iaddr (.t 6) (.t 8) 1 (.int .u8)), .op (some 11) none (.load (.t 10) none (.int .u8)), .op (some 5) none (.mv (.t 11))]) (.seq (.seq (.region [.op (some 12) none (.mv (.t 5)), .op (some 13) none (.bin .lss (.t 12) (.k (AV.int .u8 128)))]) (.cond (.t 13) (.seq (.region [.op (some 14) none (.mv (.t 5)), .op (some 15) none (.cvInt .i32 (.t 14)), .op (some 2) none (.mv (.t 15)), .op (some 3) none (.mv (.k (AV.int .i64 1)))]) (.ret [2, 3] [])) (.skip))) (.exit 0 [0] [])))) (.region [.op (some 16) none (.bin .add (.t 8) (.k (AV.int .i64 1))), .op (some 8) none (.mv (.t 16))])))
theorem unicodeUtf8DecodeRune_L1s_eq (R : Nat → List AV → Option Res) (N : Nat) (K : Ex → St → Option Res) (W : St → Option Res) (s2 : List UInt8) (s3 : List UInt8) (i1 : Int) (i2 : Int) :
    evC gl R N unicodeUtf8DecodeRune_c0 (Kseq (fun st' => W (prune [0, 6, 7, 8] [] st')) K) ⟨[(0, .imm (AV.bytes s2)), (6, .imm (AV.bytes s3)), (7, .imm (AV.int .i64 i1)), (8, .imm (AV.int .i64 i2))], []⟩ =
    unicodeUtf8DecodeRune_L1s R N (fun (s2 : List UInt8) (s3 : List UInt8) (i1 : Int) (i2 : Int) => W ⟨[(0, .imm (AV.bytes s2)), (6, .imm (AV.bytes s3)), (7, .imm (AV.int .i64 i1)), (8, .imm (AV.int .i64 i2))], []⟩) (fun (i3 : Int) (i4 : Int) => K .ret ⟨[(2, .imm (AV.int .i32 i3)), (3, .imm (AV.int .i64 i4))], []⟩) (fun (s4 : List UInt8) => K (.exit 0) ⟨[(0, .imm (AV.bytes s4))], []⟩) s2 s3 i1 i2 := by
  kernel_rfl
theorem unicodeUtf8DecodeRune_L1_eq (R : Nat → List AV → Option Res) (N : Nat) (K : Ex → St → Option Res) : ∀ (n : Nat) (s2 : List UInt8) (s3 : List UInt8) (i1 : Int) (i2 : Int),
    rounds [0, 6, 7, 8] [] (evC gl R N unicodeUtf8DecodeRune_c0) K n ⟨[(0, .imm (AV.bytes s2)), (6, .imm (AV.bytes s3)), (7, .imm (AV.int .i64 i1)), (8, .imm (AV.int .i64 i2))], []⟩ = unicodeUtf8DecodeRune_L1 R N (fun (i3 : Int) (i4 : Int) => K .ret ⟨[(2, .imm (AV.int .i32 i3)), (3, .imm (AV.int .i64 i4))], []⟩) (fun (s4 : List UInt8) => K (.exit 0) ⟨[(0, .imm (AV.bytes s4))], []⟩) n s2 s3 i1 i2
  | 0, _, _, _, _ => rfl
  | n + 1, s2, s3, i1, i2 => (unicodeUtf8DecodeRune_L1s_eq R N K (rounds [0, 6, 7, 8] [] (evC gl R N unicodeUtf8DecodeRune_c0) K n) s2 s3 i1 i2).trans
      (congrArg (fun go => unicodeUtf8DecodeRune_L1s R N go (fun (i3 : Int) (i4 : Int) => K .ret ⟨[(2, .imm (AV.int .i32 i3)), (3, .imm (AV.int .i64 i4))], []⟩) (fun (s4 : List UInt8) => K (.exit 0) ⟨[(0, .imm (AV.bytes s4))], []⟩) s2 s3 i1 i2) (funext fun s2 => funext fun s3 => funext fun i1 => funext fun i2 => unicodeUtf8DecodeRune_L1_eq R N K n s2 s3 i1 i2))
def unicodeUtf8DecodeRune_c1 : AC := .seq (.region [.op (some 18) none (.mv (.t 0)), .op (some 19) none (.call id_unicodeUtf8DecodeRuneSlow [.t 18] (.tup [.int .i32, .int .i64])), .op (some 17) none (.mv (.t 19)), .op (some 20) none (.extract (.t 17) 0), .op (some 21) none (.extract (.t 17) 1), .op (some 2) none (.mv (.t 20)), .op (some 3) none (.mv (.t 21))]) (.ret [2, 3] [])
def unicodeUtf8DecodeRune_c2 : AC := .seq (.region [.op (some 2) none (.mv (.k (AV.int .i32 0))), .op (some 3) none (.mv (.k (AV.int .i64 0)))]) (.seq (.seq (.region [.op (some 6) none (.mv (.t 0)), .op (some 7) none (.len (.t 6) false), .op (some 8) none (.mv (.k (AV.int .i64 0)))]) (.block 0 (.loop [0, 6, 7, 8] [] (unicodeUtf8DecodeRune_c0)))) (unicodeUtf8DecodeRune_c1))
def unicodeUtf8DecodeRune : AFunc := ⟨1, 22, [.tmp 2, .tmp 3], unicodeUtf8DecodeRune_c2⟩
def unicodeUtf8DecodeRuner (R : Nat → List AV → Option Res) (N : Nat) (s1 : List UInt8) : Option Res :=
  unicodeUtf8DecodeRune_L1 R N
    (fun i7 i8 =>
    some ⟨AV.tup [AV.int .i32 i7, AV.int .i64 i8], false, []⟩)
    (fun s6 =>
    (R id_unicodeUtf8DecodeRuneSlow [AV.bytes s6]).bind fun r1 =>
    asJIT r1.v fun i9 i10 =>
    some ⟨AV.tup [AV.int .i32 i9, AV.int .i64 i10], false, []⟩)
    N s1 s1 ((s1.length : Nat) : Int) 0
theorem unicodeUtf8DecodeRune_eq (R : Nat → List AV → Option Res) (N : Nat) (s1 : List UInt8) : runF gl R N unicodeUtf8DecodeRune [AV.bytes s1] = unicodeUtf8DecodeRuner R N s1 := by
  refine Eq.trans (b :=
    rounds [0, 6, 7, 8] [] (evC gl R N unicodeUtf8DecodeRune_c0) (Kblock 0 (Kthen gl R N unicodeUtf8DecodeRune_c1 (Kret unicodeUtf8DecodeRune.rets []))) N ⟨[(0, .imm (AV.bytes s1)), (6, .imm (AV.bytes s1)), (7, .imm (AV.int .i64 ((s1.length : Nat) : Int))), (8, .imm (AV.int .i64 0))], []⟩) (by kernel_rfl) ?_
  simp (config := { maxSteps := 100000000 }) only [unicodeUtf8DecodeRune_L1_eq]
  kernel_rfl
theorem unicodeUtf8DecodeRune_fit : fitF Tryd.prog unicodeUtf8DecodeRune Tryd.f90 = true := by
  kernel_rfl

def slicesIndexFuncScholiumApiThingScholiumApiThing_L1s (R : Nat → List AV → Option Res) (N : Nat) (go : List AV → Nat → List AV → Int → Int → Option Res) (k0 : Int → Option Res) (k1 : Option Res) (l2 : List AV) (n1 : Nat) (l3 : List AV) (i1 : Int) (i2 : Int) : Option Res :=
  bif decide ((i2 : Int) < i1) then
    (need (decide (0 ≤ (i2 : Int))) <|
    (l2[Int.toNat i2]?).bind fun e1 =>
    asISSRA e1 fun i3 s1 s2 l4 =>
    (R n1 ([AV.agg [AV.int .i64 i3, AV.str s1, AV.str s2, AV.row 1 l4]] ++ l3)).bind fun r1 =>
    asB r1.v fun b1 =>
    bif b1 then
    (k0 i2)
    else
    go l2 n1 l3 i1 (IntKind.i64.wrap (i2 + 1)))
  else
    k1
def slicesIndexFuncScholiumApiThingScholiumApiThing_L1 (R : Nat → List AV → Option Res) (N : Nat) (k0 : Int → Option Res) (k1 : Option Res) : Nat → List AV → Nat → List AV → Int → Int → Option Res
  | 0, _, _, _, _, _ => none
  | n + 1, l2, n1, l3, i1, i2 => slicesIndexFuncScholiumApiThingScholiumApiThing_L1s R N (slicesIndexFuncScholiumApiThingScholiumApiThing_L1 R N k0 k1 n) k0 k1 l2 n1 l3 i1 i2
def slicesIndexFuncScholiumApiThingScholiumApiThing_c0 : AC := .seq (.region [.op (some 9) none (.bin .lss (.t 8) (.t 7))]) (.seq (.cond (.t 9) (.skip) (.exit 0 [] [])) (.seq (.block 1 (.seq (.region [.op (some 10) none (.mv (.t 8)), .op (some 5) none (.mv (.t 10))]) (.seq (.region [.op (some 11) none (.mv (.t 1)), .op (some 12) none (.mv (.t 0)), .op (some 13) none (.mv (.t 5)), .op (some 14) none (.iaddr (.t 12) (.t 13) 4 (.agg [.int .i64, .str, .str, .row 1])), .op (some 15) none (.load (.t 14) (some 4) (.agg [.int .i64, .str, .str, .row 1])), .op (some 16) none (.callF (.t 11) [.t 15] (.bool))]) (.cond (.t 16) (.seq (.region [.op (some 17) none (.mv (.t 5)), .op (some 4) none (.mv (.t 17))]) (.ret [4] [])) (.skip))))) (.region [.op (some 18) none (.bin .add (.t 8) (.k (AV.int .i64 1))), .op (some 8) none (.mv (.t 18))])))
theorem slicesIndexFuncScholiumApiThingScholiumApiThing_L1s_eq (R : Nat → List AV → Option Res) (N : Nat) (K : Ex → St → Option Res) (W : St → Option Res) (l2 : List AV) (n1 : Nat) (l3 : List AV) (i1 : Int) (i2 : Int) :
    evC gl R N slicesIndexFuncScholiumApiThingScholiumApiThing_c0 (Kseq (fun st' => W (prune [0, 1, 7, 8] [] st')) K) ⟨[(0, .imm (AV.row 4 l2)), (1, .imm (AV.fn n1 l3)), (7, .imm (AV.int .i64 i1)), (8, .imm (AV.int .i64 i2))], []⟩ =
    slicesIndexFuncScholiumApiThingScholiumApiThing_L1s R N (fun (l2 : List AV) (n1 : Nat) (l3 : List AV) (i1 : Int) (i2 : Int) => W ⟨[(0, .imm (AV.row 4 l2)), (1, .imm (AV.fn n1 l3)), (7, .imm (AV.int .i64 i1)), (8, .imm (AV.int .i64 i2))], []⟩) (fun (i4 : Int) => K .ret ⟨[(4, .imm (AV.int .i64 i4))], []⟩) (K (.exit 0) ⟨[], []⟩) l2 n1 l3 i1 i2 := by
  kernel_rfl
theorem slicesIndexFuncScholiumApiThingScholiumApiThing_L1_eq (R : Nat → List AV → Option Res) (N : Nat) (K : Ex → St → Option Res) : ∀ (n : Nat) (l2 : List AV) (n1 : Nat) (l3 : List AV) (i1 : Int) (i2 : Int),
    rounds [0, 1, 7, 8] [] (evC gl R N slicesIndexFuncScholiumApiThingScholiumApiThing_c0) K n ⟨[(0, .imm (AV.row 4 l2)), (1, .imm (AV.fn n1 l3)), (7, .imm (AV.int .i64 i1)), (8, .imm (AV.int .i64 i2))], []⟩ = slicesIndexFuncScholiumApiThingScholiumApiThing_L1 R N (fun (i4 : Int) => K .ret ⟨[(4, .imm (AV.int .i64 i4))], []⟩) (K (.exit 0) ⟨[], []⟩) n l2 n1 l3 i1 i2
  | 0, _, _, _, _, _ => rfl
  | n + 1, l2, n1, l3, i1, i2 => (slicesIndexFuncScholiumApiThingScholiumApiThing_L1s_eq R N K (rounds [0, 1, 7, 8] [] (evC gl R N slicesIndexFuncScholiumApiThingScholiumApiThing_c0) K n) l2 n1 l3 i1 i2).trans
      (congrArg (fun go => slicesIndexFuncScholiumApiThingScholiumApiThing_L1s R N go (fun (i4 : Int) => K .ret ⟨[(4, .imm (AV.int .i64 i4))], []⟩) (K (.exit 0) ⟨[], []⟩) l2 n1 l3 i1 i2) (funext fun l2 => funext fun n1 => funext fun l3 => funext fun i1 => funext fun i2 => slicesIndexFuncScholiumApiThingScholiumApiThing_L1_eq R N K n l2 n1 l3 i1 i2))
def slicesIndexFuncScholiumApiThingScholiumApiThing_c1 : AC := .seq (.region [.op (some 4) none (.mv (.k (AV.int .i64 (-1))))]) (.ret [4] [])
def slicesIndexFuncScholiumApiThingScholiumApiThing_c2 : AC := .seq (.region [.op (some 4) none (.mv (.k (AV.int .i64 0)))]) (.seq (.seq (.region [.op (some 6) none (.mv (.t 0)), .op (some 7) none (.len (.t 6) false), .op (some 8) none (.mv (.k (AV.int .i64 0)))]) (.block 0 (.loop [0, 1, 7, 8] [] (slicesIndexFuncScholiumApiThingScholiumApiThing_c0)))) (slicesIndexFuncScholiumApiThingScholiumApiThing_c1))
def slicesIndexFuncScholiumApiThingScholiumApiThing : AFunc := ⟨2, 19, [.tmp 4], slicesIndexFuncScholiumApiThingScholiumApiThing_c2⟩
def slicesIndexFuncScholiumApiThingScholiumApiThingr (R : Nat → List AV → Option Res) (N : Nat) (l1 : List AV) (f1 : Nat) (c1 : List AV) : Option Res :=
  slicesIndexFuncScholiumApiThingScholiumApiThing_L1 R N
    (fun i6 =>
    some ⟨AV.int .i64 i6, false, []⟩)
    (
    some ⟨AV.int .i64 (-1), false, []⟩)
    N l1 f1 c1 ((l1.length : Nat) : Int) 0
theorem slicesIndexFuncScholiumApiThingScholiumApiThing_eq (R : Nat → List AV → Option Res) (N : Nat) (l1 : List AV) (f1 : Nat) (c1 : List AV) : runF gl R N slicesIndexFuncScholiumApiThingScholiumApiThing [AV.row 4 l1, AV.fn f1 c1] = slicesIndexFuncScholiumApiThingScholiumApiThingr R N l1 f1 c1 := by
  refine Eq.trans (b :=
    rounds [0, 1, 7, 8] [] (evC gl R N slicesIndexFuncScholiumApiThingScholiumApiThing_c0) (Kblock 0 (Kthen gl R N slicesIndexFuncScholiumApiThingScholiumApiThing_c1 (Kret slicesIndexFuncScholiumApiThingScholiumApiThing.rets []))) N ⟨[(0, .imm (AV.row 4 l1)), (1, .imm (AV.fn f1 c1)), (7, .imm (AV.int .i64 ((l1.length : Nat) : Int))), (8, .imm (AV.int .i64 0))], []⟩) (by kernel_rfl) ?_
  simp (config := { maxSteps := 100000000 }) only [slicesIndexFuncScholiumApiThingScholiumApiThing_L1_eq]
  kernel_rfl
theorem slicesIndexFuncScholiumApiThingScholiumApiThing_fit : fitF Tryd.prog slicesIndexFuncScholiumApiThingScholiumApiThing Tryd.f77 = true := by
  kernel_rfl

def slicesContainsFuncScholiumApiThingScholiumApiThing_c0 : AC := .seq (.region [.op (some 4) none (.mv (.k (AV.bool false)))]) (.seq (.region [.op (some 5) none (.mv (.t 0)), .op (some 6) none (.mv (.t 1)), .op (some 7) none (.call id_slicesIndexFuncScholiumApiThingScholiumApiThing [.t 5, .t 6] (.int .i64)), .op (some 8) none (.bin .geq (.t 7) (.k (AV.int .i64 0))), .op (some 4) none (.mv (.t 8))]) (.ret [4] []))
def slicesContainsFuncScholiumApiThingScholiumApiThing : AFunc := ⟨2, 9, [.tmp 4], slicesContainsFuncScholiumApiThingScholiumApiThing_c0⟩
def slicesContainsFuncScholiumApiThingScholiumApiThingr (R : Nat → List AV → Option Res) (N : Nat) (l1 : List AV) (f1 : Nat) (c1 : List AV) : Option Res :=
  (R id_slicesIndexFuncScholiumApiThingScholiumApiThing [AV.row 4 l1, AV.fn f1 c1]).bind fun r1 =>
  asI .i64 r1.v fun i1 =>
  some ⟨AV.bool (decide ((i1 : Int) ≥ 0)), false, []⟩
theorem slicesContainsFuncScholiumApiThingScholiumApiThing_eq (R : Nat → List AV → Option Res) (N : Nat) (l1 : List AV) (f1 : Nat) (c1 : List AV) : runF gl R N slicesContainsFuncScholiumApiThingScholiumApiThing [AV.row 4 l1, AV.fn f1 c1] = slicesContainsFuncScholiumApiThingScholiumApiThingr R N l1 f1 c1 := by
  kernel_rfl
theorem slicesContainsFuncScholiumApiThingScholiumApiThing_fit : fitF Tryd.prog slicesContainsFuncScholiumApiThingScholiumApiThing Tryd.f50 = true := by
  kernel_rfl

def isoValid_c0 : AC := .seq (.region [.op (some 1) none (.box 1001 (.t 0) 1), .op (some 2) none (.mv (.k (AV.bool false)))]) (.seq (.region [.op (some 3) none (.load (.t 1) none (.row 4)), .op (some 4) none (.len (.t 3) false), .op (some 5) none (.bin .gtr (.t 4) (.k (AV.int .i64 0))), .op (some 6) none (.mv (.t 5)), .split 6, .op (some 7) (some (6, true)) (.load (.t 1) none (.row 4)), .op (some 8) (some (6, true)) (.mkFnC id_isoValid1 [.t 1]), .op (some 9) (some (6, true)) (.call id_slicesContainsFuncScholiumApiThingScholiumApiThing [.t 7, .t 8] (.bool)), .op (some 10) (some (6, true)) (.un .not (.t 9)), .op (some 11) none (.pick (.t 6) (.t 10) (.k (AV.bool false))), .op (some 2) none (.mv (.t 11))]) (.ret [2] []))
def isoValid : AFunc := ⟨1, 12, [.tmp 2], isoValid_c0⟩
def isoValidr (R : Nat → List AV → Option Res) (N : Nat) (l1 : List AV) : Option Res :=
  bif decide ((((l1.length : Nat) : Int) : Int) > 0) then
    ((R id_slicesContainsFuncScholiumApiThingScholiumApiThing [AV.row 4 l1, AV.fn id_isoValid1 [AV.cell [AV.row 4 l1]]]).bind fun r1 =>
    asB r1.v fun b1 =>
    some ⟨AV.bool (!b1), false, []⟩)
  else
    some ⟨AV.bool false, false, []⟩
theorem isoValid_eq (R : Nat → List AV → Option Res) (N : Nat) (l1 : List AV) : runF gl R N isoValid [AV.row 4 l1] = isoValidr R N l1 := by
  kernel_rfl
theorem isoValid_fit : fitF Tryd.prog isoValid Tryd.f19 = true := by
  kernel_rfl

def slicesCloneIntInt_c0 : AC := .seq (.region [.op (some 2) none (.nilOwn 5 (some (1, .any)))]) (.seq (.seq (.regionE [.op (some 3) none (.mv (.t 0))] (.t 3) 4 false) (.cond (.t 4) (.seq (.region [.op (some 2) none (.nilOwn 5 (some (1, .any)))]) (.ret [2] [5])) (.skip))) (.seq (.region [.op (some 5) none (.bsliceOwn 5 [] 1 .any false), .op (some 6) none (.mv (.t 0)), .op (some 7) none (.app 5 (.t 5) (.t 6) 1 .any false), .op (some 2) none (.mv (.t 7))]) (.ret [2] [5])))
def slicesCloneIntInt : AFunc := ⟨1, 8, [.tmp 2], slicesCloneIntInt_c0⟩
noncomputable def slicesCloneIntIntr (R : Nat → List AV → Option Res) (N : Nat) (l1 : List AV) : Option Res :=
  bif Nat.beq l1.length 0 then
    (anyN 2 fun j1 =>
    bif Nat.beq j1 0 then
    (some ⟨AV.row 1 ((([] : List AV).drop 0).take 0), true, []⟩)
    else
    need (decide (((([] : List AV).drop 0).take 0).length + l1.length ≤ 1099511627776)) <|
    some ⟨AV.row 1 (((((([] : List AV).drop 0).take 0) ++ l1 : List AV).drop 0).take ((((([] : List AV).drop 0).take 0) ++ l1).length)), true, []⟩)
  else
    need (decide (((([] : List AV).drop 0).take 0).length + l1.length ≤ 1099511627776)) <|
    some ⟨AV.row 1 (((((([] : List AV).drop 0).take 0) ++ l1 : List AV).drop 0).take ((((([] : List AV).drop 0).take 0) ++ l1).length)), true, []⟩
theorem slicesCloneIntInt_eq (R : Nat → List AV → Option Res) (N : Nat) (l1 : List AV) : runF gl R N slicesCloneIntInt [AV.row 1 l1] = slicesCloneIntIntr R N l1 := by
  kernel_rfl
theorem slicesCloneIntInt_fit : fitF Tryd.prog slicesCloneIntInt Tryd.f61 = true := by
  kernel_rfl

def isoOrder_L1s (R : Nat → List AV → Option Res) (N : Nat) (go : List AV → Nat → Nat → Nat → List AV → List AV → List AV → Option Res) (k0 : Nat → List AV → Option Res) (l9 : List AV) (n2 : Nat) (n3 : Nat) (n4 : Nat) (l10 : List AV) (l11 : List AV) (l12 : List AV) : Option Res :=
  bif decide ((((n4 : Nat) : Int) : Int) > 0) then
    (need (decide (0 ≤ (IntKind.i64.wrap (((n4 : Nat) : Int) - 1) : Int)) && decide ((IntKind.i64.wrap (((n4 : Nat) : Int) - 1) : Int) < ((n4 : Nat) : Int))) <|
    (l12[0 + Int.toNat (IntKind.i64.wrap (((n4 : Nat) : Int) - 1))]?).bind fun e5 =>
    (e5.flat[0]?).bind fun v3 =>
    asI .i64 v3 fun i3 =>
    need (decide (0 ≤ (IntKind.i64.wrap (((n4 : Nat) : Int) - 1) : Int)) && decide ((IntKind.i64.wrap (((n4 : Nat) : Int) - 1) : Int) ≤ ((n4 : Nat) : Int))) <|
    need (decide (0 ≤ (i3 : Int)) && decide ((i3 : Int) < ((n2 : Nat) : Int))) <|
    (l11[0 + Int.toNat i3]?).bind fun e6 =>
    (e6.flat[0]?).bind fun v4 =>
    asB v4 fun b2 =>
    bif b2 then
    (go l9 n2 n3 (Int.toNat (IntKind.i64.wrap (((n4 : Nat) : Int) - 1))) l10 l11 l12)
    else
    need (decide (0 ≤ (i3 : Int)) && decide ((i3 : Int) < ((n2 : Nat) : Int))) <|
    (l11[0 + Int.toNat i3]?).bind fun e7 =>
    needSt e7 (AV.bool true) 0 1 <|
    need (decide (((l10.drop 0).take n3).length + [AV.int .i64 i3].length ≤ 1099511627776)) <|
    need (decide (0 ≤ (i3 : Int))) <|
    (l9[Int.toNat i3]?).bind fun e8 =>
    asISSRA e8 fun i4 s3 s4 l13 =>
    (R id_slicesCloneIntInt [AV.row 1 l13]).bind fun r3 =>
    need r3.own <|
    asR 1 r3.v fun l14 =>
    need (Nat.beq l14.length l14.length) <|
    (R id_slicesReverseIntInt [AV.ref (AV.row 1 l14)]).bind fun r4 =>
    asC r4.outs fun o2 q2 =>
    asRf o2 fun c2 =>
    asR 1 c2 fun l15 =>
    asN q2 <|
    need (Nat.beq l15.length l14.length) <|
    as0T r4.v <|
    need (decide (((l12.drop 0).take (Int.toNat (IntKind.i64.wrap (((n4 : Nat) : Int) - 1)))).length + ((l15.drop 0).take l14.length).length ≤ 1099511627776)) <|
    go l9 n2 ((((l10.drop 0).take n3) ++ [AV.int .i64 i3]).length) ((((l12.drop 0).take (Int.toNat (IntKind.i64.wrap (((n4 : Nat) : Int) - 1)))) ++ ((l15.drop 0).take l14.length)).length) (((l10.drop 0).take n3) ++ [AV.int .i64 i3]) (l11.set (0 + Int.toNat i3) (AV.bool true)) (((l12.drop 0).take (Int.toNat (IntKind.i64.wrap (((n4 : Nat) : Int) - 1)))) ++ ((l15.drop 0).take l14.length)))
  else
    k0 n3 l10
def isoOrder_L1 (R : Nat → List AV → Option Res) (N : Nat) (k0 : Nat → List AV → Option Res) : Nat → List AV → Nat → Nat → Nat → List AV → List AV → List AV → Option Res
  | 0, _, _, _, _, _, _, _ => none
  | n + 1, l9, n2, n3, n4, l10, l11, l12 => isoOrder_L1s R N (isoOrder_L1 R N k0 n) k0 l9 n2 n3 n4 l10 l11 l12
def isoOrder_c0 : AC := .seq (.seq (.region [.op (some 12) none (.mv (.t 5)), .op (some 13) none (.len (.t 12) false), .op (some 14) none (.bin .gtr (.t 13) (.k (AV.int .i64 0)))]) (.cond (.t 14) (.skip) (.exit 0 [4] [4]))) (.block 1 (.seq (.region [.op (some 15) none (.mv (.t 5)), .op (some 16) none (.mv (.t 5)), .op (some 17) none (.len (.t 16) false), .op (some 18) none (.bin .sub (.t 17) (.k (AV.int .i64 1))), .op (some 19) none (.iaddr (.t 15) (.t 18) 1 (.int .i64)), .op (some 20) none (.load (.t 19) none (.int .i64)), .op (some 6) none (.mv (.t 20))]) (.seq (.region [.op (some 21) none (.mv (.t 5)), .op (some 22) none (.mv (.t 5)), .op (some 23) none (.len (.t 22) false), .op (some 24) none (.bin .sub (.t 23) (.k (AV.int .i64 1))), .op (some 25) none (.slice (.t 21) none (some (.t 24)) 1), .op (some 5) none (.mv (.t 25))]) (.seq (.seq (.region [.op (some 26) none (.mv (.t 3)), .op (some 27) none (.mv (.t 6)), .op (some 28) none (.iaddr (.t 26) (.t 27) 1 (.bool)), .op (some 29) none (.load (.t 28) none (.bool))]) (.cond (.t 29) (.exit 1 [0, 3, 4, 5] [4, 10, 11]) (.skip))) (.seq (.region [.op (some 30) none (.mv (.t 3)), .op (some 31) none (.mv (.t 6)), .op (some 32) none (.iaddr (.t 30) (.t 31) 1 (.bool)), .op none none (.store (.t 32) (.k (AV.bool true)) 1)]) (.seq (.region [.op (some 33) none (.mv (.t 4)), .op (some 34) none (.mv (.t 6)), .op (some 35) none (.bslice [.t 34] 1 false), .op (some 36) none (.app 4 (.t 33) (.t 35) 1 .any false), .op (some 4) none (.mv (.t 36))]) (.seq (.region [.op (some 37) none (.mv (.t 0)), .op (some 38) none (.mv (.t 6)), .op (some 39) none (.iaddr (.t 37) (.t 38) 4 (.agg [.int .i64, .str, .str, .row 1])), .op (some 40) none (.faddr (.t 39) 3), .op (some 41) none (.load (.t 40) none (.row 1)), .op (some 42) none (.callOwn 42 id_slicesCloneIntInt [.t 41] 1 .any false), .op (some 7) none (.mv (.t 42))]) (.seq (.region [.op (some 43) none (.mv (.t 7)), .op (some 44) none (.callM none id_slicesReverseIntInt [.t 43] [true] [some (.row 1)] (.tup []))]) (.region [.op (some 45) none (.mv (.t 5)), .op (some 46) none (.mv (.t 7)), .op (some 47) none (.app 11 (.t 45) (.t 46) 1 .any false), .op (some 5) none (.mv (.t 47))])))))))))
theorem isoOrder_L1s_eq (R : Nat → List AV → Option Res) (N : Nat) (K : Ex → St → Option Res) (W : St → Option Res) (l9 : List AV) (n2 : Nat) (n3 : Nat) (n4 : Nat) (l10 : List AV) (l11 : List AV) (l12 : List AV) :
    evC gl R N isoOrder_c0 (Kseq (fun st' => W (prune [0, 3, 4, 5] [4, 10, 11] st')) K) ⟨[(0, .imm (AV.row 4 l9)), (3, .own 10 0 n2 none), (4, .own 4 0 n3 none), (5, .own 11 0 n4 none)], [(4, .row 1 l10 false), (10, .row 1 l11 false), (11, .row 1 l12 false)]⟩ =
    isoOrder_L1s R N (fun (l9 : List AV) (n2 : Nat) (n3 : Nat) (n4 : Nat) (l10 : List AV) (l11 : List AV) (l12 : List AV) => W ⟨[(0, .imm (AV.row 4 l9)), (3, .own 10 0 n2 none), (4, .own 4 0 n3 none), (5, .own 11 0 n4 none)], [(4, .row 1 l10 false), (10, .row 1 l11 false), (11, .row 1 l12 false)]⟩) (fun (n5 : Nat) (l16 : List AV) => K (.exit 0) ⟨[(4, .own 4 0 n5 none)], [(4, .row 1 l16 false)]⟩) l9 n2 n3 n4 l10 l11 l12 := by
  kernel_rfl
theorem isoOrder_L1_eq (R : Nat → List AV → Option Res) (N : Nat) (K : Ex → St → Option Res) : ∀ (n : Nat) (l9 : List AV) (n2 : Nat) (n3 : Nat) (n4 : Nat) (l10 : List AV) (l11 : List AV) (l12 : List AV),
    rounds [0, 3, 4, 5] [4, 10, 11] (evC gl R N isoOrder_c0) K n ⟨[(0, .imm (AV.row 4 l9)), (3, .own 10 0 n2 none), (4, .own 4 0 n3 none), (5, .own 11 0 n4 none)], [(4, .row 1 l10 false), (10, .row 1 l11 false), (11, .row 1 l12 false)]⟩ = isoOrder_L1 R N (fun (n5 : Nat) (l16 : List AV) => K (.exit 0) ⟨[(4, .own 4 0 n5 none)], [(4, .row 1 l16 false)]⟩) n l9 n2 n3 n4 l10 l11 l12
  | 0, _, _, _, _, _, _, _ => rfl
  | n + 1, l9, n2, n3, n4, l10, l11, l12 => (isoOrder_L1s_eq R N K (rounds [0, 3, 4, 5] [4, 10, 11] (evC gl R N isoOrder_c0) K n) l9 n2 n3 n4 l10 l11 l12).trans
      (congrArg (fun go => isoOrder_L1s R N go (fun (n5 : Nat) (l16 : List AV) => K (.exit 0) ⟨[(4, .own 4 0 n5 none)], [(4, .row 1 l16 false)]⟩) l9 n2 n3 n4 l10 l11 l12) (funext fun l9 => funext fun n2 => funext fun n3 => funext fun n4 => funext fun l10 => funext fun l11 => funext fun l12 => isoOrder_L1_eq R N K n l9 n2 n3 n4 l10 l11 l12))
def isoOrder_c1 : AC := .seq (.region [.op (some 48) none (.mv (.t 4)), .op (some 2) none (.mv (.t 48))]) (.ret [2] [4])
def isoOrder_c2 : AC := .seq (.region [.op (some 2) none (.nilOwn 4 (some (1, .any)))]) (.seq (.region [.op (some 8) none (.mv (.t 0)), .op (some 9) none (.len (.t 8) false), .op (some 10) none (.mkOwn 10 (.t 9) 1 (AV.bool false) false), .op (some 3) none (.mv (.t 10))]) (.seq (.region [.op (some 4) none (.nilOwn 4 (some (1, .any)))]) (.seq (.region [.op (some 11) none (.bsliceOwn 11 [.k (AV.int .i64 0)] 1 .any false), .op (some 5) none (.mv (.t 11))]) (.seq (.block 0 (.loop [0, 3, 4, 5] [4, 10, 11] (isoOrder_c0))) (isoOrder_c1)))))
def isoOrder : AFunc := ⟨1, 49, [.tmp 2], isoOrder_c2⟩
def isoOrderr (R : Nat → List AV → Option Res) (N : Nat) (l1 : List AV) : Option Res :=
  need (decide (0 ≤ (((l1.length : Nat) : Int) : Int)) && decide ((((l1.length : Nat) : Int) : Int) ≤ 1099511627776)) <|
  isoOrder_L1 R N
    (fun n7 l18 =>
    some ⟨AV.row 1 ((l18.drop 0).take n7), true, []⟩)
    N l1 (Int.toNat ((l1.length : Nat) : Int)) 0 1 [] (List.replicate (Int.toNat ((l1.length : Nat) : Int)) (AV.bool false)) [AV.int .i64 0]
theorem isoOrder_eq (R : Nat → List AV → Option Res) (N : Nat) (l1 : List AV) : runF gl R N isoOrder [AV.row 4 l1] = isoOrderr R N l1 := by
  refine Eq.trans (b :=
    need (decide (0 ≤ (((l1.length : Nat) : Int) : Int)) && decide ((((l1.length : Nat) : Int) : Int) ≤ 1099511627776)) <|
    rounds [0, 3, 4, 5] [4, 10, 11] (evC gl R N isoOrder_c0) (Kblock 0 (Kthen gl R N isoOrder_c1 (Kret isoOrder.rets []))) N ⟨[(0, .imm (AV.row 4 l1)), (3, .own 10 0 (Int.toNat ((l1.length : Nat) : Int)) none), (4, .own 4 0 0 none), (5, .own 11 0 1 none)], [(4, .row 1 [] false), (10, .row 1 (List.replicate (Int.toNat ((l1.length : Nat) : Int)) (AV.bool false)) false), (11, .row 1 [AV.int .i64 0] false)]⟩) (by kernel_rfl) ?_
  simp (config := { maxSteps := 100000000 }) only [isoOrder_L1_eq]
  kernel_rfl
theorem isoOrder_fit : fitF Tryd.prog isoOrder Tryd.f60 = true := by
  kernel_rfl

def isoCanon_L1s (R : Nat → List AV → Option Res) (N : Nat) (go : List AV → List AV → Nat → List AV → Int → Int → List AV → Option Res) (k0 : List AV → List AV → Nat → List AV → Option Res) (l3 : List AV) (l4 : List AV) (n1 : Nat) (l5 : List AV) (i1 : Int) (i2 : Int) (l6 : List AV) : Option Res :=
  bif decide ((i2 : Int) < i1) then
    (need (decide (0 ≤ (i2 : Int))) <|
    (l5[Int.toNat i2]?).bind fun e1 =>
    asI .i64 e1 fun i3 =>
    need (decide (0 ≤ (i3 : Int)) && decide ((i3 : Int) < ((n1 : Nat) : Int))) <|
    (l6[0 + Int.toNat i3]?).bind fun e2 =>
    needSt e2 (AV.int .i64 i2) 0 1 <|
    go l3 l4 n1 l5 i1 (IntKind.i64.wrap (i2 + 1)) (l6.set (0 + Int.toNat i3) (AV.int .i64 i2)))
  else
    k0 l3 l4 n1 l6
def isoCanon_L1 (R : Nat → List AV → Option Res) (N : Nat) (k0 : List AV → List AV → Nat → List AV → Option Res) : Nat → List AV → List AV → Nat → List AV → Int → Int → List AV → Option Res
  | 0, _, _, _, _, _, _, _ => none
  | n + 1, l3, l4, n1, l5, i1, i2, l6 => isoCanon_L1s R N (isoCanon_L1 R N k0 n) k0 l3 l4 n1 l5 i1 i2 l6
def isoCanon_c0 : AC := .seq (.region [.op (some 24) none (.bin .lss (.t 23) (.t 22))]) (.seq (.cond (.t 24) (.skip) (.exit 0 [0, 3, 4] [20])) (.seq (.block 1 (.seq (.region [.op (some 25) none (.mv (.t 23)), .op (some 26) none (.iaddr (.t 21) (.t 23) 1 (.int .i64)), .op (some 27) none (.load (.t 26) none (.int .i64)), .op (some 5) none (.mv (.t 25)), .op (some 6) none (.mv (.t 27))]) (.region [.op (some 28) none (.mv (.t 4)), .op (some 29) none (.mv (.t 6)), .op (some 30) none (.mv (.t 5)), .op (some 31) none (.iaddr (.t 28) (.t 29) 1 (.int .i64)), .op none none (.store (.t 31) (.t 30) 1)]))) (.region [.op (some 32) none (.bin .add (.t 23) (.k (AV.int .i64 1))), .op (some 23) none (.mv (.t 32))])))
theorem isoCanon_L1s_eq (R : Nat → List AV → Option Res) (N : Nat) (K : Ex → St → Option Res) (W : St → Option Res) (l3 : List AV) (l4 : List AV) (n1 : Nat) (l5 : List AV) (i1 : Int) (i2 : Int) (l6 : List AV) :
    evC gl R N isoCanon_c0 (Kseq (fun st' => W (prune [0, 3, 4, 21, 22, 23] [20] st')) K) ⟨[(0, .imm (AV.row 4 l3)), (3, .imm (AV.row 1 l4)), (4, .own 20 0 n1 none), (21, .imm (AV.row 1 l5)), (22, .imm (AV.int .i64 i1)), (23, .imm (AV.int .i64 i2))], [(20, .row 1 l6 false)]⟩ =
    isoCanon_L1s R N (fun (l3 : List AV) (l4 : List AV) (n1 : Nat) (l5 : List AV) (i1 : Int) (i2 : Int) (l6 : List AV) => W ⟨[(0, .imm (AV.row 4 l3)), (3, .imm (AV.row 1 l4)), (4, .own 20 0 n1 none), (21, .imm (AV.row 1 l5)), (22, .imm (AV.int .i64 i1)), (23, .imm (AV.int .i64 i2))], [(20, .row 1 l6 false)]⟩) (fun (l7 : List AV) (l8 : List AV) (n2 : Nat) (l9 : List AV) => K (.exit 0) ⟨[(0, .imm (AV.row 4 l7)), (3, .imm (AV.row 1 l8)), (4, .own 20 0 n2 none)], [(20, .row 1 l9 false)]⟩) l3 l4 n1 l5 i1 i2 l6 := by
  kernel_rfl
theorem isoCanon_L1_eq (R : Nat → List AV → Option Res) (N : Nat) (K : Ex → St → Option Res) : ∀ (n : Nat) (l3 : List AV) (l4 : List AV) (n1 : Nat) (l5 : List AV) (i1 : Int) (i2 : Int) (l6 : List AV),
    rounds [0, 3, 4, 21, 22, 23] [20] (evC gl R N isoCanon_c0) K n ⟨[(0, .imm (AV.row 4 l3)), (3, .imm (AV.row 1 l4)), (4, .own 20 0 n1 none), (21, .imm (AV.row 1 l5)), (22, .imm (AV.int .i64 i1)), (23, .imm (AV.int .i64 i2))], [(20, .row 1 l6 false)]⟩ = isoCanon_L1 R N (fun (l7 : List AV) (l8 : List AV) (n2 : Nat) (l9 : List AV) => K (.exit 0) ⟨[(0, .imm (AV.row 4 l7)), (3, .imm (AV.row 1 l8)), (4, .own 20 0 n2 none)], [(20, .row 1 l9 false)]⟩) n l3 l4 n1 l5 i1 i2 l6
  | 0, _, _, _, _, _, _, _ => rfl
  | n + 1, l3, l4, n1, l5, i1, i2, l6 => (isoCanon_L1s_eq R N K (rounds [0, 3, 4, 21, 22, 23] [20] (evC gl R N isoCanon_c0) K n) l3 l4 n1 l5 i1 i2 l6).trans
      (congrArg (fun go => isoCanon_L1s R N go (fun (l7 : List AV) (l8 : List AV) (n2 : Nat) (l9 : List AV) => K (.exit 0) ⟨[(0, .imm (AV.row 4 l7)), (3, .imm (AV.row 1 l8)), (4, .own 20 0 n2 none)], [(20, .row 1 l9 false)]⟩) l3 l4 n1 l5 i1 i2 l6) (funext fun l3 => funext fun l4 => funext fun n1 => funext fun l5 => funext fun i1 => funext fun i2 => funext fun l6 => isoCanon_L1_eq R N K n l3 l4 n1 l5 i1 i2 l6))
def isoCanon_L3s (R : Nat → List AV → Option Res) (N : Nat) (go : List AV → Nat → Nat → List AV → Int → Int → Nat → Int → Int → List AV → List AV → List AV → Int → List UInt8 → List UInt8 → Nat → Option Res) (k0 : List AV → Nat → Nat → List AV → Int → Int → List AV → List AV → List AV → Int → List UInt8 → List UInt8 → Nat → Option Res) (l27 : List AV) (n7 : Nat) (n8 : Nat) (l28 : List AV) (i15 : Int) (i16 : Int) (n9 : Nat) (i17 : Int) (i18 : Int) (l29 : List AV) (l30 : List AV) (l31 : List AV) (i19 : Int) (s5 : List UInt8) (s6 : List UInt8) (n10 : Nat) : Option Res :=
  bif decide ((i18 : Int) < i17) then
    (need (decide (0 ≤ (i18 : Int)) && decide ((i18 : Int) < ((n9 : Nat) : Int))) <|
    (l31[0 + Int.toNat i18]?).bind fun e8 =>
    (e8.flat[0]?).bind fun v3 =>
    asI .i64 v3 fun i20 =>
    need (decide (0 ≤ (i20 : Int)) && decide ((i20 : Int) < ((n7 : Nat) : Int))) <|
    (l30[0 + Int.toNat i20]?).bind fun e9 =>
    (e9.flat[0]?).bind fun v4 =>
    asI .i64 v4 fun i21 =>
    need (decide (0 ≤ (i18 : Int)) && decide ((i18 : Int) < ((n10 : Nat) : Int))) <|
    (l31[0 + Int.toNat i18]?).bind fun e10 =>
    needSt e10 (AV.int .i64 i21) 0 1 <|
    go l27 n7 n8 l28 i15 i16 n9 i17 (IntKind.i64.wrap (i18 + 1)) l29 l30 (l31.set (0 + Int.toNat i18) (AV.int .i64 i21)) i19 s5 s6 n10)
  else
    k0 l27 n7 n8 l28 i15 i16 l29 l30 l31 i19 s5 s6 n10
def isoCanon_L3 (R : Nat → List AV → Option Res) (N : Nat) (k0 : List AV → Nat → Nat → List AV → Int → Int → List AV → List AV → List AV → Int → List UInt8 → List UInt8 → Nat → Option Res) : Nat → List AV → Nat → Nat → List AV → Int → Int → Nat → Int → Int → List AV → List AV → List AV → Int → List UInt8 → List UInt8 → Nat → Option Res
  | 0, _, _, _, _, _, _, _, _, _, _, _, _, _, _, _, _ => none
  | n + 1, l27, n7, n8, l28, i15, i16, n9, i17, i18, l29, l30, l31, i19, s5, s6, n10 => isoCanon_L3s R N (isoCanon_L3 R N k0 n) k0 l27 n7 n8 l28 i15 i16 n9 i17 i18 l29 l30 l31 i19 s5 s6 n10
def isoCanon_c1 : AC := .seq (.region [.op (some 51) none (.bin .lss (.t 50) (.t 49))]) (.seq (.cond (.t 51) (.skip) (.exit 4 [0, 4, 7, 10, 33, 34, 35] [7, 20, 45, 1010])) (.seq (.block 5 (.seq (.region [.op (some 52) none (.mv (.t 50)), .op (some 53) none (.iaddr (.t 48) (.t 50) 1 (.int .i64)), .op (some 54) none (.load (.t 53) none (.int .i64)), .op (some 11) none (.mv (.t 52)), .op (some 12) none (.mv (.t 54))]) (.regionD [0, 4, 7, 10, 33, 34, 35, 48, 49, 50] [7, 20, 45, 1010] [.op (some 55) none (.faddr (.t 10) 3), .op (some 56) none (.load (.t 55) none (.row 1)), .op (some 57) none (.mv (.t 11)), .op (some 58) none (.mv (.t 4)), .op (some 59) none (.mv (.t 12)), .op (some 60) none (.iaddr (.t 58) (.t 59) 1 (.int .i64)), .op (some 61) none (.load (.t 60) none (.int .i64)), .op (some 62) none (.iaddr (.t 56) (.t 57) 1 (.int .i64))] [.op none none (.store (.t 62) (.t 61) 1)]))) (.region [.op (some 63) none (.bin .add (.t 50) (.k (AV.int .i64 1))), .op (some 50) none (.mv (.t 63))])))
theorem isoCanon_L3s_eq (R : Nat → List AV → Option Res) (N : Nat) (K : Ex → St → Option Res) (W : St → Option Res) (l27 : List AV) (n7 : Nat) (n8 : Nat) (l28 : List AV) (i15 : Int) (i16 : Int) (n9 : Nat) (i17 : Int) (i18 : Int) (l29 : List AV) (l30 : List AV) (l31 : List AV) (i19 : Int) (s5 : List UInt8) (s6 : List UInt8) (n10 : Nat) :
    evC gl R N isoCanon_c1 (Kseq (fun st' => W (prune [0, 4, 7, 10, 33, 34, 35, 48, 49, 50] [7, 20, 45, 1010] st')) K) ⟨[(0, .imm (AV.row 4 l27)), (4, .own 20 0 n7 none), (7, .own 7 0 n8 none), (10, .ptr 1010 0 0), (33, .imm (AV.row 1 l28)), (34, .imm (AV.int .i64 i15)), (35, .imm (AV.int .i64 i16)), (48, .own 45 0 n9 none), (49, .imm (AV.int .i64 i17)), (50, .imm (AV.int .i64 i18))], [(7, .row 4 l29 false), (20, .row 1 l30 false), (45, .row 1 l31 false), (1010, .box [.imm (AV.int .i64 i19), .imm (AV.str s5), .imm (AV.str s6), .own 45 0 n10 none])]⟩ =
    isoCanon_L3s R N (fun (l27 : List AV) (n7 : Nat) (n8 : Nat) (l28 : List AV) (i15 : Int) (i16 : Int) (n9 : Nat) (i17 : Int) (i18 : Int) (l29 : List AV) (l30 : List AV) (l31 : List AV) (i19 : Int) (s5 : List UInt8) (s6 : List UInt8) (n10 : Nat) => W ⟨[(0, .imm (AV.row 4 l27)), (4, .own 20 0 n7 none), (7, .own 7 0 n8 none), (10, .ptr 1010 0 0), (33, .imm (AV.row 1 l28)), (34, .imm (AV.int .i64 i15)), (35, .imm (AV.int .i64 i16)), (48, .own 45 0 n9 none), (49, .imm (AV.int .i64 i17)), (50, .imm (AV.int .i64 i18))], [(7, .row 4 l29 false), (20, .row 1 l30 false), (45, .row 1 l31 false), (1010, .box [.imm (AV.int .i64 i19), .imm (AV.str s5), .imm (AV.str s6), .own 45 0 n10 none])]⟩) (fun (l32 : List AV) (n11 : Nat) (n12 : Nat) (l33 : List AV) (i22 : Int) (i23 : Int) (l34 : List AV) (l35 : List AV) (l36 : List AV) (i24 : Int) (s7 : List UInt8) (s8 : List UInt8) (n13 : Nat) => K (.exit 4) ⟨[(0, .imm (AV.row 4 l32)), (4, .own 20 0 n11 none), (7, .own 7 0 n12 none), (10, .ptr 1010 0 0), (33, .imm (AV.row 1 l33)), (34, .imm (AV.int .i64 i22)), (35, .imm (AV.int .i64 i23))], [(7, .row 4 l34 false), (20, .row 1 l35 false), (45, .row 1 l36 false), (1010, .box [.imm (AV.int .i64 i24), .imm (AV.str s7), .imm (AV.str s8), .own 45 0 n13 none])]⟩) l27 n7 n8 l28 i15 i16 n9 i17 i18 l29 l30 l31 i19 s5 s6 n10 := by
  kernel_rfl
theorem isoCanon_L3_eq (R : Nat → List AV → Option Res) (N : Nat) (K : Ex → St → Option Res) : ∀ (n : Nat) (l27 : List AV) (n7 : Nat) (n8 : Nat) (l28 : List AV) (i15 : Int) (i16 : Int) (n9 : Nat) (i17 : Int) (i18 : Int) (l29 : List AV) (l30 : List AV) (l31 : List AV) (i19 : Int) (s5 : List UInt8) (s6 : List UInt8) (n10 : Nat),
    rounds [0, 4, 7, 10, 33, 34, 35, 48, 49, 50] [7, 20, 45, 1010] (evC gl R N isoCanon_c1) K n ⟨[(0, .imm (AV.row 4 l27)), (4, .own 20 0 n7 none), (7, .own 7 0 n8 none), (10, .ptr 1010 0 0), (33, .imm (AV.row 1 l28)), (34, .imm (AV.int .i64 i15)), (35, .imm (AV.int .i64 i16)), (48, .own 45 0 n9 none), (49, .imm (AV.int .i64 i17)), (50, .imm (AV.int .i64 i18))], [(7, .row 4 l29 false), (20, .row 1 l30 false), (45, .row 1 l31 false), (1010, .box [.imm (AV.int .i64 i19), .imm (AV.str s5), .imm (AV.str s6), .own 45 0 n10 none])]⟩ = isoCanon_L3 R N (fun (l32 : List AV) (n11 : Nat) (n12 : Nat) (l33 : List AV) (i22 : Int) (i23 : Int) (l34 : List AV) (l35 : List AV) (l36 : List AV) (i24 : Int) (s7 : List UInt8) (s8 : List UInt8) (n13 : Nat) => K (.exit 4) ⟨[(0, .imm (AV.row 4 l32)), (4, .own 20 0 n11 none), (7, .own 7 0 n12 none), (10, .ptr 1010 0 0), (33, .imm (AV.row 1 l33)), (34, .imm (AV.int .i64 i22)), (35, .imm (AV.int .i64 i23))], [(7, .row 4 l34 false), (20, .row 1 l35 false), (45, .row 1 l36 false), (1010, .box [.imm (AV.int .i64 i24), .imm (AV.str s7), .imm (AV.str s8), .own 45 0 n13 none])]⟩) n l27 n7 n8 l28 i15 i16 n9 i17 i18 l29 l30 l31 i19 s5 s6 n10
  | 0, _, _, _, _, _, _, _, _, _, _, _, _, _, _, _, _ => rfl
  | n + 1, l27, n7, n8, l28, i15, i16, n9, i17, i18, l29, l30, l31, i19, s5, s6, n10 => (isoCanon_L3s_eq R N K (rounds [0, 4, 7, 10, 33, 34, 35, 48, 49, 50] [7, 20, 45, 1010] (evC gl R N isoCanon_c1) K n) l27 n7 n8 l28 i15 i16 n9 i17 i18 l29 l30 l31 i19 s5 s6 n10).trans
      (congrArg (fun go => isoCanon_L3s R N go (fun (l32 : List AV) (n11 : Nat) (n12 : Nat) (l33 : List AV) (i22 : Int) (i23 : Int) (l34 : List AV) (l35 : List AV) (l36 : List AV) (i24 : Int) (s7 : List UInt8) (s8 : List UInt8) (n13 : Nat) => K (.exit 4) ⟨[(0, .imm (AV.row 4 l32)), (4, .own 20 0 n11 none), (7, .own 7 0 n12 none), (10, .ptr 1010 0 0), (33, .imm (AV.row 1 l33)), (34, .imm (AV.int .i64 i22)), (35, .imm (AV.int .i64 i23))], [(7, .row 4 l34 false), (20, .row 1 l35 false), (45, .row 1 l36 false), (1010, .box [.imm (AV.int .i64 i24), .imm (AV.str s7), .imm (AV.str s8), .own 45 0 n13 none])]⟩) l27 n7 n8 l28 i15 i16 n9 i17 i18 l29 l30 l31 i19 s5 s6 n10) (funext fun l27 => funext fun n7 => funext fun n8 => funext fun l28 => funext fun i15 => funext fun i16 => funext fun n9 => funext fun i17 => funext fun i18 => funext fun l29 => funext fun l30 => funext fun l31 => funext fun i19 => funext fun s5 => funext fun s6 => funext fun n10 => isoCanon_L3_eq R N K n l27 n7 n8 l28 i15 i16 n9 i17 i18 l29 l30 l31 i19 s5 s6 n10))
def isoCanon_L2s (R : Nat → List AV → Option Res) (N : Nat) (go : List AV → Nat → List AV → Int → Int → List AV → List AV → Option Res) (k0 : List AV → Option Res) (l16 : List AV) (n5 : Nat) (l17 : List AV) (i4 : Int) (i5 : Int) (l18 : List AV) (l19 : List AV) : Option Res :=
  bif decide ((i5 : Int) < i4) then
    (need (decide (0 ≤ (i5 : Int))) <|
    (l17[Int.toNat i5]?).bind fun e3 =>
    asI .i64 e3 fun i6 =>
    need (decide (0 ≤ (i6 : Int))) <|
    (l16[Int.toNat i6]?).bind fun e4 =>
    asISSRA e4 fun i7 s1 s2 l20 =>
    (R id_slicesCloneIntInt [AV.row 1 l20]).bind fun r2 =>
    need r2.own <|
    asR 1 r2.v fun l21 =>
    isoCanon_L3 R N
      (fun l42 n17 n18 l43 i28 i29 l44 l45 l46 i30 s11 s12 n19 =>
    need (decide (((l44.drop 0).take n18).length + [AV.agg [AV.int .i64 i30, AV.str s11, AV.str s12, AV.row 1 ((l46.drop 0).take n19)]].length ≤ 1099511627776)) <|
    go l42 n17 l43 i28 (IntKind.i64.wrap (i29 + 1)) (((l44.drop 0).take n18) ++ [AV.agg [AV.int .i64 i30, AV.str s11, AV.str s12, AV.row 1 ((l46.drop 0).take n19)]]) l45)
      N l16 n5 l18.length l17 i4 i5 l21.length ((l21.length : Nat) : Int) 0 l18 l19 l21 i7 s1 s2 l21.length)
  else
    k0 l18
def isoCanon_L2 (R : Nat → List AV → Option Res) (N : Nat) (k0 : List AV → Option Res) : Nat → List AV → Nat → List AV → Int → Int → List AV → List AV → Option Res
  | 0, _, _, _, _, _, _, _ => none
  | n + 1, l16, n5, l17, i4, i5, l18, l19 => isoCanon_L2s R N (isoCanon_L2 R N k0 n) k0 l16 n5 l17 i4 i5 l18 l19
def isoCanon_c2 : AC := .region [.op (some 64) none (.mv (.t 7)), .op (some 65) none (.loadG (.t 10) 4 (.agg [.int .i64, .str, .str, .row 1])), .op (some 66) none (.bslice [.t 65] 4 false), .op (some 67) none (.app 7 (.t 64) (.t 66) 4 .any false), .op (some 7) none (.mv (.t 67))]
def isoCanon_c3 : AC := .region [.op (some 68) none (.bin .add (.t 35) (.k (AV.int .i64 1))), .op (some 35) none (.mv (.t 68))]
def isoCanon_c4 : AC := .seq (.region [.op (some 36) none (.bin .lss (.t 35) (.t 34))]) (.seq (.cond (.t 36) (.skip) (.exit 2 [7] [7])) (.seq (.block 3 (.seq (.region [.op (some 37) none (.iaddr (.t 33) (.t 35) 1 (.int .i64)), .op (some 38) none (.load (.t 37) none (.int .i64)), .op (some 9) none (.mv (.t 38))]) (.seq (.region [.op (some 39) none (.mv (.t 0)), .op (some 40) none (.mv (.t 9)), .op (some 41) none (.iaddr (.t 39) (.t 40) 4 (.agg [.int .i64, .str, .str, .row 1])), .op (some 42) none (.load (.t 41) (some 4) (.agg [.int .i64, .str, .str, .row 1])), .op (some 10) none (.alloc 1010 [AV.int .i64 0, AV.str [], AV.str [], AV.row 1 []]), .op none none (.store (.t 10) (.t 42) 4)]) (.seq (.region [.op (some 43) none (.faddr (.t 10) 3), .op (some 44) none (.load (.t 43) none (.row 1)), .op (some 45) none (.callOwn 45 id_slicesCloneIntInt [.t 44] 1 .any false), .op (some 46) none (.faddr (.t 10) 3), .op none none (.store (.t 46) (.t 45) 1)]) (.seq (.seq (.region [.op (some 47) none (.faddr (.t 10) 3), .op (some 48) none (.load (.t 47) none (.row 1)), .op (some 49) none (.len (.t 48) false), .op (some 50) none (.mv (.k (AV.int .i64 0)))]) (.block 4 (.loop [0, 4, 7, 10, 33, 34, 35, 48, 49, 50] [7, 20, 45, 1010] (isoCanon_c1)))) (isoCanon_c2)))))) (isoCanon_c3)))
theorem isoCanon_L2s_eq (R : Nat → List AV → Option Res) (N : Nat) (K : Ex → St → Option Res) (W : St → Option Res) (l16 : List AV) (n5 : Nat) (l17 : List AV) (i4 : Int) (i5 : Int) (l18 : List AV) (l19 : List AV) :
    evC gl R N isoCanon_c4 (Kseq (fun st' => W (prune [0, 4, 7, 33, 34, 35] [7, 20] st')) K) ⟨[(0, .imm (AV.row 4 l16)), (4, .own 20 0 n5 none), (7, .own 7 0 l18.length none), (33, .imm (AV.row 1 l17)), (34, .imm (AV.int .i64 i4)), (35, .imm (AV.int .i64 i5))], [(7, .row 4 l18 false), (20, .row 1 l19 false)]⟩ =
    isoCanon_L2s R N (fun (l16 : List AV) (n5 : Nat) (l17 : List AV) (i4 : Int) (i5 : Int) (l18 : List AV) (l19 : List AV) => W ⟨[(0, .imm (AV.row 4 l16)), (4, .own 20 0 n5 none), (7, .own 7 0 l18.length none), (33, .imm (AV.row 1 l17)), (34, .imm (AV.int .i64 i4)), (35, .imm (AV.int .i64 i5))], [(7, .row 4 l18 false), (20, .row 1 l19 false)]⟩) (fun (l47 : List AV) => K (.exit 2) ⟨[(7, .own 7 0 l47.length none)], [(7, .row 4 l47 false)]⟩) l16 n5 l17 i4 i5 l18 l19 := by
  refine Eq.trans (b :=
    bif decide ((i5 : Int) < i4) then
    (need (decide (0 ≤ (i5 : Int))) <|
    (l17[Int.toNat i5]?).bind fun e3 =>
    asI .i64 e3 fun i6 =>
    need (decide (0 ≤ (i6 : Int))) <|
    (l16[Int.toNat i6]?).bind fun e4 =>
    asISSRA e4 fun i7 s1 s2 l20 =>
    (R id_slicesCloneIntInt [AV.row 1 l20]).bind fun r2 =>
    need r2.own <|
    asR 1 r2.v fun l21 =>
    rounds [0, 4, 7, 10, 33, 34, 35, 48, 49, 50] [7, 20, 45, 1010] (evC gl R N isoCanon_c1) (Kblock 4 (Kthen gl R N isoCanon_c2 (Kblock 3 (Kthen gl R N isoCanon_c3 (Kseq (fun st' => W (prune [0, 4, 7, 33, 34, 35] [7, 20] st')) K))))) N ⟨[(0, .imm (AV.row 4 l16)), (4, .own 20 0 n5 none), (7, .own 7 0 l18.length none), (10, .ptr 1010 0 0), (33, .imm (AV.row 1 l17)), (34, .imm (AV.int .i64 i4)), (35, .imm (AV.int .i64 i5)), (48, .own 45 0 l21.length none), (49, .imm (AV.int .i64 ((l21.length : Nat) : Int))), (50, .imm (AV.int .i64 0))], [(7, .row 4 l18 false), (20, .row 1 l19 false), (45, .row 1 l21 false), (1010, .box [.imm (AV.int .i64 i7), .imm (AV.str s1), .imm (AV.str s2), .own 45 0 l21.length none])]⟩)
    else
    (fun (l48 : List AV) => K (.exit 2) ⟨[(7, .own 7 0 l48.length none)], [(7, .row 4 l48 false)]⟩) l18) (by kernel_rfl) ?_
  simp (config := { maxSteps := 100000000 }) only [isoCanon_L3_eq]
  kernel_rfl
theorem isoCanon_L2_eq (R : Nat → List AV → Option Res) (N : Nat) (K : Ex → St → Option Res) : ∀ (n : Nat) (l16 : List AV) (n5 : Nat) (l17 : List AV) (i4 : Int) (i5 : Int) (l18 : List AV) (l19 : List AV),
    rounds [0, 4, 7, 33, 34, 35] [7, 20] (evC gl R N isoCanon_c4) K n ⟨[(0, .imm (AV.row 4 l16)), (4, .own 20 0 n5 none), (7, .own 7 0 l18.length none), (33, .imm (AV.row 1 l17)), (34, .imm (AV.int .i64 i4)), (35, .imm (AV.int .i64 i5))], [(7, .row 4 l18 false), (20, .row 1 l19 false)]⟩ = isoCanon_L2 R N (fun (l47 : List AV) => K (.exit 2) ⟨[(7, .own 7 0 l47.length none)], [(7, .row 4 l47 false)]⟩) n l16 n5 l17 i4 i5 l18 l19
  | 0, _, _, _, _, _, _, _ => rfl
  | n + 1, l16, n5, l17, i4, i5, l18, l19 => (isoCanon_L2s_eq R N K (rounds [0, 4, 7, 33, 34, 35] [7, 20] (evC gl R N isoCanon_c4) K n) l16 n5 l17 i4 i5 l18 l19).trans
      (congrArg (fun go => isoCanon_L2s R N go (fun (l47 : List AV) => K (.exit 2) ⟨[(7, .own 7 0 l47.length none)], [(7, .row 4 l47 false)]⟩) l16 n5 l17 i4 i5 l18 l19) (funext fun l16 => funext fun n5 => funext fun l17 => funext fun i4 => funext fun i5 => funext fun l18 => funext fun l19 => isoCanon_L2_eq R N K n l16 n5 l17 i4 i5 l18 l19))
def isoCanon_c5 : AC := .seq (.region [.op (some 69) none (.mv (.t 7)), .op (some 2) none (.mv (.t 69))]) (.ret [2] [7])
def isoCanon_c6 : AC := .seq (.region [.op (some 7) none (.nilOwn 7 (some (4, .any)))]) (.seq (.seq (.region [.op (some 33) none (.mv (.t 3)), .op (some 34) none (.len (.t 33) false), .op (some 35) none (.mv (.k (AV.int .i64 0)))]) (.block 2 (.loop [0, 4, 7, 33, 34, 35] [7, 20] (isoCanon_c4)))) (isoCanon_c5))
def isoCanon_c7 : AC := .seq (.region [.op (some 2) none (.nilOwn 7 (some (4, .any)))]) (.seq (.seq (.region [.op (some 13) none (.mv (.t 0)), .op (some 14) none (.len (.t 13) false), .op (some 15) none (.bin .eql (.t 14) (.k (AV.int .i64 0)))]) (.cond (.t 15) (.seq (.region [.op (some 2) none (.nilOwn 7 (some (4, .any)))]) (.ret [2] [7])) (.skip))) (.seq (.region [.op (some 16) none (.mv (.t 0)), .op (some 17) none (.call id_isoOrder [.t 16] (.row 1)), .op (some 3) none (.mv (.t 17))]) (.seq (.region [.op (some 18) none (.mv (.t 0)), .op (some 19) none (.len (.t 18) false), .op (some 20) none (.mkOwn 20 (.t 19) 1 (AV.int .i64 0) false), .op (some 4) none (.mv (.t 20))]) (.seq (.seq (.region [.op (some 21) none (.mv (.t 3)), .op (some 22) none (.len (.t 21) false), .op (some 23) none (.mv (.k (AV.int .i64 0)))]) (.block 0 (.loop [0, 3, 4, 21, 22, 23] [20] (isoCanon_c0)))) (isoCanon_c6)))))
def isoCanon : AFunc := ⟨1, 70, [.tmp 2], isoCanon_c7⟩
def isoCanonr (R : Nat → List AV → Option Res) (N : Nat) (l1 : List AV) : Option Res :=
  bif (((l1.length : Nat) : Int) : Int) == 0 then
    (some ⟨AV.row 4 ((([] : List AV).drop 0).take 0), true, []⟩)
  else
    (R id_isoOrder [AV.row 4 l1]).bind fun r1 =>
    asR 1 r1.v fun l2 =>
    need (decide (0 ≤ (((l1.length : Nat) : Int) : Int)) && decide ((((l1.length : Nat) : Int) : Int) ≤ 1099511627776)) <|
    isoCanon_L1 R N
      (fun l13 l14 n4 l15 =>
    isoCanon_L2 R N
      (fun l49 =>
    some ⟨AV.row 4 ((l49.drop 0).take l49.length), true, []⟩)
      N l13 n4 l14 ((l14.length : Nat) : Int) 0 [] l15)
      N l1 l2 (Int.toNat ((l1.length : Nat) : Int)) l2 ((l2.length : Nat) : Int) 0 (List.replicate (Int.toNat ((l1.length : Nat) : Int)) (AV.int .i64 0))
theorem isoCanon_eq (R : Nat → List AV → Option Res) (N : Nat) (l1 : List AV) : runF gl R N isoCanon [AV.row 4 l1] = isoCanonr R N l1 := by
  refine Eq.trans (b :=
    bif (((l1.length : Nat) : Int) : Int) == 0 then
    (some ⟨AV.row 4 ((([] : List AV).drop 0).take 0), true, []⟩)
    else
    (R id_isoOrder [AV.row 4 l1]).bind fun r1 =>
    asR 1 r1.v fun l2 =>
    need (decide (0 ≤ (((l1.length : Nat) : Int) : Int)) && decide ((((l1.length : Nat) : Int) : Int) ≤ 1099511627776)) <|
    rounds [0, 3, 4, 21, 22, 23] [20] (evC gl R N isoCanon_c0) (Kblock 0 (Kthen gl R N isoCanon_c6 (Kret isoCanon.rets []))) N ⟨[(0, .imm (AV.row 4 l1)), (3, .imm (AV.row 1 l2)), (4, .own 20 0 (Int.toNat ((l1.length : Nat) : Int)) none), (21, .imm (AV.row 1 l2)), (22, .imm (AV.int .i64 ((l2.length : Nat) : Int))), (23, .imm (AV.int .i64 0))], [(20, .row 1 (List.replicate (Int.toNat ((l1.length : Nat) : Int)) (AV.int .i64 0)) false)]⟩) (by kernel_rfl) ?_
  simp (config := { maxSteps := 100000000 }) only [isoCanon_L1_eq, isoCanon_L2_eq]
  refine Eq.trans (b :=
    bif (((l1.length : Nat) : Int) : Int) == 0 then
    (some ⟨AV.row 4 ((([] : List AV).drop 0).take 0), true, []⟩)
    else
    (R id_isoOrder [AV.row 4 l1]).bind fun r1 =>
    asR 1 r1.v fun l2 =>
    need (decide (0 ≤ (((l1.length : Nat) : Int) : Int)) && decide ((((l1.length : Nat) : Int) : Int) ≤ 1099511627776)) <|
    isoCanon_L1 R N
      (fun l13 l14 n4 l15 =>
    rounds [0, 4, 7, 33, 34, 35] [7, 20] (evC gl R N isoCanon_c4) (Kblock 2 (Kthen gl R N isoCanon_c5 (Kret isoCanon.rets []))) N ⟨[(0, .imm (AV.row 4 l13)), (4, .own 20 0 n4 none), (7, .own 7 0 (([] : List AV).length) none), (33, .imm (AV.row 1 l14)), (34, .imm (AV.int .i64 ((l14.length : Nat) : Int))), (35, .imm (AV.int .i64 0))], [(7, .row 4 [] false), (20, .row 1 l15 false)]⟩)
      N l1 l2 (Int.toNat ((l1.length : Nat) : Int)) l2 ((l2.length : Nat) : Int) 0 (List.replicate (Int.toNat ((l1.length : Nat) : Int)) (AV.int .i64 0))) (by kernel_rfl) ?_
  simp (config := { maxSteps := 100000000 }) only [isoCanon_L1_eq, isoCanon_L2_eq]
  kernel_rfl
theorem isoCanon_fit : fitF Tryd.prog isoCanon Tryd.f26 = true := by
  kernel_rfl

def slicesEqualFuncScholiumApiThingScholiumApiThingScholiumApiThingScholiumApiThing_L1s (R : Nat → List AV → Option Res) (N : Nat) (go : List AV → Nat → List AV → List AV → Int → Int → Option Res) (k0 : Bool → Option Res) (k1 : Option Res) (l3 : List AV) (n1 : Nat) (l4 : List AV) (l5 : List AV) (i1 : Int) (i2 : Int) : Option Res :=
  bif decide ((i2 : Int) < i1) then
    (need (decide (0 ≤ (i2 : Int))) <|
    (l5[Int.toNat i2]?).bind fun e1 =>
    asISSRA e1 fun i3 s1 s2 l6 =>
    need (decide (0 ≤ (i2 : Int))) <|
    (l3[Int.toNat i2]?).bind fun e2 =>
    asISSRA e2 fun i4 s3 s4 l7 =>
    (R n1 ([AV.agg [AV.int .i64 i3, AV.str s1, AV.str s2, AV.row 1 l6], AV.agg [AV.int .i64 i4, AV.str s3, AV.str s4, AV.row 1 l7]] ++ l4)).bind fun r1 =>
    asB r1.v fun b1 =>
    bif !b1 then
    (k0 false)
    else
    go l3 n1 l4 l5 i1 (IntKind.i64.wrap (i2 + 1)))
  else
    k1
def slicesEqualFuncScholiumApiThingScholiumApiThingScholiumApiThingScholiumApiThing_L1 (R : Nat → List AV → Option Res) (N : Nat) (k0 : Bool → Option Res) (k1 : Option Res) : Nat → List AV → Nat → List AV → List AV → Int → Int → Option Res
  | 0, _, _, _, _, _, _ => none
  | n + 1, l3, n1, l4, l5, i1, i2 => slicesEqualFuncScholiumApiThingScholiumApiThingScholiumApiThingScholiumApiThing_L1s R N (slicesEqualFuncScholiumApiThingScholiumApiThingScholiumApiThingScholiumApiThing_L1 R N k0 k1 n) k0 k1 l3 n1 l4 l5 i1 i2
def slicesEqualFuncScholiumApiThingScholiumApiThingScholiumApiThingScholiumApiThing_c0 : AC := .seq (.region [.op (some 18) none (.bin .lss (.t 17) (.t 16))]) (.seq (.cond (.t 18) (.skip) (.exit 0 [] [])) (.seq (.block 1 (.seq (.region [.op (some 19) none (.mv (.t 17)), .op (some 20) none (.iaddr (.t 15) (.t 17) 4 (.agg [.int .i64, .str, .str, .row 1])), .op (some 21) none (.load (.t 20) (some 4) (.agg [.int .i64, .str, .str, .row 1])), .op (some 8) none (.alloc 1008 [AV.int .i64 0, AV.str [], AV.str [], AV.row 1 []]), .op (some 7) none (.mv (.t 19)), .op none none (.store (.t 8) (.t 21) 4)]) (.seq (.region [.op (some 22) none (.mv (.t 1)), .op (some 23) none (.mv (.t 7)), .op (some 24) none (.iaddr (.t 22) (.t 23) 4 (.agg [.int .i64, .str, .str, .row 1])), .op (some 25) none (.load (.t 24) (some 4) (.agg [.int .i64, .str, .str, .row 1])), .op (some 9) none (.alloc 1009 [AV.int .i64 0, AV.str [], AV.str [], AV.row 1 []]), .op none none (.store (.t 9) (.t 25) 4)]) (.seq (.region [.op (some 26) none (.mv (.t 2)), .op (some 27) none (.load (.t 8) (some 4) (.agg [.int .i64, .str, .str, .row 1])), .op (some 28) none (.load (.t 9) (some 4) (.agg [.int .i64, .str, .str, .row 1])), .op (some 29) none (.callF (.t 26) [.t 27, .t 28] (.bool)), .op (some 30) none (.un .not (.t 29))]) (.cond (.t 30) (.seq (.region [.op (some 6) none (.mv (.k (AV.bool false)))]) (.ret [6] [])) (.skip)))))) (.region [.op (some 31) none (.bin .add (.t 17) (.k (AV.int .i64 1))), .op (some 17) none (.mv (.t 31))])))
theorem slicesEqualFuncScholiumApiThingScholiumApiThingScholiumApiThingScholiumApiThing_L1s_eq (R : Nat → List AV → Option Res) (N : Nat) (K : Ex → St → Option Res) (W : St → Option Res) (l3 : List AV) (n1 : Nat) (l4 : List AV) (l5 : List AV) (i1 : Int) (i2 : Int) :
    evC gl R N slicesEqualFuncScholiumApiThingScholiumApiThingScholiumApiThingScholiumApiThing_c0 (Kseq (fun st' => W (prune [1, 2, 15, 16, 17] [] st')) K) ⟨[(1, .imm (AV.row 4 l3)), (2, .imm (AV.fn n1 l4)), (15, .imm (AV.row 4 l5)), (16, .imm (AV.int .i64 i1)), (17, .imm (AV.int .i64 i2))], []⟩ =
    slicesEqualFuncScholiumApiThingScholiumApiThingScholiumApiThingScholiumApiThing_L1s R N (fun (l3 : List AV) (n1 : Nat) (l4 : List AV) (l5 : List AV) (i1 : Int) (i2 : Int) => W ⟨[(1, .imm (AV.row 4 l3)), (2, .imm (AV.fn n1 l4)), (15, .imm (AV.row 4 l5)), (16, .imm (AV.int .i64 i1)), (17, .imm (AV.int .i64 i2))], []⟩) (fun (b2 : Bool) => K .ret ⟨[(6, .imm (AV.bool b2))], []⟩) (K (.exit 0) ⟨[], []⟩) l3 n1 l4 l5 i1 i2 := by
  kernel_rfl
theorem slicesEqualFuncScholiumApiThingScholiumApiThingScholiumApiThingScholiumApiThing_L1_eq (R : Nat → List AV → Option Res) (N : Nat) (K : Ex → St → Option Res) : ∀ (n : Nat) (l3 : List AV) (n1 : Nat) (l4 : List AV) (l5 : List AV) (i1 : Int) (i2 : Int),
    rounds [1, 2, 15, 16, 17] [] (evC gl R N slicesEqualFuncScholiumApiThingScholiumApiThingScholiumApiThingScholiumApiThing_c0) K n ⟨[(1, .imm (AV.row 4 l3)), (2, .imm (AV.fn n1 l4)), (15, .imm (AV.row 4 l5)), (16, .imm (AV.int .i64 i1)), (17, .imm (AV.int .i64 i2))], []⟩ = slicesEqualFuncScholiumApiThingScholiumApiThingScholiumApiThingScholiumApiThing_L1 R N (fun (b2 : Bool) => K .ret ⟨[(6, .imm (AV.bool b2))], []⟩) (K (.exit 0) ⟨[], []⟩) n l3 n1 l4 l5 i1 i2
  | 0, _, _, _, _, _, _ => rfl
  | n + 1, l3, n1, l4, l5, i1, i2 => (slicesEqualFuncScholiumApiThingScholiumApiThingScholiumApiThingScholiumApiThing_L1s_eq R N K (rounds [1, 2, 15, 16, 17] [] (evC gl R N slicesEqualFuncScholiumApiThingScholiumApiThingScholiumApiThingScholiumApiThing_c0) K n) l3 n1 l4 l5 i1 i2).trans
      (congrArg (fun go => slicesEqualFuncScholiumApiThingScholiumApiThingScholiumApiThingScholiumApiThing_L1s R N go (fun (b2 : Bool) => K .ret ⟨[(6, .imm (AV.bool b2))], []⟩) (K (.exit 0) ⟨[], []⟩) l3 n1 l4 l5 i1 i2) (funext fun l3 => funext fun n1 => funext fun l4 => funext fun l5 => funext fun i1 => funext fun i2 => slicesEqualFuncScholiumApiThingScholiumApiThingScholiumApiThingScholiumApiThing_L1_eq R N K n l3 n1 l4 l5 i1 i2))
def slicesEqualFuncScholiumApiThingScholiumApiThingScholiumApiThingScholiumApiThing_c1 : AC := .seq (.region [.op (some 6) none (.mv (.k (AV.bool true)))]) (.ret [6] [])
def slicesEqualFuncScholiumApiThingScholiumApiThingScholiumApiThingScholiumApiThing_c2 : AC := .seq (.region [.op (some 6) none (.mv (.k (AV.bool false)))]) (.seq (.seq (.region [.op (some 10) none (.mv (.t 0)), .op (some 11) none (.len (.t 10) false), .op (some 12) none (.mv (.t 1)), .op (some 13) none (.len (.t 12) false), .op (some 14) none (.bin .neq (.t 11) (.t 13))]) (.cond (.t 14) (.seq (.region [.op (some 6) none (.mv (.k (AV.bool false)))]) (.ret [6] [])) (.skip))) (.seq (.seq (.region [.op (some 15) none (.mv (.t 0)), .op (some 16) none (.len (.t 15) false), .op (some 17) none (.mv (.k (AV.int .i64 0)))]) (.block 0 (.loop [1, 2, 15, 16, 17] [] (slicesEqualFuncScholiumApiThingScholiumApiThingScholiumApiThingScholiumApiThing_c0)))) (slicesEqualFuncScholiumApiThingScholiumApiThingScholiumApiThingScholiumApiThing_c1)))
def slicesEqualFuncScholiumApiThingScholiumApiThingScholiumApiThingScholiumApiThing : AFunc := ⟨3, 32, [.tmp 6], slicesEqualFuncScholiumApiThingScholiumApiThingScholiumApiThingScholiumApiThing_c2⟩
def slicesEqualFuncScholiumApiThingScholiumApiThingScholiumApiThingScholiumApiThingr (R : Nat → List AV → Option Res) (N : Nat) (l1 : List AV) (l2 : List AV) (f1 : Nat) (c1 : List AV) : Option Res :=
  bif (((l1.length : Nat) : Int) : Int) != ((l2.length : Nat) : Int) then
    (some ⟨AV.bool false, false, []⟩)
  else
    slicesEqualFuncScholiumApiThingScholiumApiThingScholiumApiThingScholiumApiThing_L1 R N
      (fun b4 =>
    some ⟨AV.bool b4, false, []⟩)
      (
    some ⟨AV.bool true, false, []⟩)
      N l2 f1 c1 l1 ((l1.length : Nat) : Int) 0
theorem slicesEqualFuncScholiumApiThingScholiumApiThingScholiumApiThingScholiumApiThing_eq (R : Nat → List AV → Option Res) (N : Nat) (l1 : List AV) (l2 : List AV) (f1 : Nat) (c1 : List AV) : runF gl R N slicesEqualFuncScholiumApiThingScholiumApiThingScholiumApiThingScholiumApiThing [AV.row 4 l1, AV.row 4 l2, AV.fn f1 c1] = slicesEqualFuncScholiumApiThingScholiumApiThingScholiumApiThingScholiumApiThingr R N l1 l2 f1 c1 := by
  refine Eq.trans (b :=
    bif (((l1.length : Nat) : Int) : Int) != ((l2.length : Nat) : Int) then
    (some ⟨AV.bool false, false, []⟩)
    else
    rounds [1, 2, 15, 16, 17] [] (evC gl R N slicesEqualFuncScholiumApiThingScholiumApiThingScholiumApiThingScholiumApiThing_c0) (Kblock 0 (Kthen gl R N slicesEqualFuncScholiumApiThingScholiumApiThingScholiumApiThingScholiumApiThing_c1 (Kret slicesEqualFuncScholiumApiThingScholiumApiThingScholiumApiThingScholiumApiThing.rets []))) N ⟨[(1, .imm (AV.row 4 l2)), (2, .imm (AV.fn f1 c1)), (15, .imm (AV.row 4 l1)), (16, .imm (AV.int .i64 ((l1.length : Nat) : Int))), (17, .imm (AV.int .i64 0))], []⟩) (by kernel_rfl) ?_
  simp (config := { maxSteps := 100000000 }) only [slicesEqualFuncScholiumApiThingScholiumApiThingScholiumApiThingScholiumApiThing_L1_eq]
  kernel_rfl
theorem slicesEqualFuncScholiumApiThingScholiumApiThingScholiumApiThingScholiumApiThing_fit : fitF Tryd.prog slicesEqualFuncScholiumApiThingScholiumApiThingScholiumApiThingScholiumApiThing Tryd.f56 = true := by
  kernel_rfl

def isoSame_c0 : AC := .seq (.region [.op (some 4) none (.mv (.k (AV.bool false)))]) (.seq (.region [.op (some 5) none (.mv (.t 0)), .op (some 6) none (.call id_isoCanon [.t 5] (.row 4)), .op (some 7) none (.mv (.t 1)), .op (some 8) none (.call id_isoCanon [.t 7] (.row 4)), .op (some 9) none (.call id_slicesEqualFuncScholiumApiThingScholiumApiThingScholiumApiThingScholiumApiThing [.t 6, .t 8, .k (AV.fn id_isoSame1 [])] (.bool)), .op (some 4) none (.mv (.t 9))]) (.ret [4] []))
def isoSame : AFunc := ⟨2, 10, [.tmp 4], isoSame_c0⟩
def isoSamer (R : Nat → List AV → Option Res) (N : Nat) (l1 : List AV) (l2 : List AV) : Option Res :=
  (R id_isoCanon [AV.row 4 l1]).bind fun r1 =>
  asR 4 r1.v fun l3 =>
  (R id_isoCanon [AV.row 4 l2]).bind fun r2 =>
  asR 4 r2.v fun l4 =>
  (R id_slicesEqualFuncScholiumApiThingScholiumApiThingScholiumApiThingScholiumApiThing [AV.row 4 l3, AV.row 4 l4, AV.fn id_isoSame1 []]).bind fun r3 =>
  asB r3.v fun b1 =>
  some ⟨AV.bool b1, false, []⟩
theorem isoSame_eq (R : Nat → List AV → Option Res) (N : Nat) (l1 : List AV) (l2 : List AV) : runF gl R N isoSame [AV.row 4 l1, AV.row 4 l2] = isoSamer R N l1 l2 := by
  kernel_rfl
theorem isoSame_fit : fitF Tryd.prog isoSame Tryd.f23 = true := by
  kernel_rfl

def keepCopyApiThing_c0 : AC := .seq (.region [.op (some 2) none (.nilOwn 4 (some (4, .any)))]) (.seq (.region [.op (some 3) none (.mv (.t 0)), .op (some 4) none (.appNil 4 (.t 3) 4 false), .op (some 2) none (.mv (.t 4))]) (.ret [2] [4]))
def keepCopyApiThing : AFunc := ⟨1, 5, [.tmp 2], keepCopyApiThing_c0⟩
def keepCopyApiThingr (R : Nat → List AV → Option Res) (N : Nat) (l1 : List AV) : Option Res :=
  need (decide (l1.length ≤ 1099511627776)) <|
  some ⟨AV.row 4 ((l1.drop 0).take l1.length), true, []⟩
theorem keepCopyApiThing_eq (R : Nat → List AV → Option Res) (N : Nat) (l1 : List AV) : runF gl R N keepCopyApiThing [AV.row 4 l1] = keepCopyApiThingr R N l1 := by
  kernel_rfl
theorem keepCopyApiThing_fit : fitF Tryd.prog keepCopyApiThing Tryd.f28 = true := by
  kernel_rfl

def law18Wakes_c0 : AC := .seq (.region [.op (some 0) none (.mv (.k (AV.bool false)))]) (.seq (.region [.op (some 2) none (.build [AV.int .i64 0, AV.str [], AV.str [], AV.row 1 []] [(0, 1, .k (AV.int .i64 1)), (1, 1, .k (AV.str ([33, 33, 115, 116, 114] : List UInt8))), (2, 1, .k (AV.str ([97] : List UInt8)))]), .op (some 3) none (.bslice [.t 2] 4 false), .op (some 1) none (.mv (.t 3))]) (.seq (.regionX [0] [] [6, 10] [.op (some 4) none (.mv (.t 1)), .op (some 5) none (.mv (.t 1)), .op (some 6) none (.callOwn 6 id_keepCopyApiThing [.t 5] 4 .any false), .op (some 7) none (.mv (.t 1)), .op (some 8) none (.iaddr (.t 7) (.k (AV.int .i64 0)) 4 (.agg [.int .i64, .str, .str, .row 1])), .op (some 9) none (.load (.t 8) (some 4) (.agg [.int .i64, .str, .str, .row 1])), .op (some 10) none (.bslice [.t 9] 4 false)] (some 11) (.app 6 (.t 6) (.t 10) 4 .any false) [] [.op (some 12) none (.call id_isoSame [.t 4, .t 11] (.bool)), .op (some 13) none (.mv (.t 12)), .split 13, .op (some 14) (some (13, true)) (.mv (.t 1)), .op (some 15) (some (13, true)) (.call id_isoValid [.t 14] (.bool)), .op (some 16) none (.pick (.t 13) (.t 15) (.k (AV.bool false))), .op (some 17) none (.mv (.t 16)), .split 17, .op (some 18) (some (17, true)) (.call id_isoValid [.k (AV.row 4 [])] (.bool)), .op (some 19) (some (17, true)) (.un .not (.t 18)), .op (some 20) none (.pick (.t 17) (.t 19) (.k (AV.bool false))), .op (some 0) none (.mv (.t 20))]) (.ret [0] [])))
def law18Wakes : AFunc := ⟨0, 21, [.tmp 0], law18Wakes_c0⟩
def law18Wakesr (R : Nat → List AV → Option Res) (N : Nat) : Option Res :=
  (R id_keepCopyApiThing [AV.row 4 [AV.agg [AV.int .i64 1, AV.str ([33, 33, 115, 116, 114] : List UInt8), AV.str ([97] : List UInt8), AV.row 1 []]]]).bind fun r1 =>
  need r1.own <|
  asR 4 r1.v fun l1 =>
  need (decide (0 ≤ (0 : Int))) <|
  (([AV.agg [AV.int .i64 1, AV.str ([33, 33, 115, 116, 114] : List UInt8), AV.str ([97] : List UInt8), AV.row 1 []]] : List AV)[Int.toNat 0]?).bind fun e1 =>
  asISSRA e1 fun i1 s1 s2 l2 =>
  need (decide (((l1.drop 0).take l1.length).length + [AV.agg [AV.int .i64 i1, AV.str s1, AV.str s2, AV.row 1 l2]].length ≤ 1099511627776)) <|
  (R id_isoSame [AV.row 4 [AV.agg [AV.int .i64 1, AV.str ([33, 33, 115, 116, 114] : List UInt8), AV.str ([97] : List UInt8), AV.row 1 []]], AV.row 4 (((((l1.drop 0).take l1.length) ++ [AV.agg [AV.int .i64 i1, AV.str s1, AV.str s2, AV.row 1 l2]]).drop 0).take ((((l1.drop 0).take l1.length) ++ [AV.agg [AV.int .i64 i1, AV.str s1, AV.str s2, AV.row 1 l2]]).length))]).bind fun r2 =>
  asB r2.v fun b1 =>
  bif b1 then
    ((R id_isoValid [AV.row 4 [AV.agg [AV.int .i64 1, AV.str ([33, 33, 115, 116, 114] : List UInt8), AV.str ([97] : List UInt8), AV.row 1 []]]]).bind fun r3 =>
    asB r3.v fun b2 =>
    bif b2 then
    ((R id_isoValid [AV.row 4 []]).bind fun r4 =>
    asB r4.v fun b3 =>
    some ⟨AV.bool (!b3), false, []⟩)
    else
    some ⟨AV.bool false, false, []⟩)
  else
    some ⟨AV.bool false, false, []⟩
theorem law18Wakes_eq (R : Nat → List AV → Option Res) (N : Nat) : runF gl R N law18Wakes [] = law18Wakesr R N := by
  kernel_rfl
theorem law18Wakes_fit : fitF Tryd.prog law18Wakes Tryd.f20 = true := by
  kernel_rfl

def keepText_c0 : AC := .seq (.region [.op (some 4) none (.mv (.k (AV.str ([] : List UInt8))))]) (.seq (.region [.op (some 5) none (.mv (.t 0)), .op (some 6) none (.mv (.t 0)), .op (some 7) none (.len (.t 6) true), .op (some 8) none (.mv (.t 1)), .op (some 9) none (.mn [.t 7, .t 8]), .op (some 10) none (.sliceS (.t 5) none (some (.t 9))), .op (some 4) none (.mv (.t 10))]) (.ret [4] []))
def keepText : AFunc := ⟨2, 11, [.tmp 4], keepText_c0⟩
def keepTextr (R : Nat → List AV → Option Res) (N : Nat) (s1 : List UInt8) (i1 : Int) : Option Res :=
  need (decide (0 ≤ (if i1 < ((s1.length : Nat) : Int) then i1 else ((s1.length : Nat) : Int) : Int)) && decide ((if i1 < ((s1.length : Nat) : Int) then i1 else ((s1.length : Nat) : Int) : Int) ≤ ((s1.length : Nat) : Int))) <|
  some ⟨AV.str ((s1.take (Int.toNat (if i1 < ((s1.length : Nat) : Int) then i1 else ((s1.length : Nat) : Int)))).drop 0), false, []⟩
theorem keepText_eq (R : Nat → List AV → Option Res) (N : Nat) (s1 : List UInt8) (i1 : Int) : runF gl R N keepText [AV.str s1, AV.int .i64 i1] = keepTextr R N s1 i1 := by
  kernel_rfl
theorem keepText_fit : fitF Tryd.prog keepText Tryd.f35 = true := by
  kernel_rfl

def ref01Rune_L1s (R : Nat → List AV → Option Res) (N : Nat) (go : List UInt8 → Int → Int → Int → Int → Option Res) (k0 : Int → Int → Bool → Option Res) (k1 : Int → Int → Int → Option Res) (s2 : List UInt8) (i1 : Int) (i2 : Int) (i3 : Int) (i4 : Int) : Option Res :=
  bif decide ((i4 : Int) < i1) then
    (need (decide (0 ≤ (i4 : Int))) <|
    (s2[Int.toNat i4]?).bind fun c2 =>
    bif ((IntKind.u8.wrap (BitVec.ofInt IntKind.u8.bits (c2.toNat : Int) &&& BitVec.ofInt IntKind.u8.bits 192).toNat) : Int) != 128 then
    (k0 0 1 false)
    else
    need (!decide (6 < 0)) <|
    need (decide (0 ≤ (i4 : Int))) <|
    (s2[Int.toNat i4]?).bind fun c3 =>
    go s2 i1 i2 (IntKind.i32.wrap (BitVec.ofInt IntKind.i32.bits (IntKind.i32.wrap (i3 * 2 ^ (min (Int.toNat 6) IntKind.i32.bits))) ||| BitVec.ofInt IntKind.i32.bits (IntKind.i32.wrap (IntKind.u8.wrap (BitVec.ofInt IntKind.u8.bits (c3.toNat : Int) &&& BitVec.ofInt IntKind.u8.bits 63).toNat))).toNat) (IntKind.i64.wrap (i4 + 1)))
  else
    k1 i1 i2 i3
def ref01Rune_L1 (R : Nat → List AV → Option Res) (N : Nat) (k0 : Int → Int → Bool → Option Res) (k1 : Int → Int → Int → Option Res) : Nat → List UInt8 → Int → Int → Int → Int → Option Res
  | 0, _, _, _, _, _ => none
  | n + 1, s2, i1, i2, i3, i4 => ref01Rune_L1s R N (ref01Rune_L1 R N k0 k1 n) k0 k1 s2 i1 i2 i3 i4
def ref01Rune_c0 : AC := .seq (.seq (.region [.op (some 55) none (.mv (.t 9)), .op (some 56) none (.mv (.t 6)), .op (some 57) none (.bin .lss (.t 55) (.t 56))]) (.cond (.t 57) (.skip) (.exit 1 [6, 7, 8] []))) (.seq (.block 2 (.seq (.seq (.region [.op (some 60) none (.mv (.t 0)), .op (some 61) none (.mv (.t 9)), .op (some 62) none (.iaddr (.t 60) (.t 61) 1 (.int .u8)), .op (some 63) none (.load (.t 62) none (.int .u8)), .op (some 64) none (.bin .and (.t 63) (.k (AV.int .u8 192))), .op (some 65) none (.bin .neq (.t 64) (.k (AV.int .u8 128)))]) (.cond (.t 65) (.seq (.region [.op (some 2) none (.mv (.k (AV.int .i32 0))), .op (some 3) none (.mv (.k (AV.int .i64 1))), .op (some 4) none (.mv (.k (AV.bool false)))]) (.ret [2, 3, 4] [])) (.skip))) (.region [.op (some 66) none (.mv (.t 8)), .op (some 67) none (.bin .shl (.t 66) (.k (AV.int .u64 6))), .op (some 68) none (.mv (.t 0)), .op (some 69) none (.mv (.t 9)), .op (some 70) none (.iaddr (.t 68) (.t 69) 1 (.int .u8)), .op (some 71) none (.load (.t 70) none (.int .u8)), .op (some 72) none (.bin .and (.t 71) (.k (AV.int .u8 63))), .op (some 73) none (.cvInt .i32 (.t 72)), .op (some 74) none (.bin .or (.t 67) (.t 73)), .op (some 8) none (.mv (.t 74))]))) (.region [.op (some 58) none (.mv (.t 9)), .op (some 59) none (.bin .add (.t 58) (.k (AV.int .i64 1))), .op (some 9) none (.mv (.t 59))]))
theorem ref01Rune_L1s_eq (R : Nat → List AV → Option Res) (N : Nat) (K : Ex → St → Option Res) (W : St → Option Res) (s2 : List UInt8) (i1 : Int) (i2 : Int) (i3 : Int) (i4 : Int) :
    evC gl R N ref01Rune_c0 (Kseq (fun st' => W (prune [0, 6, 7, 8, 9] [] st')) K) ⟨[(0, .imm (AV.bytes s2)), (6, .imm (AV.int .i64 i1)), (7, .imm (AV.int .i32 i2)), (8, .imm (AV.int .i32 i3)), (9, .imm (AV.int .i64 i4))], []⟩ =
    ref01Rune_L1s R N (fun (s2 : List UInt8) (i1 : Int) (i2 : Int) (i3 : Int) (i4 : Int) => W ⟨[(0, .imm (AV.bytes s2)), (6, .imm (AV.int .i64 i1)), (7, .imm (AV.int .i32 i2)), (8, .imm (AV.int .i32 i3)), (9, .imm (AV.int .i64 i4))], []⟩) (fun (i5 : Int) (i6 : Int) (b1 : Bool) => K .ret ⟨[(2, .imm (AV.int .i32 i5)), (3, .imm (AV.int .i64 i6)), (4, .imm (AV.bool b1))], []⟩) (fun (i7 : Int) (i8 : Int) (i9 : Int) => K (.exit 1) ⟨[(6, .imm (AV.int .i64 i7)), (7, .imm (AV.int .i32 i8)), (8, .imm (AV.int .i32 i9))], []⟩) s2 i1 i2 i3 i4 := by
  kernel_rfl
theorem ref01Rune_L1_eq (R : Nat → List AV → Option Res) (N : Nat) (K : Ex → St → Option Res) : ∀ (n : Nat) (s2 : List UInt8) (i1 : Int) (i2 : Int) (i3 : Int) (i4 : Int),
    rounds [0, 6, 7, 8, 9] [] (evC gl R N ref01Rune_c0) K n ⟨[(0, .imm (AV.bytes s2)), (6, .imm (AV.int .i64 i1)), (7, .imm (AV.int .i32 i2)), (8, .imm (AV.int .i32 i3)), (9, .imm (AV.int .i64 i4))], []⟩ = ref01Rune_L1 R N (fun (i5 : Int) (i6 : Int) (b1 : Bool) => K .ret ⟨[(2, .imm (AV.int .i32 i5)), (3, .imm (AV.int .i64 i6)), (4, .imm (AV.bool b1))], []⟩) (fun (i7 : Int) (i8 : Int) (i9 : Int) => K (.exit 1) ⟨[(6, .imm (AV.int .i64 i7)), (7, .imm (AV.int .i32 i8)), (8, .imm (AV.int .i32 i9))], []⟩) n s2 i1 i2 i3 i4
  | 0, _, _, _, _, _ => rfl
  | n + 1, s2, i1, i2, i3, i4 => (ref01Rune_L1s_eq R N K (rounds [0, 6, 7, 8, 9] [] (evC gl R N ref01Rune_c0) K n) s2 i1 i2 i3 i4).trans
      (congrArg (fun go => ref01Rune_L1s R N go (fun (i5 : Int) (i6 : Int) (b1 : Bool) => K .ret ⟨[(2, .imm (AV.int .i32 i5)), (3, .imm (AV.int .i64 i6)), (4, .imm (AV.bool b1))], []⟩) (fun (i7 : Int) (i8 : Int) (i9 : Int) => K (.exit 1) ⟨[(6, .imm (AV.int .i64 i7)), (7, .imm (AV.int .i32 i8)), (8, .imm (AV.int .i32 i9))], []⟩) s2 i1 i2 i3 i4) (funext fun s2 => funext fun i1 => funext fun i2 => funext fun i3 => funext fun i4 => ref01Rune_L1_eq R N K n s2 i1 i2 i3 i4))
def ref01Rune_c1 : AC := .seq (.seq (.region [.op (some 75) none (.mv (.t 8)), .op (some 76) none (.mv (.t 7)), .op (some 77) none (.bin .lss (.t 75) (.t 76)), .op (some 78) none (.mv (.t 77)), .split 78, .op (some 79) (some (78, false)) (.mv (.t 8)), .op (some 80) (some (78, false)) (.bin .gtr (.t 79) (.k (AV.int .i32 1114111))), .op (some 81) none (.pick (.t 78) (.k (AV.bool true)) (.t 80)), .op (some 82) none (.mv (.t 81)), .split 82, .op (some 83) (some (82, false)) (.mv (.t 8)), .op (some 84) (some (82, false)) (.bin .geq (.t 83) (.k (AV.int .i32 55296))), .op (some 85) (some (82, false)) (.mv (.t 84)), .split 85, .op (some 86) (some (85, true)) (.mv (.t 8)), .op (some 87) (some (85, true)) (.bin .leq (.t 86) (.k (AV.int .i32 57343))), .op (some 88) (some (82, false)) (.pick (.t 85) (.t 87) (.k (AV.bool false))), .op (some 89) none (.pick (.t 82) (.k (AV.bool true)) (.t 88))]) (.cond (.t 89) (.seq (.region [.op (some 2) none (.mv (.k (AV.int .i32 0))), .op (some 3) none (.mv (.k (AV.int .i64 1))), .op (some 4) none (.mv (.k (AV.bool false)))]) (.ret [2, 3, 4] [])) (.skip))) (.seq (.region [.op (some 90) none (.mv (.t 8)), .op (some 91) none (.mv (.t 6)), .op (some 2) none (.mv (.t 90)), .op (some 3) none (.mv (.t 91)), .op (some 4) none (.mv (.k (AV.bool true)))]) (.ret [2, 3, 4] []))
def ref01Rune_c2 : AC := .seq (.region [.op (some 2) none (.mv (.k (AV.int .i32 0))), .op (some 3) none (.mv (.k (AV.int .i64 0))), .op (some 4) none (.mv (.k (AV.bool false)))]) (.seq (.seq (.region [.op (some 10) none (.mv (.t 0)), .op (some 11) none (.len (.t 10) false), .op (some 12) none (.bin .eql (.t 11) (.k (AV.int .i64 0)))]) (.cond (.t 12) (.seq (.region [.op (some 2) none (.mv (.k (AV.int .i32 0))), .op (some 3) none (.mv (.k (AV.int .i64 0))), .op (some 4) none (.mv (.k (AV.bool false)))]) (.ret [2, 3, 4] [])) (.skip))) (.seq (.region [.op (some 13) none (.mv (.t 0)), .op (some 14) none (.iaddr (.t 13) (.k (AV.int .i64 0)) 1 (.int .u8)), .op (some 15) none (.load (.t 14) none (.int .u8)), .op (some 5) none (.mv (.t 15))]) (.seq (.region [.op (some 6) none (.mv (.k (AV.int .i64 0))), .op (some 7) none (.mv (.k (AV.int .i32 0)))]) (.seq (.region [.op (some 8) none (.mv (.k (AV.int .i32 0)))]) (.seq (.block 0 (.seq (.region [.op (some 17) none (.mv (.t 5)), .op (some 18) none (.bin .lss (.t 17) (.k (AV.int .u8 128))), .op (some 16) none (.mv (.t 18))]) (.cond (.t 16) (.seq (.region [.op (some 19) none (.mv (.t 5)), .op (some 20) none (.cvInt .i32 (.t 19)), .op (some 2) none (.mv (.t 20)), .op (some 3) none (.mv (.k (AV.int .i64 1))), .op (some 4) none (.mv (.k (AV.bool true)))]) (.ret [2, 3, 4] [])) (.seq (.region [.op (some 22) none (.mv (.t 5)), .op (some 23) none (.bin .geq (.t 22) (.k (AV.int .u8 194))), .op (some 24) none (.mv (.t 23)), .split 24, .op (some 25) (some (24, true)) (.mv (.t 5)), .op (some 26) (some (24, true)) (.bin .leq (.t 25) (.k (AV.int .u8 223))), .op (some 27) none (.pick (.t 24) (.t 26) (.k (AV.bool false))), .op (some 21) none (.mv (.t 27))]) (.cond (.t 21) (.region [.op (some 28) none (.mv (.t 5)), .op (some 29) none (.bin .and (.t 28) (.k (AV.int .u8 31))), .op (some 30) none (.cvInt .i32 (.t 29)), .op (some 6) none (.mv (.k (AV.int .i64 2))), .op (some 7) none (.mv (.k (AV.int .i32 128))), .op (some 8) none (.mv (.t 30))]) (.seq (.region [.op (some 32) none (.mv (.t 5)), .op (some 33) none (.bin .geq (.t 32) (.k (AV.int .u8 224))), .op (some 34) none (.mv (.t 33)), .split 34, .op (some 35) (some (34, true)) (.mv (.t 5)), .op (some 36) (some (34, true)) (.bin .leq (.t 35) (.k (AV.int .u8 239))), .op (some 37) none (.pick (.t 34) (.t 36) (.k (AV.bool false))), .op (some 31) none (.mv (.t 37))]) (.cond (.t 31) (.region [.op (some 38) none (.mv (.t 5)), .op (some 39) none (.bin .and (.t 38) (.k (AV.int .u8 15))), .op (some 40) none (.cvInt .i32 (.t 39)), .op (some 6) none (.mv (.k (AV.int .i64 3))), .op (some 7) none (.mv (.k (AV.int .i32 2048))), .op (some 8) none (.mv (.t 40))]) (.seq (.region [.op (some 42) none (.mv (.t 5)), .op (some 43) none (.bin .geq (.t 42) (.k (AV.int .u8 240))), .op (some 44) none (.mv (.t 43)), .split 44, .op (some 45) (some (44, true)) (.mv (.t 5)), .op (some 46) (some (44, true)) (.bin .leq (.t 45) (.k (AV.int .u8 244))), .op (some 47) none (.pick (.t 44) (.t 46) (.k (AV.bool false))), .op (some 41) none (.mv (.t 47))]) (.cond (.t 41) (.region [.op (some 48) none (.mv (.t 5)), .op (some 49) none (.bin .and (.t 48) (.k (AV.int .u8 7))), .op (some 50) none (.cvInt .i32 (.t 49)), .op (some 6) none (.mv (.k (AV.int .i64 4))), .op (some 7) none (.mv (.k (AV.int .i32 65536))), .op (some 8) none (.mv (.t 50))]) (.seq (.region [.op (some 2) none (.mv (.k (AV.int .i32 0))), .op (some 3) none (.mv (.k (AV.int .i64 1))), .op (some 4) none (.mv (.k (AV.bool false)))]) (.ret [2, 3, 4] []))))))))))) (.seq (.seq (.region [.op (some 51) none (.mv (.t 0)), .op (some 52) none (.len (.t 51) false), .op (some 53) none (.mv (.t 6)), .op (some 54) none (.bin .lss (.t 52) (.t 53))]) (.cond (.t 54) (.seq (.region [.op (some 2) none (.mv (.k (AV.int .i32 0))), .op (some 3) none (.mv (.k (AV.int .i64 1))), .op (some 4) none (.mv (.k (AV.bool false)))]) (.ret [2, 3, 4] [])) (.skip))) (.seq (.seq (.region [.op (some 9) none (.mv (.k (AV.int .i64 1)))]) (.block 1 (.loop [0, 6, 7, 8, 9] [] (ref01Rune_c0)))) (ref01Rune_c1))))))))
def ref01Rune : AFunc := ⟨1, 92, [.tmp 2, .tmp 3, .tmp 4], ref01Rune_c2⟩
def ref01Runer (R : Nat → List AV → Option Res) (N : Nat) (s1 : List UInt8) : Option Res :=
  bif (((s1.length : Nat) : Int) : Int) == 0 then
    (some ⟨AV.tup [AV.int .i32 0, AV.int .i64 0, AV.bool false], false, []⟩)
  else
    need (decide (0 ≤ (0 : Int))) <|
    (s1[Int.toNat 0]?).bind fun c1 =>
    bif decide (((c1.toNat : Int) : Int) < 128) then
    (some ⟨AV.tup [AV.int .i32 (IntKind.i32.wrap (c1.toNat : Int)), AV.int .i64 1, AV.bool true], false, []⟩)
    else
    bif decide (((c1.toNat : Int) : Int) ≥ 194) then
    (bif decide (((c1.toNat : Int) : Int) ≤ 223) then
    (bif decide ((((s1.length : Nat) : Int) : Int) < 2) then
    (some ⟨AV.tup [AV.int .i32 0, AV.int .i64 1, AV.bool false], false, []⟩)
    else
    ref01Rune_L1 R N
      (fun i15 i16 b3 =>
    some ⟨AV.tup [AV.int .i32 i15, AV.int .i64 i16, AV.bool b3], false, []⟩)
      (fun i17 i18 i19 =>
    bif decide ((i19 : Int) < i18) then
    (some ⟨AV.tup [AV.int .i32 0, AV.int .i64 1, AV.bool false], false, []⟩)
    else
    bif decide ((i19 : Int) > 1114111) then
    (some ⟨AV.tup [AV.int .i32 0, AV.int .i64 1, AV.bool false], false, []⟩)
    else
    bif decide ((i19 : Int) ≥ 55296) then
    (bif decide ((i19 : Int) ≤ 57343) then
    (some ⟨AV.tup [AV.int .i32 0, AV.int .i64 1, AV.bool false], false, []⟩)
    else
    some ⟨AV.tup [AV.int .i32 i19, AV.int .i64 i17, AV.bool true], false, []⟩)
    else
    some ⟨AV.tup [AV.int .i32 i19, AV.int .i64 i17, AV.bool true], false, []⟩)
      N s1 2 128 (IntKind.i32.wrap (IntKind.u8.wrap (BitVec.ofInt IntKind.u8.bits (c1.toNat : Int) &&& BitVec.ofInt IntKind.u8.bits 31).toNat)) 1)
    else
    bif decide (((c1.toNat : Int) : Int) ≥ 224) then
    (bif decide (((c1.toNat : Int) : Int) ≤ 239) then
    (bif decide ((((s1.length : Nat) : Int) : Int) < 3) then
    (some ⟨AV.tup [AV.int .i32 0, AV.int .i64 1, AV.bool false], false, []⟩)
    else
    ref01Rune_L1 R N
      (fun i20 i21 b4 =>
    some ⟨AV.tup [AV.int .i32 i20, AV.int .i64 i21, AV.bool b4], false, []⟩)
      (fun i22 i23 i24 =>
    bif decide ((i24 : Int) < i23) then
    (some ⟨AV.tup [AV.int .i32 0, AV.int .i64 1, AV.bool false], false, []⟩)
    else
    bif decide ((i24 : Int) > 1114111) then
    (some ⟨AV.tup [AV.int .i32 0, AV.int .i64 1, AV.bool false], false, []⟩)
    else
    bif decide ((i24 : Int) ≥ 55296) then
    (bif decide ((i24 : Int) ≤ 57343) then
    (some ⟨AV.tup [AV.int .i32 0, AV.int .i64 1, AV.bool false], false, []⟩)
    else
    some ⟨AV.tup [AV.int .i32 i24, AV.int .i64 i22, AV.bool true], false, []⟩)
    else
    some ⟨AV.tup [AV.int .i32 i24, AV.int .i64 i22, AV.bool true], false, []⟩)
      N s1 3 2048 (IntKind.i32.wrap (IntKind.u8.wrap (BitVec.ofInt IntKind.u8.bits (c1.toNat : Int) &&& BitVec.ofInt IntKind.u8.bits 15).toNat)) 1)
    else
    bif decide (((c1.toNat : Int) : Int) ≥ 240) then
    (bif decide (((c1.toNat : Int) : Int) ≤ 244) then
    (bif decide ((((s1.length : Nat) : Int) : Int) < 4) then
    (some ⟨AV.tup [AV.int .i32 0, AV.int .i64 1, AV.bool false], false, []⟩)
    else
    ref01Rune_L1 R N
      (fun i25 i26 b5 =>
    some ⟨AV.tup [AV.int .i32 i25, AV.int .i64 i26, AV.bool b5], false, []⟩)
      (fun i27 i28 i29 =>
    bif decide ((i29 : Int) < i28) then
    (some ⟨AV.tup [AV.int .i32 0, AV.int .i64 1, AV.bool false], false, []⟩)
    else
    bif decide ((i29 : Int) > 1114111) then
    (some ⟨AV.tup [AV.int .i32 0, AV.int .i64 1, AV.bool false], false, []⟩)
    else
    bif decide ((i29 : Int) ≥ 55296) then
    (bif decide ((i29 : Int) ≤ 57343) then
    (some ⟨AV.tup [AV.int .i32 0, AV.int .i64 1, AV.bool false], false, []⟩)
    else
    some ⟨AV.tup [AV.int .i32 i29, AV.int .i64 i27, AV.bool true], false, []⟩)
    else
    some ⟨AV.tup [AV.int .i32 i29, AV.int .i64 i27, AV.bool true], false, []⟩)
      N s1 4 65536 (IntKind.i32.wrap (IntKind.u8.wrap (BitVec.ofInt IntKind.u8.bits (c1.toNat : Int) &&& BitVec.ofInt IntKind.u8.bits 7).toNat)) 1)
    else
    some ⟨AV.tup [AV.int .i32 0, AV.int .i64 1, AV.bool false], false, []⟩)
    else
    some ⟨AV.tup [AV.int .i32 0, AV.int .i64 1, AV.bool false], false, []⟩)
    else
    bif decide (((c1.toNat : Int) : Int) ≥ 240) then
    (bif decide (((c1.toNat : Int) : Int) ≤ 244) then
    (bif decide ((((s1.length : Nat) : Int) : Int) < 4) then
    (some ⟨AV.tup [AV.int .i32 0, AV.int .i64 1, AV.bool false], false, []⟩)
    else
    ref01Rune_L1 R N
      (fun i30 i31 b6 =>
    some ⟨AV.tup [AV.int .i32 i30, AV.int .i64 i31, AV.bool b6], false, []⟩)
      (fun i32 i33 i34 =>
    bif decide ((i34 : Int) < i33) then
    (some ⟨AV.tup [AV.int .i32 0, AV.int .i64 1, AV.bool false], false, []⟩)
    else
    bif decide ((i34 : Int) > 1114111) then
    (some ⟨AV.tup [AV.int .i32 0, AV.int .i64 1, AV.bool false], false, []⟩)
    else
    bif decide ((i34 : Int) ≥ 55296) then
    (bif decide ((i34 : Int) ≤ 57343) then
    (some ⟨AV.tup [AV.int .i32 0, AV.int .i64 1, AV.bool false], false, []⟩)
    else
    some ⟨AV.tup [AV.int .i32 i34, AV.int .i64 i32, AV.bool true], false, []⟩)
    else
    some ⟨AV.tup [AV.int .i32 i34, AV.int .i64 i32, AV.bool true], false, []⟩)
      N s1 4 65536 (IntKind.i32.wrap (IntKind.u8.wrap (BitVec.ofInt IntKind.u8.bits (c1.toNat : Int) &&& BitVec.ofInt IntKind.u8.bits 7).toNat)) 1)
    else
    some ⟨AV.tup [AV.int .i32 0, AV.int .i64 1, AV.bool false], false, []⟩)
    else
    some ⟨AV.tup [AV.int .i32 0, AV.int .i64 1, AV.bool false], false, []⟩)
    else
    bif decide (((c1.toNat : Int) : Int) ≥ 224) then
    (bif decide (((c1.toNat : Int) : Int) ≤ 239) then
    (bif decide ((((s1.length : Nat) : Int) : Int) < 3) then
    (some ⟨AV.tup [AV.int .i32 0, AV.int .i64 1, AV.bool false], false, []⟩)
    else
    ref01Rune_L1 R N
      (fun i35 i36 b7 =>
    some ⟨AV.tup [AV.int .i32 i35, AV.int .i64 i36, AV.bool b7], false, []⟩)
      (fun i37 i38 i39 =>
    bif decide ((i39 : Int) < i38) then
    (some ⟨AV.tup [AV.int .i32 0, AV.int .i64 1, AV.bool false], false, []⟩)
    else
    bif decide ((i39 : Int) > 1114111) then
    (some ⟨AV.tup [AV.int .i32 0, AV.int .i64 1, AV.bool false], false, []⟩)
    else
    bif decide ((i39 : Int) ≥ 55296) then
    (bif decide ((i39 : Int) ≤ 57343) then
    (some ⟨AV.tup [AV.int .i32 0, AV.int .i64 1, AV.bool false], false, []⟩)
    else
    some ⟨AV.tup [AV.int .i32 i39, AV.int .i64 i37, AV.bool true], false, []⟩)
    else
    some ⟨AV.tup [AV.int .i32 i39, AV.int .i64 i37, AV.bool true], false, []⟩)
      N s1 3 2048 (IntKind.i32.wrap (IntKind.u8.wrap (BitVec.ofInt IntKind.u8.bits (c1.toNat : Int) &&& BitVec.ofInt IntKind.u8.bits 15).toNat)) 1)
    else
    bif decide (((c1.toNat : Int) : Int) ≥ 240) then
    (bif decide (((c1.toNat : Int) : Int) ≤ 244) then
    (bif decide ((((s1.length : Nat) : Int) : Int) < 4) then
    (some ⟨AV.tup [AV.int .i32 0, AV.int .i64 1, AV.bool false], false, []⟩)
    else
    ref01Rune_L1 R N
      (fun i40 i41 b8 =>
    some ⟨AV.tup [AV.int .i32 i40, AV.int .i64 i41, AV.bool b8], false, []⟩)
      (fun i42 i43 i44 =>
    bif decide ((i44 : Int) < i43) then
    (some ⟨AV.tup [AV.int .i32 0, AV.int .i64 1, AV.bool false], false, []⟩)
    else
    bif decide ((i44 : Int) > 1114111) then
    (some ⟨AV.tup [AV.int .i32 0, AV.int .i64 1, AV.bool false], false, []⟩)
    else
    bif decide ((i44 : Int) ≥ 55296) then
    (bif decide ((i44 : Int) ≤ 57343) then
    (some ⟨AV.tup [AV.int .i32 0, AV.int .i64 1, AV.bool false], false, []⟩)
    else
    some ⟨AV.tup [AV.int .i32 i44, AV.int .i64 i42, AV.bool true], false, []⟩)
    else
    some ⟨AV.tup [AV.int .i32 i44, AV.int .i64 i42, AV.bool true], false, []⟩)
      N s1 4 65536 (IntKind.i32.wrap (IntKind.u8.wrap (BitVec.ofInt IntKind.u8.bits (c1.toNat : Int) &&& BitVec.ofInt IntKind.u8.bits 7).toNat)) 1)
    else
    some ⟨AV.tup [AV.int .i32 0, AV.int .i64 1, AV.bool false], false, []⟩)
    else
    some ⟨AV.tup [AV.int .i32 0, AV.int .i64 1, AV.bool false], false, []⟩)
    else
    bif decide (((c1.toNat : Int) : Int) ≥ 240) then
    (bif decide (((c1.toNat : Int) : Int) ≤ 244) then
    (bif decide ((((s1.length : Nat) : Int) : Int) < 4) then
    (some ⟨AV.tup [AV.int .i32 0, AV.int .i64 1, AV.bool false], false, []⟩)
    else
    ref01Rune_L1 R N
      (fun i45 i46 b9 =>
    some ⟨AV.tup [AV.int .i32 i45, AV.int .i64 i46, AV.bool b9], false, []⟩)
      (fun i47 i48 i49 =>
    bif decide ((i49 : Int) < i48) then
    (some ⟨AV.tup [AV.int .i32 0, AV.int .i64 1, AV.bool false], false, []⟩)
    else
    bif decide ((i49 : Int) > 1114111) then
    (some ⟨AV.tup [AV.int .i32 0, AV.int .i64 1, AV.bool false], false, []⟩)
    else
    bif decide ((i49 : Int) ≥ 55296) then
    (bif decide ((i49 : Int) ≤ 57343) then
    (some ⟨AV.tup [AV.int .i32 0, AV.int .i64 1, AV.bool false], false, []⟩)
    else
    some ⟨AV.tup [AV.int .i32 i49, AV.int .i64 i47, AV.bool true], false, []⟩)
    else
    some ⟨AV.tup [AV.int .i32 i49, AV.int .i64 i47, AV.bool true], false, []⟩)
      N s1 4 65536 (IntKind.i32.wrap (IntKind.u8.wrap (BitVec.ofInt IntKind.u8.bits (c1.toNat : Int) &&& BitVec.ofInt IntKind.u8.bits 7).toNat)) 1)
    else
    some ⟨AV.tup [AV.int .i32 0, AV.int .i64 1, AV.bool false], false, []⟩)
    else
    some ⟨AV.tup [AV.int .i32 0, AV.int .i64 1, AV.bool false], false, []⟩
theorem ref01Rune_eq (R : Nat → List AV → Option Res) (N : Nat) (s1 : List UInt8) : runF gl R N ref01Rune [AV.bytes s1] = ref01Runer R N s1 := by
  refine Eq.trans (b :=
    bif (((s1.length : Nat) : Int) : Int) == 0 then
    (some ⟨AV.tup [AV.int .i32 0, AV.int .i64 0, AV.bool false], false, []⟩)
    else
    need (decide (0 ≤ (0 : Int))) <|
    (s1[Int.toNat 0]?).bind fun c1 =>
    bif decide (((c1.toNat : Int) : Int) < 128) then
    (some ⟨AV.tup [AV.int .i32 (IntKind.i32.wrap (c1.toNat : Int)), AV.int .i64 1, AV.bool true], false, []⟩)
    else
    bif decide (((c1.toNat : Int) : Int) ≥ 194) then
    (bif decide (((c1.toNat : Int) : Int) ≤ 223) then
    (bif decide ((((s1.length : Nat) : Int) : Int) < 2) then
    (some ⟨AV.tup [AV.int .i32 0, AV.int .i64 1, AV.bool false], false, []⟩)
    else
    rounds [0, 6, 7, 8, 9] [] (evC gl R N ref01Rune_c0) (Kblock 1 (Kthen gl R N ref01Rune_c1 (Kret ref01Rune.rets []))) N ⟨[(0, .imm (AV.bytes s1)), (6, .imm (AV.int .i64 2)), (7, .imm (AV.int .i32 128)), (8, .imm (AV.int .i32 (IntKind.i32.wrap (IntKind.u8.wrap (BitVec.ofInt IntKind.u8.bits (c1.toNat : Int) &&& BitVec.ofInt IntKind.u8.bits 31).toNat)))), (9, .imm (AV.int .i64 1))], []⟩)
    else
    bif decide (((c1.toNat : Int) : Int) ≥ 224) then
    (bif decide (((c1.toNat : Int) : Int) ≤ 239) then
    (bif decide ((((s1.length : Nat) : Int) : Int) < 3) then
    (some ⟨AV.tup [AV.int .i32 0, AV.int .i64 1, AV.bool false], false, []⟩)
    else
    rounds [0, 6, 7, 8, 9] [] (evC gl R N ref01Rune_c0) (Kblock 1 (Kthen gl R N ref01Rune_c1 (Kret ref01Rune.rets []))) N ⟨[(0, .imm (AV.bytes s1)), (6, .imm (AV.int .i64 3)), (7, .imm (AV.int .i32 2048)), (8, .imm (AV.int .i32 (IntKind.i32.wrap (IntKind.u8.wrap (BitVec.ofInt IntKind.u8.bits (c1.toNat : Int) &&& BitVec.ofInt IntKind.u8.bits 15).toNat)))), (9, .imm (AV.int .i64 1))], []⟩)
    else
    bif decide (((c1.toNat : Int) : Int) ≥ 240) then
    (bif decide (((c1.toNat : Int) : Int) ≤ 244) then
    (bif decide ((((s1.length : Nat) : Int) : Int) < 4) then
    (some ⟨AV.tup [AV.int .i32 0, AV.int .i64 1, AV.bool false], false, []⟩)
    else
    rounds [0, 6, 7, 8, 9] [] (evC gl R N ref01Rune_c0) (Kblock 1 (Kthen gl R N ref01Rune_c1 (Kret ref01Rune.rets []))) N ⟨[(0, .imm (AV.bytes s1)), (6, .imm (AV.int .i64 4)), (7, .imm (AV.int .i32 65536)), (8, .imm (AV.int .i32 (IntKind.i32.wrap (IntKind.u8.wrap (BitVec.ofInt IntKind.u8.bits (c1.toNat : Int) &&& BitVec.ofInt IntKind.u8.bits 7).toNat)))), (9, .imm (AV.int .i64 1))], []⟩)
    else
    some ⟨AV.tup [AV.int .i32 0, AV.int .i64 1, AV.bool false], false, []⟩)
    else
    some ⟨AV.tup [AV.int .i32 0, AV.int .i64 1, AV.bool false], false, []⟩)
    else
    bif decide (((c1.toNat : Int) : Int) ≥ 240) then
    (bif decide (((c1.toNat : Int) : Int) ≤ 244) then
    (bif decide ((((s1.length : Nat) : Int) : Int) < 4) then
    (some ⟨AV.tup [AV.int .i32 0, AV.int .i64 1, AV.bool false], false, []⟩)
    else
    rounds [0, 6, 7, 8, 9] [] (evC gl R N ref01Rune_c0) (Kblock 1 (Kthen gl R N ref01Rune_c1 (Kret ref01Rune.rets []))) N ⟨[(0, .imm (AV.bytes s1)), (6, .imm (AV.int .i64 4)), (7, .imm (AV.int .i32 65536)), (8, .imm (AV.int .i32 (IntKind.i32.wrap (IntKind.u8.wrap (BitVec.ofInt IntKind.u8.bits (c1.toNat : Int) &&& BitVec.ofInt IntKind.u8.bits 7).toNat)))), (9, .imm (AV.int .i64 1))], []⟩)
    else
    some ⟨AV.tup [AV.int .i32 0, AV.int .i64 1, AV.bool false], false, []⟩)
    else
    some ⟨AV.tup [AV.int .i32 0, AV.int .i64 1, AV.bool false], false, []⟩)
    else
    bif decide (((c1.toNat : Int) : Int) ≥ 224) then
    (bif decide (((c1.toNat : Int) : Int) ≤ 239) then
    (bif decide ((((s1.length : Nat) : Int) : Int) < 3) then
    (some ⟨AV.tup [AV.int .i32 0, AV.int .i64 1, AV.bool false], false, []⟩)
    else
    rounds [0, 6, 7, 8, 9] [] (evC gl R N ref01Rune_c0) (Kblock 1 (Kthen gl R N ref01Rune_c1 (Kret ref01Rune.rets []))) N ⟨[(0, .imm (AV.bytes s1)), (6, .imm (AV.int .i64 3)), (7, .imm (AV.int .i32 2048)), (8, .imm (AV.int .i32 (IntKind.i32.wrap (IntKind.u8.wrap (BitVec.ofInt IntKind.u8.bits (c1.toNat : Int) &&& BitVec.ofInt IntKind.u8.bits 15).toNat)))), (9, .imm (AV.int .i64 1))], []⟩)
    else
    bif decide (((c1.toNat : Int) : Int) ≥ 240) then
    (bif decide (((c1.toNat : Int) : Int) ≤ 244) then
    (bif decide ((((s1.length : Nat) : Int) : Int) < 4) then
    (some ⟨AV.tup [AV.int .i32 0, AV.int .i64 1, AV.bool false], false, []⟩)
    else
    rounds [0, 6, 7, 8, 9] [] (evC gl R N ref01Rune_c0) (Kblock 1 (Kthen gl R N ref01Rune_c1 (Kret ref01Rune.rets []))) N ⟨[(0, .imm (AV.bytes s1)), (6, .imm (AV.int .i64 4)), (7, .imm (AV.int .i32 65536)), (8, .imm (AV.int .i32 (IntKind.i32.wrap (IntKind.u8.wrap (BitVec.ofInt IntKind.u8.bits (c1.toNat : Int) &&& BitVec.ofInt IntKind.u8.bits 7).toNat)))), (9, .imm (AV.int .i64 1))], []⟩)
    else
    some ⟨AV.tup [AV.int .i32 0, AV.int .i64 1, AV.bool false], false, []⟩)
    else
    some ⟨AV.tup [AV.int .i32 0, AV.int .i64 1, AV.bool false], false, []⟩)
    else
    bif decide (((c1.toNat : Int) : Int) ≥ 240) then
    (bif decide (((c1.toNat : Int) : Int) ≤ 244) then
    (bif decide ((((s1.length : Nat) : Int) : Int) < 4) then
    (some ⟨AV.tup [AV.int .i32 0, AV.int .i64 1, AV.bool false], false, []⟩)
    else
    rounds [0, 6, 7, 8, 9] [] (evC gl R N ref01Rune_c0) (Kblock 1 (Kthen gl R N ref01Rune_c1 (Kret ref01Rune.rets []))) N ⟨[(0, .imm (AV.bytes s1)), (6, .imm (AV.int .i64 4)), (7, .imm (AV.int .i32 65536)), (8, .imm (AV.int .i32 (IntKind.i32.wrap (IntKind.u8.wrap (BitVec.ofInt IntKind.u8.bits (c1.toNat : Int) &&& BitVec.ofInt IntKind.u8.bits 7).toNat)))), (9, .imm (AV.int .i64 1))], []⟩)
    else
    some ⟨AV.tup [AV.int .i32 0, AV.int .i64 1, AV.bool false], false, []⟩)
    else
    some ⟨AV.tup [AV.int .i32 0, AV.int .i64 1, AV.bool false], false, []⟩) (by kernel_rfl) ?_
  simp (config := { maxSteps := 100000000 }) only [ref01Rune_L1_eq]
  kernel_rfl
theorem ref01Rune_fit : fitF Tryd.prog ref01Rune Tryd.f80 = true := by
  kernel_rfl

def ref01Escape_L1s (R : Nat → List AV → Option Res) (N : Nat) (go : Int → List UInt8 → List AV → Int → Option Res) (k0 : Int → Option Res) (k1 : Option Res) (i2 : Int) (s1 : List UInt8) (l1 : List AV) (i3 : Int) : Option Res :=
  bif decide ((i3 : Int) < ((s1.length : Nat) : Int)) then
    (need (decide (0 ≤ (i3 : Int))) <|
    (s1[Int.toNat i3]?).bind fun c1 =>
    bif ((c1.toNat : Int) : Int) == i2 then
    (need (decide (0 ≤ (i3 : Int))) <|
    (l1[Int.toNat i3]?).bind fun e1 =>
    asI .i32 e1 fun i4 =>
    k0 i4)
    else
    go i2 s1 l1 (IntKind.i64.wrap (i3 + 1)))
  else
    k1
def ref01Escape_L1 (R : Nat → List AV → Option Res) (N : Nat) (k0 : Int → Option Res) (k1 : Option Res) : Nat → Int → List UInt8 → List AV → Int → Option Res
  | 0, _, _, _, _ => none
  | n + 1, i2, s1, l1, i3 => ref01Escape_L1s R N (ref01Escape_L1 R N k0 k1 n) k0 k1 i2 s1 l1 i3
def ref01Escape_c0 : AC := .seq (.seq (.region [.op (some 7) none (.mv (.t 5)), .op (some 8) none (.mv (.t 3)), .op (some 9) none (.len (.t 8) true), .op (some 10) none (.bin .lss (.t 7) (.t 9))]) (.cond (.t 10) (.skip) (.exit 0 [] []))) (.seq (.block 1 (.seq (.region [.op (some 13) none (.mv (.t 3)), .op (some 14) none (.mv (.t 5)), .op (some 15) none (.index (.t 13) (.t 14)), .op (some 16) none (.mv (.t 0)), .op (some 17) none (.bin .eql (.t 15) (.t 16))]) (.cond (.t 17) (.seq (.region [.op (some 18) none (.mv (.t 4)), .op (some 19) none (.mv (.t 5)), .op (some 20) none (.iaddr (.t 18) (.t 19) 1 (.int .i32)), .op (some 21) none (.load (.t 20) none (.int .i32)), .op (some 2) none (.mv (.t 21))]) (.ret [2] [])) (.skip)))) (.region [.op (some 11) none (.mv (.t 5)), .op (some 12) none (.bin .add (.t 11) (.k (AV.int .i64 1))), .op (some 5) none (.mv (.t 12))]))
theorem ref01Escape_L1s_eq (R : Nat → List AV → Option Res) (N : Nat) (K : Ex → St → Option Res) (W : St → Option Res) (i2 : Int) (s1 : List UInt8) (l1 : List AV) (i3 : Int) :
    evC gl R N ref01Escape_c0 (Kseq (fun st' => W (prune [0, 3, 4, 5] [] st')) K) ⟨[(0, .imm (AV.int .u8 i2)), (3, .imm (AV.str s1)), (4, .imm (AV.row 1 l1)), (5, .imm (AV.int .i64 i3))], []⟩ =
    ref01Escape_L1s R N (fun (i2 : Int) (s1 : List UInt8) (l1 : List AV) (i3 : Int) => W ⟨[(0, .imm (AV.int .u8 i2)), (3, .imm (AV.str s1)), (4, .imm (AV.row 1 l1)), (5, .imm (AV.int .i64 i3))], []⟩) (fun (i5 : Int) => K .ret ⟨[(2, .imm (AV.int .i32 i5))], []⟩) (K (.exit 0) ⟨[], []⟩) i2 s1 l1 i3 := by
  kernel_rfl
theorem ref01Escape_L1_eq (R : Nat → List AV → Option Res) (N : Nat) (K : Ex → St → Option Res) : ∀ (n : Nat) (i2 : Int) (s1 : List UInt8) (l1 : List AV) (i3 : Int),
    rounds [0, 3, 4, 5] [] (evC gl R N ref01Escape_c0) K n ⟨[(0, .imm (AV.int .u8 i2)), (3, .imm (AV.str s1)), (4, .imm (AV.row 1 l1)), (5, .imm (AV.int .i64 i3))], []⟩ = ref01Escape_L1 R N (fun (i5 : Int) => K .ret ⟨[(2, .imm (AV.int .i32 i5))], []⟩) (K (.exit 0) ⟨[], []⟩) n i2 s1 l1 i3
  | 0, _, _, _, _ => rfl
  | n + 1, i2, s1, l1, i3 => (ref01Escape_L1s_eq R N K (rounds [0, 3, 4, 5] [] (evC gl R N ref01Escape_c0) K n) i2 s1 l1 i3).trans
      (congrArg (fun go => ref01Escape_L1s R N go (fun (i5 : Int) => K .ret ⟨[(2, .imm (AV.int .i32 i5))], []⟩) (K (.exit 0) ⟨[], []⟩) i2 s1 l1 i3) (funext fun i2 => funext fun s1 => funext fun l1 => funext fun i3 => ref01Escape_L1_eq R N K n i2 s1 l1 i3))
def ref01Escape_c1 : AC := .seq (.region [.op (some 2) none (.mv (.k (AV.int .i32 (-1))))]) (.ret [2] [])
def ref01Escape_c2 : AC := .seq (.region [.op (some 2) none (.mv (.k (AV.int .i32 0)))]) (.seq (.region [.op (some 3) none (.mv (.k (AV.str ([48, 97, 98, 116, 110, 118, 102, 114, 101, 34, 47, 92, 32, 78, 95, 76, 80] : List UInt8))))]) (.seq (.region [.op (some 6) none (.bslice [.k (AV.int .i32 0), .k (AV.int .i32 7), .k (AV.int .i32 8), .k (AV.int .i32 9), .k (AV.int .i32 10), .k (AV.int .i32 11), .k (AV.int .i32 12), .k (AV.int .i32 13), .k (AV.int .i32 27), .k (AV.int .i32 34), .k (AV.int .i32 47), .k (AV.int .i32 92), .k (AV.int .i32 32), .k (AV.int .i32 133), .k (AV.int .i32 160), .k (AV.int .i32 8232), .k (AV.int .i32 8233)] 1 false), .op (some 4) none (.mv (.t 6))]) (.seq (.seq (.region [.op (some 5) none (.mv (.k (AV.int .i64 0)))]) (.block 0 (.loop [0, 3, 4, 5] [] (ref01Escape_c0)))) (ref01Escape_c1))))
def ref01Escape : AFunc := ⟨1, 22, [.tmp 2], ref01Escape_c2⟩
def ref01Escaper (R : Nat → List AV → Option Res) (N : Nat) (i1 : Int) : Option Res :=
  ref01Escape_L1 R N
    (fun i7 =>
    some ⟨AV.int .i32 i7, false, []⟩)
    (
    some ⟨AV.int .i32 (-1), false, []⟩)
    N i1 ([48, 97, 98, 116, 110, 118, 102, 114, 101, 34, 47, 92, 32, 78, 95, 76, 80] : List UInt8) [AV.int .i32 0, AV.int .i32 7, AV.int .i32 8, AV.int .i32 9, AV.int .i32 10, AV.int .i32 11, AV.int .i32 12, AV.int .i32 13, AV.int .i32 27, AV.int .i32 34, AV.int .i32 47, AV.int .i32 92, AV.int .i32 32, AV.int .i32 133, AV.int .i32 160, AV.int .i32 8232, AV.int .i32 8233] 0
theorem ref01Escape_eq (R : Nat → List AV → Option Res) (N : Nat) (i1 : Int) : runF gl R N ref01Escape [AV.int .u8 i1] = ref01Escaper R N i1 := by
  refine Eq.trans (b :=
    rounds [0, 3, 4, 5] [] (evC gl R N ref01Escape_c0) (Kblock 0 (Kthen gl R N ref01Escape_c1 (Kret ref01Escape.rets []))) N ⟨[(0, .imm (AV.int .u8 i1)), (3, .imm (AV.str ([48, 97, 98, 116, 110, 118, 102, 114, 101, 34, 47, 92, 32, 78, 95, 76, 80] : List UInt8))), (4, .imm (AV.row 1 [AV.int .i32 0, AV.int .i32 7, AV.int .i32 8, AV.int .i32 9, AV.int .i32 10, AV.int .i32 11, AV.int .i32 12, AV.int .i32 13, AV.int .i32 27, AV.int .i32 34, AV.int .i32 47, AV.int .i32 92, AV.int .i32 32, AV.int .i32 133, AV.int .i32 160, AV.int .i32 8232, AV.int .i32 8233])), (5, .imm (AV.int .i64 0))], []⟩) (by kernel_rfl) ?_
  simp (config := { maxSteps := 100000000 }) only [ref01Escape_L1_eq]
  kernel_rfl
theorem ref01Escape_fit : fitF Tryd.prog ref01Escape Tryd.f81 = true := by
  kernel_rfl

def ref01Printable_c0 : AC := .seq (.region [.op (some 2) none (.mv (.k (AV.bool false)))]) (.seq (.block 0 (.seq (.region [.op (some 4) none (.mv (.t 0)), .op (some 5) none (.bin .eql (.t 4) (.k (AV.int .i32 9))), .op (some 6) none (.mv (.t 5)), .split 6, .op (some 7) (some (6, false)) (.mv (.t 0)), .op (some 8) (some (6, false)) (.bin .eql (.t 7) (.k (AV.int .i32 10))), .op (some 9) none (.pick (.t 6) (.k (AV.bool true)) (.t 8)), .op (some 10) none (.mv (.t 9)), .split 10, .op (some 11) (some (10, false)) (.mv (.t 0)), .op (some 12) (some (10, false)) (.bin .eql (.t 11) (.k (AV.int .i32 13))), .op (some 13) none (.pick (.t 10) (.k (AV.bool true)) (.t 12)), .op (some 14) none (.mv (.t 13)), .split 14, .op (some 15) (some (14, false)) (.mv (.t 0)), .op (some 16) (some (14, false)) (.bin .eql (.t 15) (.k (AV.int .i32 133))), .op (some 17) none (.pick (.t 14) (.k (AV.bool true)) (.t 16)), .op (some 3) none (.mv (.t 17))]) (.cond (.t 3) (.seq (.region [.op (some 2) none (.mv (.k (AV.bool true)))]) (.ret [2] [])) (.seq (.region [.op (some 19) none (.mv (.t 0)), .op (some 20) none (.bin .lss (.t 19) (.k (AV.int .i32 32))), .op (some 21) none (.mv (.t 20)), .split 21, .op (some 22) (some (21, false)) (.mv (.t 0)), .op (some 23) (some (21, false)) (.bin .geq (.t 22) (.k (AV.int .i32 127))), .op (some 24) (some (21, false)) (.mv (.t 23)), .split 24, .op (some 25) (some (24, true)) (.mv (.t 0)), .op (some 26) (some (24, true)) (.bin .leq (.t 25) (.k (AV.int .i32 159))), .op (some 27) (some (21, false)) (.pick (.t 24) (.t 26) (.k (AV.bool false))), .op (some 28) none (.pick (.t 21) (.k (AV.bool true)) (.t 27)), .op (some 29) none (.mv (.t 28)), .split 29, .op (some 30) (some (29, false)) (.mv (.t 0)), .op (some 31) (some (29, false)) (.bin .geq (.t 30) (.k (AV.int .i32 55296))), .op (some 32) (some (29, false)) (.mv (.t 31)), .split 32, .op (some 33) (some (32, true)) (.mv (.t 0)), .op (some 34) (some (32, true)) (.bin .leq (.t 33) (.k (AV.int .i32 57343))), .op (some 35) (some (29, false)) (.pick (.t 32) (.t 34) (.k (AV.bool false))), .op (some 36) none (.pick (.t 29) (.k (AV.bool true)) (.t 35)), .op (some 37) none (.mv (.t 36)), .split 37, .op (some 38) (some (37, false)) (.mv (.t 0)), .op (some 39) (some (37, false)) (.bin .eql (.t 38) (.k (AV.int .i32 65279))), .op (some 40) none (.pick (.t 37) (.k (AV.bool true)) (.t 39)), .op (some 41) none (.mv (.t 40)), .split 41, .op (some 42) (some (41, false)) (.mv (.t 0)), .op (some 43) (some (41, false)) (.bin .eql (.t 42) (.k (AV.int .i32 65534))), .op (some 44) none (.pick (.t 41) (.k (AV.bool true)) (.t 43)), .op (some 45) none (.mv (.t 44)), .split 45, .op (some 46) (some (45, false)) (.mv (.t 0)), .op (some 47) (some (45, false)) (.bin .eql (.t 46) (.k (AV.int .i32 65535))), .op (some 48) none (.pick (.t 45) (.k (AV.bool true)) (.t 47)), .op (some 49) none (.mv (.t 48)), .split 49, .op (some 50) (some (49, false)) (.mv (.t 0)), .op (some 51) (some (49, false)) (.bin .gtr (.t 50) (.k (AV.int .i32 1114111))), .op (some 52) none (.pick (.t 49) (.k (AV.bool true)) (.t 51)), .op (some 18) none (.mv (.t 52))]) (.cond (.t 18) (.seq (.region [.op (some 2) none (.mv (.k (AV.bool false)))]) (.ret [2] [])) (.skip)))))) (.seq (.region [.op (some 2) none (.mv (.k (AV.bool true)))]) (.ret [2] [])))
def ref01Printable : AFunc := ⟨1, 53, [.tmp 2], ref01Printable_c0⟩
def ref01Printabler (R : Nat → List AV → Option Res) (N : Nat) (i1 : Int) : Option Res :=
  bif (i1 : Int) == 9 then
    (some ⟨AV.bool true, false, []⟩)
  else
    bif (i1 : Int) == 10 then
    (some ⟨AV.bool true, false, []⟩)
    else
    bif (i1 : Int) == 13 then
    (some ⟨AV.bool true, false, []⟩)
    else
    bif (i1 : Int) == 133 then
    (some ⟨AV.bool true, false, []⟩)
    else
    bif decide ((i1 : Int) < 32) then
    (some ⟨AV.bool false, false, []⟩)
    else
    bif decide ((i1 : Int) ≥ 127) then
    (bif decide ((i1 : Int) ≤ 159) then
    (some ⟨AV.bool false, false, []⟩)
    else
    bif decide ((i1 : Int) ≥ 55296) then
    (bif decide ((i1 : Int) ≤ 57343) then
    (some ⟨AV.bool false, false, []⟩)
    else
    bif (i1 : Int) == 65279 then
    (some ⟨AV.bool false, false, []⟩)
    else
    bif (i1 : Int) == 65534 then
    (some ⟨AV.bool false, false, []⟩)
    else
    bif (i1 : Int) == 65535 then
    (some ⟨AV.bool false, false, []⟩)
    else
    bif decide ((i1 : Int) > 1114111) then
    (some ⟨AV.bool false, false, []⟩)
    else
    some ⟨AV.bool true, false, []⟩)
    else
    bif (i1 : Int) == 65279 then
    (some ⟨AV.bool false, false, []⟩)
    else
    bif (i1 : Int) == 65534 then
    (some ⟨AV.bool false, false, []⟩)
    else
    bif (i1 : Int) == 65535 then
    (some ⟨AV.bool false, false, []⟩)
    else
    bif decide ((i1 : Int) > 1114111) then
    (some ⟨AV.bool false, false, []⟩)
    else
    some ⟨AV.bool true, false, []⟩)
    else
    bif decide ((i1 : Int) ≥ 55296) then
    (bif decide ((i1 : Int) ≤ 57343) then
    (some ⟨AV.bool false, false, []⟩)
    else
    bif (i1 : Int) == 65279 then
    (some ⟨AV.bool false, false, []⟩)
    else
    bif (i1 : Int) == 65534 then
    (some ⟨AV.bool false, false, []⟩)
    else
    bif (i1 : Int) == 65535 then
    (some ⟨AV.bool false, false, []⟩)
    else
    bif decide ((i1 : Int) > 1114111) then
    (some ⟨AV.bool false, false, []⟩)
    else
    some ⟨AV.bool true, false, []⟩)
    else
    bif (i1 : Int) == 65279 then
    (some ⟨AV.bool false, false, []⟩)
    else
    bif (i1 : Int) == 65534 then
    (some ⟨AV.bool false, false, []⟩)
    else
    bif (i1 : Int) == 65535 then
    (some ⟨AV.bool false, false, []⟩)
    else
    bif decide ((i1 : Int) > 1114111) then
    (some ⟨AV.bool false, false, []⟩)
    else
    some ⟨AV.bool true, false, []⟩
theorem ref01Printable_eq (R : Nat → List AV → Option Res) (N : Nat) (i1 : Int) : runF gl R N ref01Printable [AV.int .i32 i1] = ref01Printabler R N i1 := by
  kernel_rfl
theorem ref01Printable_fit : fitF Tryd.prog ref01Printable Tryd.f82 = true := by
  kernel_rfl

def ref01Hex_L1s (R : Nat → List AV → Option Res) (N : Nat) (go : Int → Int → List UInt8 → Option Res) (k0 : List UInt8 → Option Res) (i3 : Int) (i4 : Int) (s1 : List UInt8) : Option Res :=
  bif decide ((i4 : Int) ≥ 0) then
    (need (!decide ((IntKind.u64.wrap (IntKind.i64.wrap (4 * i4))) < 0)) <|
    need (decide (0 ≤ (IntKind.u32.wrap (BitVec.ofInt IntKind.u32.bits (Int.fdiv i3 (2 ^ (min (Int.toNat (IntKind.u64.wrap (IntKind.i64.wrap (4 * i4)))) IntKind.u32.bits))) &&& BitVec.ofInt IntKind.u32.bits 15).toNat : Int))) <|
    ((([48, 49, 50, 51, 52, 53, 54, 55, 56, 57, 65, 66, 67, 68, 69, 70] : List UInt8) : List UInt8)[Int.toNat (IntKind.u32.wrap (BitVec.ofInt IntKind.u32.bits (Int.fdiv i3 (2 ^ (min (Int.toNat (IntKind.u64.wrap (IntKind.i64.wrap (4 * i4)))) IntKind.u32.bits))) &&& BitVec.ofInt IntKind.u32.bits 15).toNat)]?).bind fun c1 =>
    need (decide (0 ≤ ((c1.toNat : Int) : Int)) && decide (((c1.toNat : Int) : Int) < 256)) <|
    need (decide (((s1.drop 0).take s1.length).length + ([UInt8.ofNat (Int.toNat (c1.toNat : Int))] : List UInt8).length ≤ 1099511627776)) <|
    go i3 (IntKind.i64.wrap (i4 - 1)) (((s1.drop 0).take s1.length) ++ [UInt8.ofNat (Int.toNat (c1.toNat : Int))]))
  else
    k0 s1
def ref01Hex_L1 (R : Nat → List AV → Option Res) (N : Nat) (k0 : List UInt8 → Option Res) : Nat → Int → Int → List UInt8 → Option Res
  | 0, _, _, _ => none
  | n + 1, i3, i4, s1 => ref01Hex_L1s R N (ref01Hex_L1 R N k0 n) k0 i3 i4 s1
def ref01Hex_c0 : AC := .seq (.seq (.region [.op (some 15) none (.mv (.t 6)), .op (some 16) none (.bin .geq (.t 15) (.k (AV.int .i64 0)))]) (.cond (.t 16) (.skip) (.exit 0 [5] [5]))) (.seq (.block 1 (.region [.op (some 19) none (.mv (.t 5)), .op (some 20) none (.mv (.t 0)), .op (some 21) none (.mv (.t 6)), .op (some 22) none (.bin .mul (.k (AV.int .i64 4)) (.t 21)), .op (some 23) none (.cvInt .u64 (.t 22)), .op (some 24) none (.bin .shr (.t 20) (.t 23)), .op (some 25) none (.bin .and (.t 24) (.k (AV.int .u32 15))), .op (some 26) none (.index (.k (AV.str ([48, 49, 50, 51, 52, 53, 54, 55, 56, 57, 65, 66, 67, 68, 69, 70] : List UInt8))) (.t 25)), .op (some 27) none (.bslice [.t 26] 1 true), .op (some 28) none (.app 5 (.t 19) (.t 27) 1 .any true), .op (some 5) none (.mv (.t 28))])) (.region [.op (some 17) none (.mv (.t 6)), .op (some 18) none (.bin .sub (.t 17) (.k (AV.int .i64 1))), .op (some 6) none (.mv (.t 18))]))
theorem ref01Hex_L1s_eq (R : Nat → List AV → Option Res) (N : Nat) (K : Ex → St → Option Res) (W : St → Option Res) (i3 : Int) (i4 : Int) (s1 : List UInt8) :
    evC gl R N ref01Hex_c0 (Kseq (fun st' => W (prune [0, 5, 6] [5] st')) K) ⟨[(0, .imm (AV.int .u32 i3)), (5, .own 5 0 s1.length none), (6, .imm (AV.int .i64 i4))], [(5, .bytes s1 false)]⟩ =
    ref01Hex_L1s R N (fun (i3 : Int) (i4 : Int) (s1 : List UInt8) => W ⟨[(0, .imm (AV.int .u32 i3)), (5, .own 5 0 s1.length none), (6, .imm (AV.int .i64 i4))], [(5, .bytes s1 false)]⟩) (fun (s2 : List UInt8) => K (.exit 0) ⟨[(5, .own 5 0 s2.length none)], [(5, .bytes s2 false)]⟩) i3 i4 s1 := by
  kernel_rfl
theorem ref01Hex_L1_eq (R : Nat → List AV → Option Res) (N : Nat) (K : Ex → St → Option Res) : ∀ (n : Nat) (i3 : Int) (i4 : Int) (s1 : List UInt8),
    rounds [0, 5, 6] [5] (evC gl R N ref01Hex_c0) K n ⟨[(0, .imm (AV.int .u32 i3)), (5, .own 5 0 s1.length none), (6, .imm (AV.int .i64 i4))], [(5, .bytes s1 false)]⟩ = ref01Hex_L1 R N (fun (s2 : List UInt8) => K (.exit 0) ⟨[(5, .own 5 0 s2.length none)], [(5, .bytes s2 false)]⟩) n i3 i4 s1
  | 0, _, _, _ => rfl
  | n + 1, i3, i4, s1 => (ref01Hex_L1s_eq R N K (rounds [0, 5, 6] [5] (evC gl R N ref01Hex_c0) K n) i3 i4 s1).trans
      (congrArg (fun go => ref01Hex_L1s R N go (fun (s2 : List UInt8) => K (.exit 0) ⟨[(5, .own 5 0 s2.length none)], [(5, .bytes s2 false)]⟩) i3 i4 s1) (funext fun i3 => funext fun i4 => funext fun s1 => ref01Hex_L1_eq R N K n i3 i4 s1))
def ref01Hex_c1 : AC := .seq (.region [.op (some 29) none (.mv (.t 5)), .op (some 30) none (.cvStr (.t 29)), .op (some 4) none (.mv (.t 30))]) (.ret [4] [])
def ref01Hex_c2 : AC := .seq (.region [.op (some 4) none (.mv (.k (AV.str ([] : List UInt8))))]) (.seq (.seq (.region [.op (some 7) none (.mv (.t 1)), .op (some 8) none (.bin .lss (.t 7) (.k (AV.int .i64 0))), .op (some 9) none (.mv (.t 8)), .split 9, .op (some 10) (some (9, false)) (.mv (.t 1)), .op (some 11) (some (9, false)) (.bin .gtr (.t 10) (.k (AV.int .i64 8))), .op (some 12) none (.pick (.t 9) (.k (AV.bool true)) (.t 11))]) (.cond (.t 12) (.seq (.region [.op (some 4) none (.mv (.k (AV.str ([] : List UInt8))))]) (.ret [4] [])) (.skip))) (.seq (.region [.op (some 5) none (.nilOwn 5 none)]) (.seq (.seq (.region [.op (some 13) none (.mv (.t 1)), .op (some 14) none (.bin .sub (.t 13) (.k (AV.int .i64 1))), .op (some 6) none (.mv (.t 14))]) (.block 0 (.loop [0, 5, 6] [5] (ref01Hex_c0)))) (ref01Hex_c1))))
def ref01Hex : AFunc := ⟨2, 31, [.tmp 4], ref01Hex_c2⟩
def ref01Hexr (R : Nat → List AV → Option Res) (N : Nat) (i1 : Int) (i2 : Int) : Option Res :=
  bif decide ((i2 : Int) < 0) then
    (some ⟨AV.str ([] : List UInt8), false, []⟩)
  else
    bif decide ((i2 : Int) > 8) then
    (some ⟨AV.str ([] : List UInt8), false, []⟩)
    else
    ref01Hex_L1 R N
      (fun s4 =>
    some ⟨AV.str ((s4.drop 0).take s4.length), false, []⟩)
      N i1 (IntKind.i64.wrap (i2 - 1)) []
theorem ref01Hex_eq (R : Nat → List AV → Option Res) (N : Nat) (i1 : Int) (i2 : Int) : runF gl R N ref01Hex [AV.int .u32 i1, AV.int .i64 i2] = ref01Hexr R N i1 i2 := by
  refine Eq.trans (b :=
    bif decide ((i2 : Int) < 0) then
    (some ⟨AV.str ([] : List UInt8), false, []⟩)
    else
    bif decide ((i2 : Int) > 8) then
    (some ⟨AV.str ([] : List UInt8), false, []⟩)
    else
    rounds [0, 5, 6] [5] (evC gl R N ref01Hex_c0) (Kblock 0 (Kthen gl R N ref01Hex_c1 (Kret ref01Hex.rets []))) N ⟨[(0, .imm (AV.int .u32 i1)), (5, .own 5 0 (([] : List UInt8).length) none), (6, .imm (AV.int .i64 (IntKind.i64.wrap (i2 - 1))))], [(5, .bytes [] false)]⟩) (by kernel_rfl) ?_
  simp (config := { maxSteps := 100000000 }) only [ref01Hex_L1_eq]
  kernel_rfl
theorem ref01Hex_fit : fitF Tryd.prog ref01Hex Tryd.f83 = true := by
  kernel_rfl

def ref01PutDouble_L2s (R : Nat → List AV → Option Res) (N : Nat) (go : List UInt8 → List UInt8 → Int → Int → Int → Int → Int → List UInt8 → Option Res) (k0 : List UInt8 → List UInt8 → Int → Int → Int → Option Res) (s4 : List UInt8) (s5 : List UInt8) (i3 : Int) (i4 : Int) (i5 : Int) (i6 : Int) (i7 : Int) (s6 : List UInt8) : Option Res :=
  bif decide ((i7 : Int) < i6) then
    (need (decide (0 ≤ (i7 : Int)) && decide ((i7 : Int) < ((s6.length : Nat) : Int))) <|
    (s6[0 + Int.toNat i7]?).bind fun c1 =>
    (R id_ref01Escape [AV.int .u8 (c1.toNat : Int)]).bind fun r2 =>
    asI .i32 r2.v fun i8 =>
    bif (i8 : Int) == i3 then
    (go s4 s5 i3 i4 (c1.toNat : Int) i6 (IntKind.i64.wrap (i7 + 1)) s6)
    else
    go s4 s5 i3 i4 i5 i6 (IntKind.i64.wrap (i7 + 1)) s6)
  else
    k0 s4 s5 i3 i4 i5
def ref01PutDouble_L2 (R : Nat → List AV → Option Res) (N : Nat) (k0 : List UInt8 → List UInt8 → Int → Int → Int → Option Res) : Nat → List UInt8 → List UInt8 → Int → Int → Int → Int → Int → List UInt8 → Option Res
  | 0, _, _, _, _, _, _, _, _ => none
  | n + 1, s4, s5, i3, i4, i5, i6, i7, s6 => ref01PutDouble_L2s R N (ref01PutDouble_L2 R N k0 n) k0 s4 s5 i3 i4 i5 i6 i7 s6
def ref01PutDouble_c0 : AC := .seq (.region [.op (some 29) none (.bin .lss (.t 28) (.t 27))]) (.seq (.cond (.t 29) (.skip) (.exit 2 [4, 5, 6, 7, 9] [])) (.seq (.block 3 (.seq (.region [.op (some 30) none (.iaddr (.t 26) (.t 28) 1 (.int .u8)), .op (some 31) none (.load (.t 30) none (.int .u8)), .op (some 11) none (.mv (.t 31))]) (.seq (.region [.op (some 32) none (.mv (.t 11)), .op (some 33) none (.call id_ref01Escape [.t 32] (.int .i32)), .op (some 34) none (.mv (.t 6)), .op (some 35) none (.bin .eql (.t 33) (.t 34))]) (.cond (.t 35) (.region [.op (some 36) none (.mv (.t 11)), .op (some 9) none (.mv (.t 36))]) (.skip))))) (.region [.op (some 37) none (.bin .add (.t 28) (.k (AV.int .i64 1))), .op (some 28) none (.mv (.t 37))])))
theorem ref01PutDouble_L2s_eq (R : Nat → List AV → Option Res) (N : Nat) (K : Ex → St → Option Res) (W : St → Option Res) (s4 : List UInt8) (s5 : List UInt8) (i3 : Int) (i4 : Int) (i5 : Int) (i6 : Int) (i7 : Int) (s6 : List UInt8) :
    evC gl R N ref01PutDouble_c0 (Kseq (fun st' => W (prune [4, 5, 6, 7, 9, 26, 27, 28] [25] st')) K) ⟨[(4, .imm (AV.bytes s4)), (5, .imm (AV.str s5)), (6, .imm (AV.int .i32 i3)), (7, .imm (AV.int .i64 i4)), (9, .imm (AV.int .u8 i5)), (26, .own 25 0 s6.length none), (27, .imm (AV.int .i64 i6)), (28, .imm (AV.int .i64 i7))], [(25, .bytes s6 false)]⟩ =
    ref01PutDouble_L2s R N (fun (s4 : List UInt8) (s5 : List UInt8) (i3 : Int) (i4 : Int) (i5 : Int) (i6 : Int) (i7 : Int) (s6 : List UInt8) => W ⟨[(4, .imm (AV.bytes s4)), (5, .imm (AV.str s5)), (6, .imm (AV.int .i32 i3)), (7, .imm (AV.int .i64 i4)), (9, .imm (AV.int .u8 i5)), (26, .own 25 0 s6.length none), (27, .imm (AV.int .i64 i6)), (28, .imm (AV.int .i64 i7))], [(25, .bytes s6 false)]⟩) (fun (s7 : List UInt8) (s8 : List UInt8) (i9 : Int) (i10 : Int) (i11 : Int) => K (.exit 2) ⟨[(4, .imm (AV.bytes s7)), (5, .imm (AV.str s8)), (6, .imm (AV.int .i32 i9)), (7, .imm (AV.int .i64 i10)), (9, .imm (AV.int .u8 i11))], []⟩) s4 s5 i3 i4 i5 i6 i7 s6 := by
  kernel_rfl
theorem ref01PutDouble_L2_eq (R : Nat → List AV → Option Res) (N : Nat) (K : Ex → St → Option Res) : ∀ (n : Nat) (s4 : List UInt8) (s5 : List UInt8) (i3 : Int) (i4 : Int) (i5 : Int) (i6 : Int) (i7 : Int) (s6 : List UInt8),
    rounds [4, 5, 6, 7, 9, 26, 27, 28] [25] (evC gl R N ref01PutDouble_c0) K n ⟨[(4, .imm (AV.bytes s4)), (5, .imm (AV.str s5)), (6, .imm (AV.int .i32 i3)), (7, .imm (AV.int .i64 i4)), (9, .imm (AV.int .u8 i5)), (26, .own 25 0 s6.length none), (27, .imm (AV.int .i64 i6)), (28, .imm (AV.int .i64 i7))], [(25, .bytes s6 false)]⟩ = ref01PutDouble_L2 R N (fun (s7 : List UInt8) (s8 : List UInt8) (i9 : Int) (i10 : Int) (i11 : Int) => K (.exit 2) ⟨[(4, .imm (AV.bytes s7)), (5, .imm (AV.str s8)), (6, .imm (AV.int .i32 i9)), (7, .imm (AV.int .i64 i10)), (9, .imm (AV.int .u8 i11))], []⟩) n s4 s5 i3 i4 i5 i6 i7 s6
  | 0, _, _, _, _, _, _, _, _ => rfl
  | n + 1, s4, s5, i3, i4, i5, i6, i7, s6 => (ref01PutDouble_L2s_eq R N K (rounds [4, 5, 6, 7, 9, 26, 27, 28] [25] (evC gl R N ref01PutDouble_c0) K n) s4 s5 i3 i4 i5 i6 i7 s6).trans
      (congrArg (fun go => ref01PutDouble_L2s R N go (fun (s7 : List UInt8) (s8 : List UInt8) (i9 : Int) (i10 : Int) (i11 : Int) => K (.exit 2) ⟨[(4, .imm (AV.bytes s7)), (5, .imm (AV.str s8)), (6, .imm (AV.int .i32 i9)), (7, .imm (AV.int .i64 i10)), (9, .imm (AV.int .u8 i11))], []⟩) s4 s5 i3 i4 i5 i6 i7 s6) (funext fun s4 => funext fun s5 => funext fun i3 => funext fun i4 => funext fun i5 => funext fun i6 => funext fun i7 => funext fun s6 => ref01PutDouble_L2_eq R N K n s4 s5 i3 i4 i5 i6 i7 s6))
def ref01PutDouble_L1s (R : Nat → List AV → Option Res) (N : Nat) (go : List UInt8 → List UInt8 → Option Res) (k0 : List UInt8 → Bool → Option Res) (k1 : List UInt8 → Option Res) (s2 : List UInt8) (s3 : List UInt8) : Option Res :=
  bif decide ((((s2.length : Nat) : Int) : Int) > 0) then
    ((R id_ref01Rune [AV.bytes s2]).bind fun r1 =>
    asJIBT r1.v fun i1 i2 b1 =>
    bif !b1 then
    (k0 ([] : List UInt8) false)
    else
    ref01PutDouble_L2 R N
      (fun s11 s12 i15 i16 i17 =>
    bif (i17 : Int) != 0 then
    (need (decide (0 ≤ (i17 : Int)) && decide ((i17 : Int) < 256)) <|
    need (decide ((([92] : List UInt8) : List UInt8).length + ([UInt8.ofNat (Int.toNat i17)] : List UInt8).length ≤ 9223372036854775807)) <|
    need (decide (s12.length + (([92] : List UInt8) ++ [UInt8.ofNat (Int.toNat i17)] : List UInt8).length ≤ 9223372036854775807)) <|
    need (decide (0 ≤ (i16 : Int)) && decide ((i16 : Int) ≤ ((s11.length : Nat) : Int))) <|
    go ((s11.take s11.length).drop (Int.toNat i16)) (s12 ++ (([92] : List UInt8) ++ [UInt8.ofNat (Int.toNat i17)])))
    else
    (R id_ref01Printable [AV.int .i32 i15]).bind fun r3 =>
    asB r3.v fun b2 =>
    bif b2 then
    (need (decide (0 ≤ (i16 : Int)) && decide ((i16 : Int) ≤ ((s11.length : Nat) : Int))) <|
    need (decide (s12.length + ((s11.take (Int.toNat i16)).drop 0).length ≤ 9223372036854775807)) <|
    need (decide (0 ≤ (i16 : Int)) && decide ((i16 : Int) ≤ ((s11.length : Nat) : Int))) <|
    go ((s11.take s11.length).drop (Int.toNat i16)) (s12 ++ ((s11.take (Int.toNat i16)).drop 0)))
    else
    bif decide ((i15 : Int) ≤ 255) then
    ((R id_ref01Hex [AV.int .u32 (IntKind.u32.wrap i15), AV.int .i64 2]).bind fun r4 =>
    asS r4.v fun s13 =>
    need (decide ((([92, 120] : List UInt8) : List UInt8).length + s13.length ≤ 9223372036854775807)) <|
    need (decide (s12.length + (([92, 120] : List UInt8) ++ s13 : List UInt8).length ≤ 9223372036854775807)) <|
    need (decide (0 ≤ (i16 : Int)) && decide ((i16 : Int) ≤ ((s11.length : Nat) : Int))) <|
    go ((s11.take s11.length).drop (Int.toNat i16)) (s12 ++ (([92, 120] : List UInt8) ++ s13)))
    else
    bif decide ((i15 : Int) ≤ 65535) then
    ((R id_ref01Hex [AV.int .u32 (IntKind.u32.wrap i15), AV.int .i64 4]).bind fun r5 =>
    asS r5.v fun s14 =>
    need (decide ((([92, 117] : List UInt8) : List UInt8).length + s14.length ≤ 9223372036854775807)) <|
    need (decide (s12.length + (([92, 117] : List UInt8) ++ s14 : List UInt8).length ≤ 9223372036854775807)) <|
    need (decide (0 ≤ (i16 : Int)) && decide ((i16 : Int) ≤ ((s11.length : Nat) : Int))) <|
    go ((s11.take s11.length).drop (Int.toNat i16)) (s12 ++ (([92, 117] : List UInt8) ++ s14)))
    else
    (R id_ref01Hex [AV.int .u32 (IntKind.u32.wrap i15), AV.int .i64 8]).bind fun r6 =>
    asS r6.v fun s15 =>
    need (decide ((([92, 85] : List UInt8) : List UInt8).length + s15.length ≤ 9223372036854775807)) <|
    need (decide (s12.length + (([92, 85] : List UInt8) ++ s15 : List UInt8).length ≤ 9223372036854775807)) <|
    need (decide (0 ≤ (i16 : Int)) && decide ((i16 : Int) ≤ ((s11.length : Nat) : Int))) <|
    go ((s11.take s11.length).drop (Int.toNat i16)) (s12 ++ (([92, 85] : List UInt8) ++ s15)))
      N s2 s3 i1 i2 0 (15 : Int) 0 [48, 97, 98, 116, 110, 118, 102, 114, 101, 34, 92, 78, 95, 76, 80])
  else
    k1 s3
def ref01PutDouble_L1 (R : Nat → List AV → Option Res) (N : Nat) (k0 : List UInt8 → Bool → Option Res) (k1 : List UInt8 → Option Res) : Nat → List UInt8 → List UInt8 → Option Res
  | 0, _, _ => none
  | n + 1, s2, s3 => ref01PutDouble_L1s R N (ref01PutDouble_L1 R N k0 k1 n) k0 k1 s2 s3
def ref01PutDouble_c1 : AC := .seq (.block 4 (.seq (.region [.op (some 45) none (.mv (.t 9)), .op (some 46) none (.bin .neq (.t 45) (.k (AV.int .u8 0))), .op (some 44) none (.mv (.t 46))]) (.cond (.t 44) (.region [.op (some 47) none (.mv (.t 5)), .op (some 48) none (.mv (.t 9)), .op (some 49) none (.bslice [.t 48] 1 true), .op (some 50) none (.cvStr (.t 49)), .op (some 51) none (.bin .add (.k (AV.str ([92] : List UInt8))) (.t 50)), .op (some 52) none (.bin .add (.t 47) (.t 51)), .op (some 5) none (.mv (.t 52))]) (.seq (.region [.op (some 54) none (.mv (.t 6)), .op (some 55) none (.call id_ref01Printable [.t 54] (.bool)), .op (some 53) none (.mv (.t 55))]) (.cond (.t 53) (.region [.op (some 56) none (.mv (.t 5)), .op (some 57) none (.mv (.t 4)), .op (some 58) none (.mv (.t 7)), .op (some 59) none (.slice (.t 57) none (some (.t 58)) 1), .op (some 60) none (.cvStr (.t 59)), .op (some 61) none (.bin .add (.t 56) (.t 60)), .op (some 5) none (.mv (.t 61))]) (.seq (.region [.op (some 63) none (.mv (.t 6)), .op (some 64) none (.bin .leq (.t 63) (.k (AV.int .i32 255))), .op (some 62) none (.mv (.t 64))]) (.cond (.t 62) (.region [.op (some 65) none (.mv (.t 5)), .op (some 66) none (.mv (.t 6)), .op (some 67) none (.cvInt .u32 (.t 66)), .op (some 68) none (.call id_ref01Hex [.t 67, .k (AV.int .i64 2)] (.str)), .op (some 69) none (.bin .add (.k (AV.str ([92, 120] : List UInt8))) (.t 68)), .op (some 70) none (.bin .add (.t 65) (.t 69)), .op (some 5) none (.mv (.t 70))]) (.seq (.region [.op (some 72) none (.mv (.t 6)), .op (some 73) none (.bin .leq (.t 72) (.k (AV.int .i32 65535))), .op (some 71) none (.mv (.t 73))]) (.cond (.t 71) (.region [.op (some 74) none (.mv (.t 5)), .op (some 75) none (.mv (.t 6)), .op (some 76) none (.cvInt .u32 (.t 75)), .op (some 77) none (.call id_ref01Hex [.t 76, .k (AV.int .i64 4)] (.str)), .op (some 78) none (.bin .add (.k (AV.str ([92, 117] : List UInt8))) (.t 77)), .op (some 79) none (.bin .add (.t 74) (.t 78)), .op (some 5) none (.mv (.t 79))]) (.region [.op (some 38) none (.mv (.t 5)), .op (some 39) none (.mv (.t 6)), .op (some 40) none (.cvInt .u32 (.t 39)), .op (some 41) none (.call id_ref01Hex [.t 40, .k (AV.int .i64 8)] (.str)), .op (some 42) none (.bin .add (.k (AV.str ([92, 85] : List UInt8))) (.t 41)), .op (some 43) none (.bin .add (.t 38) (.t 42)), .op (some 5) none (.mv (.t 43))])))))))))) (.region [.op (some 80) none (.mv (.t 4)), .op (some 81) none (.mv (.t 7)), .op (some 82) none (.slice (.t 80) (some (.t 81)) none 1), .op (some 4) none (.mv (.t 82))])
def ref01PutDouble_c2 : AC := .seq (.seq (.region [.op (some 14) none (.mv (.t 4)), .op (some 15) none (.len (.t 14) false), .op (some 16) none (.bin .gtr (.t 15) (.k (AV.int .i64 0)))]) (.cond (.t 16) (.skip) (.exit 0 [5] []))) (.block 1 (.seq (.region [.op (some 18) none (.mv (.t 4)), .op (some 19) none (.call id_ref01Rune [.t 18] (.tup [.int .i32, .int .i64, .bool])), .op (some 17) none (.mv (.t 19)), .op (some 20) none (.extract (.t 17) 0), .op (some 21) none (.extract (.t 17) 1), .op (some 22) none (.extract (.t 17) 2), .op (some 6) none (.mv (.t 20)), .op (some 7) none (.mv (.t 21)), .op (some 8) none (.mv (.t 22))]) (.seq (.seq (.region [.op (some 23) none (.mv (.t 8)), .op (some 24) none (.un .not (.t 23))]) (.cond (.t 24) (.seq (.region [.op (some 2) none (.mv (.k (AV.str ([] : List UInt8)))), .op (some 3) none (.mv (.k (AV.bool false)))]) (.ret [2, 3] [])) (.skip))) (.seq (.region [.op (some 9) none (.mv (.k (AV.int .u8 0)))]) (.seq (.seq (.region [.op (some 25) none (.bsliceOwn 25 [.k (AV.int .u8 48), .k (AV.int .u8 97), .k (AV.int .u8 98), .k (AV.int .u8 116), .k (AV.int .u8 110), .k (AV.int .u8 118), .k (AV.int .u8 102), .k (AV.int .u8 114), .k (AV.int .u8 101), .k (AV.int .u8 34), .k (AV.int .u8 92), .k (AV.int .u8 78), .k (AV.int .u8 95), .k (AV.int .u8 76), .k (AV.int .u8 80)] 1 .any true), .op (some 26) none (.cvSame (.t 25)), .op (some 27) none (.len (.t 26) false), .op (some 28) none (.mv (.k (AV.int .i64 0)))]) (.block 2 (.loop [4, 5, 6, 7, 9, 26, 27, 28] [25] (ref01PutDouble_c0)))) (ref01PutDouble_c1))))))
theorem ref01PutDouble_L1s_eq (R : Nat → List AV → Option Res) (N : Nat) (K : Ex → St → Option Res) (W : St → Option Res) (s2 : List UInt8) (s3 : List UInt8) :
    evC gl R N ref01PutDouble_c2 (Kseq (fun st' => W (prune [4, 5] [] st')) K) ⟨[(4, .imm (AV.bytes s2)), (5, .imm (AV.str s3))], []⟩ =
    ref01PutDouble_L1s R N (fun (s2 : List UInt8) (s3 : List UInt8) => W ⟨[(4, .imm (AV.bytes s2)), (5, .imm (AV.str s3))], []⟩) (fun (s16 : List UInt8) (b3 : Bool) => K .ret ⟨[(2, .imm (AV.str s16)), (3, .imm (AV.bool b3))], []⟩) (fun (s17 : List UInt8) => K (.exit 0) ⟨[(5, .imm (AV.str s17))], []⟩) s2 s3 := by
  refine Eq.trans (b :=
    bif decide ((((s2.length : Nat) : Int) : Int) > 0) then
    ((R id_ref01Rune [AV.bytes s2]).bind fun r1 =>
    asJIBT r1.v fun i1 i2 b1 =>
    bif !b1 then
    ((fun (s18 : List UInt8) (b4 : Bool) => K .ret ⟨[(2, .imm (AV.str s18)), (3, .imm (AV.bool b4))], []⟩) ([] : List UInt8) false)
    else
    rounds [4, 5, 6, 7, 9, 26, 27, 28] [25] (evC gl R N ref01PutDouble_c0) (Kblock 2 (Kthen gl R N ref01PutDouble_c1 (Kblock 1 (Kseq (fun st' => W (prune [4, 5] [] st')) K)))) N ⟨[(4, .imm (AV.bytes s2)), (5, .imm (AV.str s3)), (6, .imm (AV.int .i32 i1)), (7, .imm (AV.int .i64 i2)), (9, .imm (AV.int .u8 0)), (26, .own 25 0 (([48, 97, 98, 116, 110, 118, 102, 114, 101, 34, 92, 78, 95, 76, 80] : List UInt8).length) none), (27, .imm (AV.int .i64 (15 : Int))), (28, .imm (AV.int .i64 0))], [(25, .bytes [48, 97, 98, 116, 110, 118, 102, 114, 101, 34, 92, 78, 95, 76, 80] false)]⟩)
    else
    (fun (s19 : List UInt8) => K (.exit 0) ⟨[(5, .imm (AV.str s19))], []⟩) s3) (by kernel_rfl) ?_
  simp (config := { maxSteps := 100000000 }) only [ref01PutDouble_L2_eq]
  kernel_rfl
theorem ref01PutDouble_L1_eq (R : Nat → List AV → Option Res) (N : Nat) (K : Ex → St → Option Res) : ∀ (n : Nat) (s2 : List UInt8) (s3 : List UInt8),
    rounds [4, 5] [] (evC gl R N ref01PutDouble_c2) K n ⟨[(4, .imm (AV.bytes s2)), (5, .imm (AV.str s3))], []⟩ = ref01PutDouble_L1 R N (fun (s16 : List UInt8) (b3 : Bool) => K .ret ⟨[(2, .imm (AV.str s16)), (3, .imm (AV.bool b3))], []⟩) (fun (s17 : List UInt8) => K (.exit 0) ⟨[(5, .imm (AV.str s17))], []⟩) n s2 s3
  | 0, _, _ => rfl
  | n + 1, s2, s3 => (ref01PutDouble_L1s_eq R N K (rounds [4, 5] [] (evC gl R N ref01PutDouble_c2) K n) s2 s3).trans
      (congrArg (fun go => ref01PutDouble_L1s R N go (fun (s16 : List UInt8) (b3 : Bool) => K .ret ⟨[(2, .imm (AV.str s16)), (3, .imm (AV.bool b3))], []⟩) (fun (s17 : List UInt8) => K (.exit 0) ⟨[(5, .imm (AV.str s17))], []⟩) s2 s3) (funext fun s2 => funext fun s3 => ref01PutDouble_L1_eq R N K n s2 s3))
def ref01PutDouble_c3 : AC := .seq (.region [.op (some 83) none (.mv (.t 5)), .op (some 84) none (.bin .add (.t 83) (.k (AV.str ([34] : List UInt8)))), .op (some 2) none (.mv (.t 84)), .op (some 3) none (.mv (.k (AV.bool true)))]) (.ret [2, 3] [])
def ref01PutDouble_c4 : AC := .seq (.region [.op (some 2) none (.mv (.k (AV.str ([] : List UInt8)))), .op (some 3) none (.mv (.k (AV.bool false)))]) (.seq (.region [.op (some 12) none (.mv (.t 0)), .op (some 13) none (.cvBytes (.t 12)), .op (some 4) none (.mv (.t 13))]) (.seq (.region [.op (some 5) none (.mv (.k (AV.str ([34] : List UInt8))))]) (.seq (.block 0 (.loop [4, 5] [] (ref01PutDouble_c2))) (ref01PutDouble_c3))))
def ref01PutDouble : AFunc := ⟨1, 85, [.tmp 2, .tmp 3], ref01PutDouble_c4⟩
def ref01PutDoubler (R : Nat → List AV → Option Res) (N : Nat) (s1 : List UInt8) : Option Res :=
  ref01PutDouble_L1 R N
    (fun s20 b5 =>
    some ⟨AV.tup [AV.str s20, AV.bool b5], false, []⟩)
    (fun s21 =>
    need (decide (s21.length + (([34] : List UInt8) : List UInt8).length ≤ 9223372036854775807)) <|
    some ⟨AV.tup [AV.str (s21 ++ ([34] : List UInt8)), AV.bool true], false, []⟩)
    N s1 ([34] : List UInt8)
theorem ref01PutDouble_eq (R : Nat → List AV → Option Res) (N : Nat) (s1 : List UInt8) : runF gl R N ref01PutDouble [AV.str s1] = ref01PutDoubler R N s1 := by
  refine Eq.trans (b :=
    rounds [4, 5] [] (evC gl R N ref01PutDouble_c2) (Kblock 0 (Kthen gl R N ref01PutDouble_c3 (Kret ref01PutDouble.rets []))) N ⟨[(4, .imm (AV.bytes s1)), (5, .imm (AV.str ([34] : List UInt8)))], []⟩) (by kernel_rfl) ?_
  simp (config := { maxSteps := 100000000 }) only [ref01PutDouble_L1_eq]
  kernel_rfl
theorem ref01PutDouble_fit : fitF Tryd.prog ref01PutDouble Tryd.f53 = true := by
  kernel_rfl

def keepCopyInt_c0 : AC := .seq (.region [.op (some 2) none (.nilOwn 4 (some (1, .any)))]) (.seq (.region [.op (some 3) none (.mv (.t 0)), .op (some 4) none (.appNil 4 (.t 3) 1 false), .op (some 2) none (.mv (.t 4))]) (.ret [2] [4]))
def keepCopyInt : AFunc := ⟨1, 5, [.tmp 2], keepCopyInt_c0⟩
def keepCopyIntr (R : Nat → List AV → Option Res) (N : Nat) (l1 : List AV) : Option Res :=
  need (decide (l1.length ≤ 1099511627776)) <|
  some ⟨AV.row 1 ((l1.drop 0).take l1.length), true, []⟩
theorem keepCopyInt_eq (R : Nat → List AV → Option Res) (N : Nat) (l1 : List AV) : runF gl R N keepCopyInt [AV.row 1 l1] = keepCopyIntr R N l1 := by
  kernel_rfl
theorem keepCopyInt_fit : fitF Tryd.prog keepCopyInt Tryd.f84 = true := by
  kernel_rfl

def keepCutInt_c0 : AC := .seq (.region [.op (some 4) none (.mv (.k (AV.row 1 [])))]) (.seq (.region [.op (some 5) none (.mv (.t 0)), .op (some 6) none (.mv (.t 0)), .op (some 7) none (.len (.t 6) false), .op (some 8) none (.mv (.t 1)), .op (some 9) none (.mn [.t 7, .t 8]), .op (some 10) none (.slice (.t 5) none (some (.t 9)) 1), .op (some 11) none (.call id_keepCopyInt [.t 10] (.row 1)), .op (some 4) none (.mv (.t 11))]) (.ret [4] []))
def keepCutInt : AFunc := ⟨2, 12, [.tmp 4], keepCutInt_c0⟩
def keepCutIntr (R : Nat → List AV → Option Res) (N : Nat) (l1 : List AV) (i1 : Int) : Option Res :=
  need (decide (0 ≤ (if i1 < ((l1.length : Nat) : Int) then i1 else ((l1.length : Nat) : Int) : Int)) && decide ((if i1 < ((l1.length : Nat) : Int) then i1 else ((l1.length : Nat) : Int) : Int) ≤ ((l1.length : Nat) : Int))) <|
  (R id_keepCopyInt [AV.row 1 ((l1.take (Int.toNat (if i1 < ((l1.length : Nat) : Int) then i1 else ((l1.length : Nat) : Int)))).drop 0)]).bind fun r1 =>
  asR 1 r1.v fun l2 =>
  some ⟨AV.row 1 l2, false, []⟩
theorem keepCutInt_eq (R : Nat → List AV → Option Res) (N : Nat) (l1 : List AV) (i1 : Int) : runF gl R N keepCutInt [AV.row 1 l1, AV.int .i64 i1] = keepCutIntr R N l1 i1 := by
  kernel_rfl
theorem keepCutInt_fit : fitF Tryd.prog keepCutInt Tryd.f54 = true := by
  kernel_rfl
end Go.Proofs.YtmpjohnbddnehaaDoor.Vf
