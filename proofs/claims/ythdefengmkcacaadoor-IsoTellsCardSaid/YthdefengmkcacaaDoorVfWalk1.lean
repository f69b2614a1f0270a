/- The code of the functions that the statements reach, as our evaluator takes it, and what each of them comes to, readably: printed by a program of ours. No condition. -/
import Derived.Test.YthdefengmkcacaaDoorVf4
import Derived.Test.YthdefengmkcacaaDoorChecked
import Derived.Lib.DecodeN
namespace Go.Proofs.YthdefengmkcacaaDoor.Vf
set_option linter.unusedVariables false
set_option linter.unusedSimpArgs false
set_option maxRecDepth 100000
variable (R : Nat → List AV → Option Res) (N : Nat) (K : Ex → St → Option Res) (W : St → Option Res)

abbrev LA := List AV
abbrev LB := List UInt8
abbrev OR := Option Res
abbrev RT := Nat → List AV → Option Res
def oP (d : Nat) (x : AOp) : AStep := .op (some d) none x
def oG (d g : Nat) (b : Bool) (x : AOp) : AStep := .op (some d) (some (g, b)) x
def oM (d s : Nat) : AStep := .op (some d) none (.mv (.t s))
def kB (d : Nat) (b : Bool) : AStep := .op (some d) none (.mv (.k (.bool b)))
def kI (d : Nat) (x : Int) : AStep := .op (some d) none (.mv (.k (.int .i64 x)))
def tI : Ty := .int .i64
def tT : Ty := .agg [.int .i64, .str, .str, .row 1]
def vI (n : Nat) (x : Int) : Nat × SV := (n, .imm (.int .i64 x))
def vS (n : Nat) (x : List UInt8) : Nat × SV := (n, .imm (.str x))
def vB (n : Nat) (x : Bool) : Nat × SV := (n, .imm (.bool x))
def vR (n z : Nat) (x : List AV) : Nat × SV := (n, .imm (.row z x))
def g_first : Nat := 0
def g_accept : Nat := 1
def gl : List (Nat × List AV) := [(g_first, (List.range 256).map fun c => AV.int .u8 (Lib.firstT c)), (g_accept, (List.range 32).map fun i => AV.int .u8 (bif Nat.beq (i % 2) 0 then Lib.accLo (i / 2) else Lib.accHi (i / 2)))]
def needSt {α : Type} (e p : AV) (off sz : Nat) (x : Option α) : Option α := need (Nat.beq p.flat.length sz && Nat.ble (off + sz) e.flat.length && p.flat.all AV.one && Nat.ble 1 sz) x
def id_charsDigit : Nat := 55
def id_charsLetter : Nat := 52
def id_charsName : Nat := 47
def id_internalStringsliteCutPrefix : Nat := 51
def id_internalStringsliteHasPrefix : Nat := 54
def id_internalStringsliteTrimPrefix : Nat := 53
def id_isoCanon : Nat := 11
def id_isoDepth : Nat := 8
def id_isoDepths : Nat := 27
def id_isoKeyed : Nat := 43
def id_isoOrder : Nat := 29
def id_isoRight : Nat := 23
def id_isoSame : Nat := 16
def id_isoSame1 : Nat := 33
def id_isoShared : Nat := 14
def id_isoValid : Nat := 5
def id_isoValid1 : Nat := 22
def id_keepCopyApiThing : Nat := 26
def id_keepCopyInt : Nat := 39
def id_keepCutInt : Nat := 20
def id_keepSameInt : Nat := 13
def id_keepText : Nat := 18
def id_keepThings : Nat := 10
def id_keepWithin : Nat := 17
def id_law18Graph : Nat := 4
def id_law18IsoTells : Nat := 3
def id_law18Wakes : Nat := 7
def id_propsValidTag : Nat := 41
def id_ref01Escape : Nat := 36
def id_ref01Hex : Nat := 38
def id_ref01Letter : Nat := 50
def id_ref01Name : Nat := 44
def id_ref01Printable : Nat := 37
def id_ref01PutDouble : Nat := 19
def id_ref01Rune : Nat := 35
def id_ref08ValidTag : Nat := 24
def id_ref18Canon : Nat := 12
def id_ref18Depth : Nat := 9
def id_ref18DepthLow : Nat := 28
def id_ref18Shared : Nat := 15
def id_ref18Utf8 : Nat := 25
def id_ref18Valid : Nat := 6
def id_slicesCloneIntInt : Nat := 30
def id_slicesContainsFuncT : Nat := 21
def id_slicesEqualFuncT : Nat := 32
def id_slicesEqualIntInt : Nat := 34
def id_slicesIndexFuncT : Nat := 40
def id_slicesReverseIntInt : Nat := 45
def id_stringsCutPrefix : Nat := 46
def id_stringsTrimPrefix : Nat := 48
def id_unicodeUtf8ValidString : Nat := 42
def asSBT {α : Type} (v : AV) (K : List UInt8 → Bool → Option α) : Option α :=
  asT v fun l1 => asC l1 fun x2 r2 => asS x2 fun a0 => asC r2 fun x3 r3 => asB x3 fun a1 => asN r3 <| K a0 a1
def asISSRA {α : Type} (v : AV) (K : Int → List UInt8 → List UInt8 → List AV → Option α) : Option α :=
  asA v fun l1 => asC l1 fun x2 r2 => asI .i64 x2 fun a0 => asC r2 fun x3 r3 => asS x3 fun a1 => asC r3 fun x4 r4 => asS x4 fun a2 => asC r4 fun x5 r5 => asR 1 x5 fun a3 => asN r5 <| K a0 a1 a2 a3
def asJIBT {α : Type} (v : AV) (K : Int → Int → Bool → Option α) : Option α :=
  asT v fun l1 => asC l1 fun x2 r2 => asI .i32 x2 fun a0 => asC r2 fun x3 r3 => asI .i64 x3 fun a1 => asC r3 fun x4 r4 => asB x4 fun a2 => asN r4 <| K a0 a1 a2
def asIIISRA {α : Type} (v : AV) (K : Int → Int → Int → List UInt8 → List AV → Option α) : Option α :=
  asA v fun l1 => asC l1 fun x2 r2 => asI .i64 x2 fun a0 => asC r2 fun x3 r3 => asI .i64 x3 fun a1 => asC r3 fun x4 r4 => asI .i64 x4 fun a2 => asC r4 fun x5 r5 => asS x5 fun a3 => asC r5 fun x6 r6 => asR 1 x6 fun a4 => asN r6 <| K a0 a1 a2 a3 a4
def as0T {α : Type} (v : AV) (K : Option α) : Option α :=
  asT v fun l1 => asN l1 <| K 
def asIBT {α : Type} (v : AV) (K : Int → Bool → Option α) : Option α :=
  asT v fun l1 => asC l1 fun x2 r2 => asI .i64 x2 fun a0 => asC r2 fun x3 r3 => asB x3 fun a1 => asN r3 <| K a0 a1

def charsDigit_c0 : AC := .seq (.region [kB 2 false]) (.seq (.region [oM 3 0, oP 4 (.bin .geq (.t 3) (.k (.int .u8 48))), oM 5 4, .split 5, oG 6 5 true (.mv (.t 0)), oG 7 5 true (.bin .leq (.t 6) (.k (.int .u8 57))), oP 8 (.pick (.t 5) (.t 7) (.k (.bool false))), oM 2 8]) (.ret [2] []))
def charsDigit : AFunc := ⟨1, 9, [.tmp 2], charsDigit_c0⟩
def charsDigitr (R : RT) (N : Nat) (i1 : Int) : OR :=
  bif decide ((i1 : Int) ≥ 48) then
    (some ⟨AV.bool (decide ((i1 : Int) ≤ 57)), false, []⟩)
  else
    some ⟨AV.bool false, false, []⟩
theorem charsDigit_eq (i1 : Int) : runF gl R N charsDigit [AV.int .u8 i1] = charsDigitr R N i1 := by
  unfold charsDigitr
  kernel_rfl
theorem charsDigit_fit : fitF Tryd.prog charsDigit Tryd.f55 = true := by
  kernel_rfl

def charsLetter_c0 : AC := .seq (.region [kB 2 false]) (.seq (.region [oM 3 0, oP 4 (.bin .geq (.t 3) (.k (.int .u8 97))), oM 5 4, .split 5, oG 6 5 true (.mv (.t 0)), oG 7 5 true (.bin .leq (.t 6) (.k (.int .u8 122))), oP 8 (.pick (.t 5) (.t 7) (.k (.bool false))), oM 9 8, .split 9, oG 10 9 false (.mv (.t 0)), oG 11 9 false (.bin .geq (.t 10) (.k (.int .u8 65))), oG 12 9 false (.mv (.t 11)), .split 12, oG 13 12 true (.mv (.t 0)), oG 14 12 true (.bin .leq (.t 13) (.k (.int .u8 90))), oG 15 9 false (.pick (.t 12) (.t 14) (.k (.bool false))), oP 16 (.pick (.t 9) (.k (.bool true)) (.t 15)), oM 17 16, .split 17, oG 18 17 false (.mv (.t 0)), oG 19 17 false (.call id_charsDigit [.t 18] (.bool)), oP 20 (.pick (.t 17) (.k (.bool true)) (.t 19)), oM 21 20, .split 21, oG 22 21 false (.mv (.t 0)), oG 23 21 false (.bin .eql (.t 22) (.k (.int .u8 45))), oP 24 (.pick (.t 21) (.k (.bool true)) (.t 23)), oM 25 24, .split 25, oG 26 25 false (.mv (.t 0)), oG 27 25 false (.bin .eql (.t 26) (.k (.int .u8 95))), oP 28 (.pick (.t 25) (.k (.bool true)) (.t 27)), oM 2 28]) (.ret [2] []))
def charsLetter : AFunc := ⟨1, 29, [.tmp 2], charsLetter_c0⟩
def charsLetterr (R : RT) (N : Nat) (i1 : Int) : OR :=
  bif decide ((i1 : Int) ≥ 97) then
    (bif decide ((i1 : Int) ≤ 122) then
    (some ⟨AV.bool true, false, []⟩)
    else
    bif decide ((i1 : Int) ≥ 65) then
    (bif decide ((i1 : Int) ≤ 90) then
    (some ⟨AV.bool true, false, []⟩)
    else
    (R id_charsDigit [AV.int .u8 i1]).bind fun r1 =>
    asB r1.v fun b1 =>
    bif b1 then
    (some ⟨AV.bool true, false, []⟩)
    else
    bif (i1 : Int) == 45 then
    (some ⟨AV.bool true, false, []⟩)
    else
    some ⟨AV.bool ((i1 : Int) == 95), false, []⟩)
    else
    (R id_charsDigit [AV.int .u8 i1]).bind fun r2 =>
    asB r2.v fun b2 =>
    bif b2 then
    (some ⟨AV.bool true, false, []⟩)
    else
    bif (i1 : Int) == 45 then
    (some ⟨AV.bool true, false, []⟩)
    else
    some ⟨AV.bool ((i1 : Int) == 95), false, []⟩)
  else
    bif decide ((i1 : Int) ≥ 65) then
    (bif decide ((i1 : Int) ≤ 90) then
    (some ⟨AV.bool true, false, []⟩)
    else
    (R id_charsDigit [AV.int .u8 i1]).bind fun r3 =>
    asB r3.v fun b3 =>
    bif b3 then
    (some ⟨AV.bool true, false, []⟩)
    else
    bif (i1 : Int) == 45 then
    (some ⟨AV.bool true, false, []⟩)
    else
    some ⟨AV.bool ((i1 : Int) == 95), false, []⟩)
    else
    (R id_charsDigit [AV.int .u8 i1]).bind fun r4 =>
    asB r4.v fun b4 =>
    bif b4 then
    (some ⟨AV.bool true, false, []⟩)
    else
    bif (i1 : Int) == 45 then
    (some ⟨AV.bool true, false, []⟩)
    else
    some ⟨AV.bool ((i1 : Int) == 95), false, []⟩
theorem charsLetter_eq (i1 : Int) : runF gl R N charsLetter [AV.int .u8 i1] = charsLetterr R N i1 := by
  unfold charsLetterr
  kernel_rfl
theorem charsLetter_fit : fitF Tryd.prog charsLetter Tryd.f52 = true := by
  kernel_rfl

def internalStringsliteHasPrefix_c0 : AC := .seq (.region [kB 4 false]) (.seq (.region [oM 5 0, oP 6 (.len (.t 5) true), oM 7 1, oP 8 (.len (.t 7) true), oP 9 (.bin .geq (.t 6) (.t 8)), oM 10 9, .split 10, oG 11 10 true (.mv (.t 0)), oG 12 10 true (.mv (.t 1)), oG 13 10 true (.len (.t 12) true), oG 14 10 true (.sliceS (.t 11) none (some (.t 13))), oG 15 10 true (.mv (.t 1)), oG 16 10 true (.bin .eql (.t 14) (.t 15)), oP 17 (.pick (.t 10) (.t 16) (.k (.bool false))), oM 4 17]) (.ret [4] []))
def internalStringsliteHasPrefix : AFunc := ⟨2, 18, [.tmp 4], internalStringsliteHasPrefix_c0⟩
def internalStringsliteHasPrefixr (R : RT) (N : Nat) (s1 s2 : LB) : OR :=
  bif decide ((((s1.length : Nat) : Int) : Int) ≥ ((s2.length : Nat) : Int)) then
    (need (decide (0 ≤ (((s2.length : Nat) : Int) : Int)) && decide ((((s2.length : Nat) : Int) : Int) ≤ ((s1.length : Nat) : Int))) <|
    some ⟨AV.bool (((s1.take (Int.toNat ((s2.length : Nat) : Int))).drop 0) == s2), false, []⟩)
  else
    some ⟨AV.bool false, false, []⟩
theorem internalStringsliteHasPrefix_eq (s1 s2 : LB) : runF gl R N internalStringsliteHasPrefix [AV.str s1, AV.str s2] = internalStringsliteHasPrefixr R N s1 s2 := by
  unfold internalStringsliteHasPrefixr
  kernel_rfl
theorem internalStringsliteHasPrefix_fit : fitF Tryd.prog internalStringsliteHasPrefix Tryd.f54 = true := by
  kernel_rfl

def internalStringsliteCutPrefix_c0 : AC := .seq (.region [oP 4 (.mv (.k (.str ([] : LB)))), kB 5 false]) (.seq (.seq (.region [oM 6 0, oM 7 1, oP 8 (.call id_internalStringsliteHasPrefix [.t 6, .t 7] (.bool)), oP 9 (.un .not (.t 8))]) (.cond (.t 9) (.seq (.region [oM 10 0, oM 4 10, kB 5 false]) (.ret [4, 5] [])) (.skip))) (.seq (.region [oM 11 0, oM 12 1, oP 13 (.len (.t 12) true), oP 14 (.sliceS (.t 11) (some (.t 13)) none), oM 4 14, kB 5 true]) (.ret [4, 5] [])))
def internalStringsliteCutPrefix : AFunc := ⟨2, 15, [.tmp 4, .tmp 5], internalStringsliteCutPrefix_c0⟩
def internalStringsliteCutPrefixr (R : RT) (N : Nat) (s1 s2 : LB) : OR :=
  (R id_internalStringsliteHasPrefix [AV.str s1, AV.str s2]).bind fun r1 =>
  asB r1.v fun b1 =>
  bif !b1 then
    (some ⟨AV.tup [AV.str s1, AV.bool false], false, []⟩)
  else
    need (decide (0 ≤ (((s2.length : Nat) : Int) : Int)) && decide ((((s2.length : Nat) : Int) : Int) ≤ ((s1.length : Nat) : Int))) <|
    some ⟨AV.tup [AV.str ((s1.take s1.length).drop (Int.toNat ((s2.length : Nat) : Int))), AV.bool true], false, []⟩
theorem internalStringsliteCutPrefix_eq (s1 s2 : LB) : runF gl R N internalStringsliteCutPrefix [AV.str s1, AV.str s2] = internalStringsliteCutPrefixr R N s1 s2 := by
  unfold internalStringsliteCutPrefixr
  kernel_rfl
theorem internalStringsliteCutPrefix_fit : fitF Tryd.prog internalStringsliteCutPrefix Tryd.f51 = true := by
  kernel_rfl

def internalStringsliteTrimPrefix_c0 : AC := .seq (.region [oP 4 (.mv (.k (.str ([] : LB))))]) (.seq (.seq (.region [oM 5 0, oM 6 1, oP 7 (.call id_internalStringsliteHasPrefix [.t 5, .t 6] (.bool))]) (.cond (.t 7) (.seq (.region [oM 8 0, oM 9 1, oP 10 (.len (.t 9) true), oP 11 (.sliceS (.t 8) (some (.t 10)) none), oM 4 11]) (.ret [4] [])) (.skip))) (.seq (.region [oM 12 0, oM 4 12]) (.ret [4] [])))
def internalStringsliteTrimPrefix : AFunc := ⟨2, 13, [.tmp 4], internalStringsliteTrimPrefix_c0⟩
def internalStringsliteTrimPrefixr (R : RT) (N : Nat) (s1 s2 : LB) : OR :=
  (R id_internalStringsliteHasPrefix [AV.str s1, AV.str s2]).bind fun r1 =>
  asB r1.v fun b1 =>
  bif b1 then
    (need (decide (0 ≤ (((s2.length : Nat) : Int) : Int)) && decide ((((s2.length : Nat) : Int) : Int) ≤ ((s1.length : Nat) : Int))) <|
    some ⟨AV.str ((s1.take s1.length).drop (Int.toNat ((s2.length : Nat) : Int))), false, []⟩)
  else
    some ⟨AV.str s1, false, []⟩
theorem internalStringsliteTrimPrefix_eq (s1 s2 : LB) : runF gl R N internalStringsliteTrimPrefix [AV.str s1, AV.str s2] = internalStringsliteTrimPrefixr R N s1 s2 := by
  unfold internalStringsliteTrimPrefixr
  kernel_rfl
theorem internalStringsliteTrimPrefix_fit : fitF Tryd.prog internalStringsliteTrimPrefix Tryd.f53 = true := by
  kernel_rfl

def stringsCutPrefix_c0 : AC := .seq (.region [oP 4 (.mv (.k (.str ([] : LB)))), kB 5 false]) (.seq (.region [oM 6 0, oM 7 1, oP 8 (.call id_internalStringsliteCutPrefix [.t 6, .t 7] (.tup [.str, .bool])), oP 9 (.extract (.t 8) 0), oP 10 (.extract (.t 8) 1), oM 4 9, oM 5 10]) (.ret [4, 5] []))
def stringsCutPrefix : AFunc := ⟨2, 11, [.tmp 4, .tmp 5], stringsCutPrefix_c0⟩
def stringsCutPrefixr (R : RT) (N : Nat) (s1 s2 : LB) : OR :=
  (R id_internalStringsliteCutPrefix [AV.str s1, AV.str s2]).bind fun r1 =>
  asSBT r1.v fun s3 b1 =>
  some ⟨AV.tup [AV.str s3, AV.bool b1], false, []⟩
theorem stringsCutPrefix_eq (s1 s2 : LB) : runF gl R N stringsCutPrefix [AV.str s1, AV.str s2] = stringsCutPrefixr R N s1 s2 := by
  unfold stringsCutPrefixr
  kernel_rfl
theorem stringsCutPrefix_fit : fitF Tryd.prog stringsCutPrefix Tryd.f46 = true := by
  kernel_rfl

def stringsTrimPrefix_c0 : AC := .seq (.region [oP 4 (.mv (.k (.str ([] : LB))))]) (.seq (.region [oM 5 0, oM 6 1, oP 7 (.call id_internalStringsliteTrimPrefix [.t 5, .t 6] (.str)), oM 4 7]) (.ret [4] []))
def stringsTrimPrefix : AFunc := ⟨2, 8, [.tmp 4], stringsTrimPrefix_c0⟩
def stringsTrimPrefixr (R : RT) (N : Nat) (s1 s2 : LB) : OR :=
  (R id_internalStringsliteTrimPrefix [AV.str s1, AV.str s2]).bind fun r1 =>
  asS r1.v fun s3 =>
  some ⟨AV.str s3, false, []⟩
theorem stringsTrimPrefix_eq (s1 s2 : LB) : runF gl R N stringsTrimPrefix [AV.str s1, AV.str s2] = stringsTrimPrefixr R N s1 s2 := by
  unfold stringsTrimPrefixr
  kernel_rfl
theorem stringsTrimPrefix_fit : fitF Tryd.prog stringsTrimPrefix Tryd.f48 = true := by
  kernel_rfl

def charsName_L1s (R : RT) (N : Nat) (go : LB → LB → Int → Int → OR) (k0 : Bool → OR) (k1 : LB → OR) (s2 s3 : LB) (i1 i2 : Int) : OR :=
  bif decide ((i2 : Int) < i1) then
    (need (decide (0 ≤ (i2 : Int))) <|
    (s3[Int.toNat i2]?).bind fun c1 =>
    (R id_charsLetter [AV.int .u8 (c1.toNat : Int)]).bind fun r1 =>
    asB r1.v fun b1 =>
    bif !b1 then
    (k0 false)
    else
    go s2 s3 i1 (IntKind.i64.wrap (i2 + 1)))
  else
    k1 s2
def charsName_L1 (R : RT) (N : Nat) (k0 : Bool → OR) (k1 : LB → OR) : Nat → LB → LB → Int → Int → OR
  | 0, _, _, _, _ => none
  | n + 1, s2, s3, i1, i2 => charsName_L1s R N (charsName_L1 R N k0 k1 n) k0 k1 s2 s3 i1 i2
def charsName_c0 : AC := .seq (.region [oP 9 (.bin .lss (.t 8) (.t 7))]) (.seq (.cond (.t 9) (.skip) (.exit 0 [0] [])) (.seq (.block 1 (.seq (.region [oP 10 (.iaddr (.t 6) (.t 8) 1 (.int .u8)), oP 11 (.load (.t 10) none (.int .u8)), oM 4 11]) (.seq (.region [oM 12 4, oP 13 (.call id_charsLetter [.t 12] (.bool)), oP 14 (.un .not (.t 13))]) (.cond (.t 14) (.seq (.region [kB 2 false]) (.ret [2] [])) (.skip))))) (.region [oP 15 (.bin .add (.t 8) (.k (.int .i64 1))), oM 8 15])))
theorem charsName_L1s_eq (k0 : Bool → OR) (k1 : LB → OR) (h0 : ∀ (b3 : Bool), K .ret ⟨[vB 2 b3], []⟩ = k0 b3) (h1 : ∀ (s5 : LB), K (.exit 0) ⟨[vS 0 s5], []⟩ = k1 s5) (s2 s3 : LB) (i1 i2 : Int) : charsName_L1s R N (fun (s2 s3 : LB) (i1 i2 : Int) => W ⟨[vS 0 s2, (6, .imm (AV.bytes s3)), vI 7 i1, vI 8 i2], []⟩) k0 k1 s2 s3 i1 i2 =
    evC gl R N charsName_c0 (Kseq (fun st' => W (prune [0, 6, 7, 8] [] st')) K) ⟨[vS 0 s2, (6, .imm (AV.bytes s3)), vI 7 i1, vI 8 i2], []⟩ := by
  unfold charsName_L1s
  simp (disch := (intros; refine id ?_; kernel_rfl)) only [← h0, ← h1]
  kernel_rfl
theorem charsName_L1_eq (k0 : Bool → OR) (k1 : LB → OR) (h0 : ∀ (b3 : Bool), K .ret ⟨[vB 2 b3], []⟩ = k0 b3) (h1 : ∀ (s5 : LB), K (.exit 0) ⟨[vS 0 s5], []⟩ = k1 s5) : ∀ (n : Nat) (s2 s3 : LB) (i1 i2 : Int), charsName_L1 R N k0 k1 n s2 s3 i1 i2 = rounds [0, 6, 7, 8] [] (evC gl R N charsName_c0) K n ⟨[vS 0 s2, (6, .imm (AV.bytes s3)), vI 7 i1, vI 8 i2], []⟩
  | 0, _, _, _, _ => rfl
  | n + 1, s2, s3, i1, i2 => (congrArg (fun go => charsName_L1s R N go k0 k1 s2 s3 i1 i2) (funext fun s2 => funext fun s3 => funext fun i1 => funext fun i2 => charsName_L1_eq k0 k1 h0 h1 n s2 s3 i1 i2)).trans (charsName_L1s_eq R N K (rounds [0, 6, 7, 8] [] (evC gl R N charsName_c0) K n) k0 k1 h0 h1 s2 s3 i1 i2)
def charsName_c1 : AC := .seq (.region [oM 16 0, oP 17 (.bin .neq (.t 16) (.k (.str ([] : LB)))), oM 18 17, .split 18, oG 19 18 true (.mv (.t 0)), oG 20 18 true (.len (.t 19) true), oG 21 18 true (.bin .leq (.t 20) (.k (.int .i64 32))), oP 22 (.pick (.t 18) (.t 21) (.k (.bool false))), oM 2 22]) (.ret [2] [])
def charsName_c2 : AC := .seq (.region [kB 2 false]) (.seq (.seq (.region [oM 5 0, oP 6 (.cvBytes (.t 5)), oP 7 (.len (.t 6) false), kI 8 0]) (.block 0 (.loop [0, 6, 7, 8] [] (charsName_c0)))) (charsName_c1))
def charsName : AFunc := ⟨1, 23, [.tmp 2], charsName_c2⟩
def charsNamer (R : RT) (N : Nat) (s1 : LB) : OR :=
  charsName_L1 R N
    (fun b4 =>
    some ⟨AV.bool b4, false, []⟩)
    (fun s6 =>
    bif !(s6 == ([] : LB)) then
    (some ⟨AV.bool (decide ((((s6.length : Nat) : Int) : Int) ≤ 32)), false, []⟩)
    else
    some ⟨AV.bool false, false, []⟩)
    N s1 s1 ((s1.length : Nat) : Int) 0
theorem charsName_eq (s1 : LB) : runF gl R N charsName [AV.str s1] = charsNamer R N s1 := by
  unfold charsNamer
  simp (disch := (intros; refine id ?_; kernel_rfl)) only [charsName_L1_eq R N (Kblock 0 (Kthen gl R N charsName_c1 (Kret charsName.rets [])))]
  kernel_rfl
theorem charsName_fit : fitF Tryd.prog charsName Tryd.f47 = true := by
  kernel_rfl

def propsValidTag_c0 : AC := .seq (.region [kB 2 false]) (.seq (.region [oM 6 0, oP 7 (.call id_stringsCutPrefix [.t 6, .k (.str ([33] : LB))] (.tup [.str, .bool])), oM 5 7, oP 8 (.extract (.t 5) 0), oP 9 (.extract (.t 5) 1), oM 3 8, oM 4 9]) (.seq (.region [oM 10 4, oM 11 10, .split 11, oG 12 11 true (.mv (.t 3)), oG 13 11 true (.bin .eql (.t 12) (.k (.str ([] : LB)))), oG 14 11 true (.mv (.t 13)), .split 14, oG 15 14 false (.mv (.t 3)), oG 16 14 false (.call id_stringsTrimPrefix [.t 15, .k (.str ([33] : LB))] (.str)), oG 17 14 false (.call id_charsName [.t 16] (.bool)), oG 18 11 true (.pick (.t 14) (.k (.bool true)) (.t 17)), oP 19 (.pick (.t 11) (.t 18) (.k (.bool false))), oM 2 19]) (.ret [2] [])))
def propsValidTag : AFunc := ⟨1, 20, [.tmp 2], propsValidTag_c0⟩
def propsValidTagr (R : RT) (N : Nat) (s1 : LB) : OR :=
  (R id_stringsCutPrefix [AV.str s1, AV.str ([33] : LB)]).bind fun r1 =>
  asSBT r1.v fun s2 b1 =>
  bif b1 then
    (bif s2 == ([] : LB) then
    (some ⟨AV.bool true, false, []⟩)
    else
    (R id_stringsTrimPrefix [AV.str s2, AV.str ([33] : LB)]).bind fun r2 =>
    asS r2.v fun s3 =>
    (R id_charsName [AV.str s3]).bind fun r3 =>
    asB r3.v fun b2 =>
    some ⟨AV.bool b2, false, []⟩)
  else
    some ⟨AV.bool false, false, []⟩
theorem propsValidTag_eq (s1 : LB) : runF gl R N propsValidTag [AV.str s1] = propsValidTagr R N s1 := by
  unfold propsValidTagr
  kernel_rfl
theorem propsValidTag_fit : fitF Tryd.prog propsValidTag Tryd.f41 = true := by
  kernel_rfl

def slicesEqualIntInt_L1s (R : RT) (N : Nat) (go : LA → LA → Int → Int → OR) (k0 : Bool → OR) (k1 : OR) (l3 l4 : LA) (i1 i2 : Int) : OR :=
  bif decide ((i2 : Int) < i1) then
    (need (decide (0 ≤ (i2 : Int))) <|
    (l3[Int.toNat i2]?).bind fun e1 =>
    asI .i64 e1 fun i3 =>
    need (decide (0 ≤ (i2 : Int))) <|
    (l4[Int.toNat i2]?).bind fun e2 =>
    asI .i64 e2 fun i4 =>
    bif (i3 : Int) != i4 then
    (k0 false)
    else
    go l3 l4 i1 (IntKind.i64.wrap (i2 + 1)))
  else
    k1
def slicesEqualIntInt_L1 (R : RT) (N : Nat) (k0 : Bool → OR) (k1 : OR) : Nat → LA → LA → Int → Int → OR
  | 0, _, _, _, _ => none
  | n + 1, l3, l4, i1, i2 => slicesEqualIntInt_L1s R N (slicesEqualIntInt_L1 R N k0 k1 n) k0 k1 l3 l4 i1 i2
def slicesEqualIntInt_c0 : AC := .seq (.region [oP 14 (.bin .lss (.t 13) (.t 12))]) (.seq (.cond (.t 14) (.skip) (.exit 0 [] [])) (.seq (.block 1 (.seq (.region [oM 15 13, oM 5 15]) (.seq (.regionD [0, 1, 12, 13, 24] [] [oM 16 0, oM 17 5, oP 18 (.iaddr (.t 16) (.t 17) 1 tI), oP 19 (.load (.t 18) none tI), oM 20 1, oM 21 5, oP 22 (.iaddr (.t 20) (.t 21) 1 tI), oP 23 (.load (.t 22) none tI), oP 24 (.bin .neq (.t 19) (.t 23))] []) (.cond (.t 24) (.seq (.region [kB 4 false]) (.ret [4] [])) (.skip))))) (.region [oP 25 (.bin .add (.t 13) (.k (.int .i64 1))), oM 13 25])))
theorem slicesEqualIntInt_L1s_eq (k0 : Bool → OR) (k1 : OR) (h0 : ∀ (b2 : Bool), K .ret ⟨[vB 4 b2], []⟩ = k0 b2) (h1 : K (.exit 0) ⟨[], []⟩ = k1) (l3 l4 : LA) (i1 i2 : Int) : slicesEqualIntInt_L1s R N (fun (l3 l4 : LA) (i1 i2 : Int) => W ⟨[vR 0 1 l3, vR 1 1 l4, vI 12 i1, vI 13 i2], []⟩) k0 k1 l3 l4 i1 i2 =
    evC gl R N slicesEqualIntInt_c0 (Kseq (fun st' => W (prune [0, 1, 12, 13] [] st')) K) ⟨[vR 0 1 l3, vR 1 1 l4, vI 12 i1, vI 13 i2], []⟩ := by
  unfold slicesEqualIntInt_L1s
  simp (disch := (intros; refine id ?_; kernel_rfl)) only [← h0, ← h1]
  kernel_rfl
theorem slicesEqualIntInt_L1_eq (k0 : Bool → OR) (k1 : OR) (h0 : ∀ (b2 : Bool), K .ret ⟨[vB 4 b2], []⟩ = k0 b2) (h1 : K (.exit 0) ⟨[], []⟩ = k1) : ∀ (n : Nat) (l3 l4 : LA) (i1 i2 : Int), slicesEqualIntInt_L1 R N k0 k1 n l3 l4 i1 i2 = rounds [0, 1, 12, 13] [] (evC gl R N slicesEqualIntInt_c0) K n ⟨[vR 0 1 l3, vR 1 1 l4, vI 12 i1, vI 13 i2], []⟩
  | 0, _, _, _, _ => rfl
  | n + 1, l3, l4, i1, i2 => (congrArg (fun go => slicesEqualIntInt_L1s R N go k0 k1 l3 l4 i1 i2) (funext fun l3 => funext fun l4 => funext fun i1 => funext fun i2 => slicesEqualIntInt_L1_eq k0 k1 h0 h1 n l3 l4 i1 i2)).trans (slicesEqualIntInt_L1s_eq R N K (rounds [0, 1, 12, 13] [] (evC gl R N slicesEqualIntInt_c0) K n) k0 k1 h0 h1 l3 l4 i1 i2)
def slicesEqualIntInt_c1 : AC := .seq (.region [kB 4 true]) (.ret [4] [])
def slicesEqualIntInt_c2 : AC := .seq (.region [kB 4 false]) (.seq (.seq (.region [oM 6 0, oP 7 (.len (.t 6) false), oM 8 1, oP 9 (.len (.t 8) false), oP 10 (.bin .neq (.t 7) (.t 9))]) (.cond (.t 10) (.seq (.region [kB 4 false]) (.ret [4] [])) (.skip))) (.seq (.seq (.region [oM 11 0, oP 12 (.len (.t 11) false), kI 13 0]) (.block 0 (.loop [0, 1, 12, 13] [] (slicesEqualIntInt_c0)))) (slicesEqualIntInt_c1)))
def slicesEqualIntInt : AFunc := ⟨2, 26, [.tmp 4], slicesEqualIntInt_c2⟩
def slicesEqualIntIntr (R : RT) (N : Nat) (l1 l2 : LA) : OR :=
  bif (((l1.length : Nat) : Int) : Int) != ((l2.length : Nat) : Int) then
    (some ⟨AV.bool false, false, []⟩)
  else
    slicesEqualIntInt_L1 R N
      (fun b3 =>
    some ⟨AV.bool b3, false, []⟩)
      (
    some ⟨AV.bool true, false, []⟩)
      N l1 l2 ((l1.length : Nat) : Int) 0
theorem slicesEqualIntInt_eq (l1 l2 : LA) : runF gl R N slicesEqualIntInt [AV.row 1 l1, AV.row 1 l2] = slicesEqualIntIntr R N l1 l2 := by
  unfold slicesEqualIntIntr
  simp (disch := (intros; refine id ?_; kernel_rfl)) only [slicesEqualIntInt_L1_eq R N (Kblock 0 (Kthen gl R N slicesEqualIntInt_c1 (Kret slicesEqualIntInt.rets [])))]
  kernel_rfl
theorem slicesEqualIntInt_fit : fitF Tryd.prog slicesEqualIntInt Tryd.f34 = true := by
  kernel_rfl

def isoRight_L1s (R : RT) (N : Nat) (go : LA → LA → Int → Int → Int → LB → LB → LA → OR) (k0 : Bool → OR) (k1 : LA → Int → LB → LB → LA → OR) (l3 l4 : LA) (i2 i3 i4 : Int) (s3 s4 : LB) (l5 : LA) : OR :=
  bif decide ((i3 : Int) < i2) then
    (need (decide (0 ≤ (i3 : Int))) <|
    (l4[Int.toNat i3]?).bind fun e1 =>
    asI .i64 e1 fun i5 =>
    bif decide ((i5 : Int) < 0) then
    (k0 false)
    else
    bif decide ((i5 : Int) ≥ ((l3.length : Nat) : Int)) then
    (k0 false)
    else
    go l3 l4 i2 (IntKind.i64.wrap (i3 + 1)) i4 s3 s4 l5)
  else
    k1 l3 i4 s3 s4 l5
def isoRight_L1 (R : RT) (N : Nat) (k0 : Bool → OR) (k1 : LA → Int → LB → LB → LA → OR) : Nat → LA → LA → Int → Int → Int → LB → LB → LA → OR
  | 0, _, _, _, _, _, _, _, _ => none
  | n + 1, l3, l4, i2, i3, i4, s3, s4, l5 => isoRight_L1s R N (isoRight_L1 R N k0 k1 n) k0 k1 l3 l4 i2 i3 i4 s3 s4 l5
def isoRight_c0 : AC := .seq (.region [oP 20 (.bin .lss (.t 19) (.t 18))]) (.seq (.cond (.t 20) (.skip) (.exit 0 [0, 3] [1003])) (.seq (.block 1 (.seq (.region [oP 21 (.iaddr (.t 17) (.t 19) 1 tI), oP 22 (.load (.t 21) none tI), oM 6 22]) (.seq (.region [oM 23 6, oP 24 (.bin .lss (.t 23) (.k (.int .i64 0))), oM 25 24, .split 25, oG 26 25 false (.mv (.t 6)), oG 27 25 false (.mv (.t 0)), oG 28 25 false (.len (.t 27) false), oG 29 25 false (.bin .geq (.t 26) (.t 28)), oP 30 (.pick (.t 25) (.k (.bool true)) (.t 29))]) (.cond (.t 30) (.seq (.region [kB 4 false]) (.ret [4] [])) (.skip))))) (.region [oP 31 (.bin .add (.t 19) (.k (.int .i64 1))), oM 19 31])))
theorem isoRight_L1s_eq (k0 : Bool → OR) (k1 : LA → Int → LB → LB → LA → OR) (h0 : ∀ (b3 : Bool), K .ret ⟨[vB 4 b3], []⟩ = k0 b3) (h1 : ∀ (l8 : LA) (i7 : Int) (s7 s8 : LB) (l9 : LA), K (.exit 0) ⟨[vR 0 4 l8, (3, .ptr 1003 0 0)], [(1003, .box [.imm (AV.int .i64 i7), .imm (AV.str s7), .imm (AV.str s8), .imm (AV.row 1 l9)])]⟩ = k1 l8 i7 s7 s8 l9) (l3 l4 : LA) (i2 i3 i4 : Int) (s3 s4 : LB) (l5 : LA) : isoRight_L1s R N (fun (l3 l4 : LA) (i2 i3 i4 : Int) (s3 s4 : LB) (l5 : LA) => W ⟨[vR 0 4 l3, (3, .ptr 1003 0 0), vR 17 1 l4, vI 18 i2, vI 19 i3], [(1003, .box [.imm (AV.int .i64 i4), .imm (AV.str s3), .imm (AV.str s4), .imm (AV.row 1 l5)])]⟩) k0 k1 l3 l4 i2 i3 i4 s3 s4 l5 =
    evC gl R N isoRight_c0 (Kseq (fun st' => W (prune [0, 3, 17, 18, 19] [1003] st')) K) ⟨[vR 0 4 l3, (3, .ptr 1003 0 0), vR 17 1 l4, vI 18 i2, vI 19 i3], [(1003, .box [.imm (AV.int .i64 i4), .imm (AV.str s3), .imm (AV.str s4), .imm (AV.row 1 l5)])]⟩ := by
  unfold isoRight_L1s
  simp (disch := (intros; refine id ?_; kernel_rfl)) only [← h0, ← h1]
  kernel_rfl
theorem isoRight_L1_eq (k0 : Bool → OR) (k1 : LA → Int → LB → LB → LA → OR) (h0 : ∀ (b3 : Bool), K .ret ⟨[vB 4 b3], []⟩ = k0 b3) (h1 : ∀ (l8 : LA) (i7 : Int) (s7 s8 : LB) (l9 : LA), K (.exit 0) ⟨[vR 0 4 l8, (3, .ptr 1003 0 0)], [(1003, .box [.imm (AV.int .i64 i7), .imm (AV.str s7), .imm (AV.str s8), .imm (AV.row 1 l9)])]⟩ = k1 l8 i7 s7 s8 l9) : ∀ (n : Nat) (l3 l4 : LA) (i2 i3 i4 : Int) (s3 s4 : LB) (l5 : LA), isoRight_L1 R N k0 k1 n l3 l4 i2 i3 i4 s3 s4 l5 = rounds [0, 3, 17, 18, 19] [1003] (evC gl R N isoRight_c0) K n ⟨[vR 0 4 l3, (3, .ptr 1003 0 0), vR 17 1 l4, vI 18 i2, vI 19 i3], [(1003, .box [.imm (AV.int .i64 i4), .imm (AV.str s3), .imm (AV.str s4), .imm (AV.row 1 l5)])]⟩
  | 0, _, _, _, _, _, _, _, _ => rfl
  | n + 1, l3, l4, i2, i3, i4, s3, s4, l5 => (congrArg (fun go => isoRight_L1s R N go k0 k1 l3 l4 i2 i3 i4 s3 s4 l5) (funext fun l3 => funext fun l4 => funext fun i2 => funext fun i3 => funext fun i4 => funext fun s3 => funext fun s4 => funext fun l5 => isoRight_L1_eq k0 k1 h0 h1 n l3 l4 i2 i3 i4 s3 s4 l5)).trans (isoRight_L1s_eq R N K (rounds [0, 3, 17, 18, 19] [1003] (evC gl R N isoRight_c0) K n) k0 k1 h0 h1 l3 l4 i2 i3 i4 s3 s4 l5)
def isoRight_c1 : AC := .seq (.seq (.region [oP 32 (.faddr (.t 3) 0), oP 33 (.load (.t 32) none tI)]) (.block 2 (.seq (.region [oP 35 (.bin .eql (.t 33) (.k (.int .i64 1))), oM 34 35]) (.cond (.t 34) (.seq (.region [oP 36 (.faddr (.t 3) 3), oP 37 (.load (.t 36) none (.row 1)), oP 38 (.len (.t 37) false), oP 39 (.bin .eql (.t 38) (.k (.int .i64 0))), oM 40 39, .split 40, oG 41 40 true (.faddr (.t 3) 2), oG 42 40 true (.load (.t 41) none (.str)), oG 43 40 true (.call id_unicodeUtf8ValidString [.t 42] (.bool)), oP 44 (.pick (.t 40) (.t 43) (.k (.bool false))), oM 4 44]) (.ret [4] [])) (.seq (.region [oP 46 (.bin .eql (.t 33) (.k (.int .i64 2))), oM 45 46]) (.cond (.t 45) (.seq (.region [oP 47 (.faddr (.t 3) 2), oP 48 (.load (.t 47) none (.str)), oP 49 (.bin .eql (.t 48) (.k (.str ([] : LB)))), oM 4 49]) (.ret [4] [])) (.seq (.region [oP 51 (.bin .eql (.t 33) (.k (.int .i64 3))), oM 50 51]) (.cond (.t 50) (.seq (.region [oP 52 (.faddr (.t 3) 2), oP 53 (.load (.t 52) none (.str)), oP 54 (.bin .eql (.t 53) (.k (.str ([] : LB)))), oM 55 54, .split 55, oG 56 55 true (.mv (.t 0)), oG 57 55 true (.faddr (.t 3) 3), oG 58 55 true (.load (.t 57) none (.row 1)), oG 59 55 true (.call id_isoKeyed [.t 56, .t 58] (.bool)), oP 60 (.pick (.t 55) (.t 59) (.k (.bool false))), oM 4 60]) (.ret [4] [])) (.skip))))))))) (.seq (.region [kB 4 false]) (.ret [4] []))
def isoRight_c2 : AC := .seq (.region [oP 3 (.box 1003 (.t 1) 4), kB 4 false]) (.seq (.seq (.region [oP 7 (.faddr (.t 3) 1), oP 8 (.load (.t 7) none (.str)), oP 9 (.call id_propsValidTag [.t 8] (.bool)), oP 10 (.un .not (.t 9)), oM 11 10, .split 11, oG 12 11 false (.faddr (.t 3) 1), oG 13 11 false (.load (.t 12) none (.str)), oG 14 11 false (.bin .eql (.t 13) (.k (.str ([33] : LB)))), oP 15 (.pick (.t 11) (.k (.bool true)) (.t 14))]) (.cond (.t 15) (.seq (.region [kB 4 false]) (.ret [4] [])) (.skip))) (.seq (.seq (.region [oP 16 (.faddr (.t 3) 3), oP 17 (.load (.t 16) none (.row 1)), oP 18 (.len (.t 17) false), kI 19 0]) (.block 0 (.loop [0, 3, 17, 18, 19] [1003] (isoRight_c0)))) (isoRight_c1)))
def isoRight : AFunc := ⟨2, 61, [.tmp 4], isoRight_c2⟩
def isoRightr (R : RT) (N : Nat) (l1 : LA) (i1 : Int) (s1 s2 : LB) (l2 : LA) : OR :=
  (R id_propsValidTag [AV.str s1]).bind fun r1 =>
  asB r1.v fun b1 =>
  bif !b1 then
    (some ⟨AV.bool false, false, []⟩)
  else
    bif s1 == ([33] : LB) then
    (some ⟨AV.bool false, false, []⟩)
    else
    isoRight_L1 R N
      (fun b4 =>
    some ⟨AV.bool b4, false, []⟩)
      (fun l10 i8 s9 s10 l11 =>
    bif (i8 : Int) == 1 then
    (bif (((l11.length : Nat) : Int) : Int) == 0 then
    ((R id_unicodeUtf8ValidString [AV.str s10]).bind fun r2 =>
    asB r2.v fun b5 =>
    some ⟨AV.bool b5, false, []⟩)
    else
    some ⟨AV.bool false, false, []⟩)
    else
    bif (i8 : Int) == 2 then
    (some ⟨AV.bool (s10 == ([] : LB)), false, []⟩)
    else
    bif (i8 : Int) == 3 then
    (bif s10 == ([] : LB) then
    ((R id_isoKeyed [AV.row 4 l10, AV.row 1 l11]).bind fun r3 =>
    asB r3.v fun b6 =>
    some ⟨AV.bool b6, false, []⟩)
    else
    some ⟨AV.bool false, false, []⟩)
    else
    some ⟨AV.bool false, false, []⟩)
      N l1 l2 ((l2.length : Nat) : Int) 0 i1 s1 s2 l2
theorem isoRight_eq (l1 : LA) (i1 : Int) (s1 s2 : LB) (l2 : LA) : runF gl R N isoRight [AV.row 4 l1, AV.agg [AV.int .i64 i1, AV.str s1, AV.str s2, AV.row 1 l2]] = isoRightr R N l1 i1 s1 s2 l2 := by
  unfold isoRightr
  simp (disch := (intros; refine id ?_; kernel_rfl)) only [isoRight_L1_eq R N (Kblock 0 (Kthen gl R N isoRight_c1 (Kret isoRight.rets [])))]
  kernel_rfl
theorem isoRight_fit : fitF Tryd.prog isoRight Tryd.f23 = true := by
  kernel_rfl

def isoKeyed_L1s (R : RT) (N : Nat) (go : LA → LA → Int → List (AV × AV) → OR) (k0 : Bool → OR) (k1 : LA → List (AV × AV) → OR) (l3 l4 : LA) (i1 : Int) (m1 : List (AV × AV)) : OR :=
  bif decide ((i1 : Int) < ((l4.length : Nat) : Int)) then
    (need (decide (0 ≤ (i1 : Int))) <|
    (l4[Int.toNat i1]?).bind fun e1 =>
    asI .i64 e1 fun i2 =>
    need (decide (0 ≤ (i2 : Int))) <|
    (l3[Int.toNat i2]?).bind fun e2 =>
    asISSRA e2 fun i3 s1 s2 l5 =>
    need (keyS (AV.agg [AV.str s1, AV.str s2]) && knownS (AV.agg [AV.str s1, AV.str s2]) m1) <|
    bif (i3 : Int) != 1 then
    (k0 false)
    else
    go l3 l4 (IntKind.i64.wrap (i1 + 2)) (incS (AV.agg [AV.str s1, AV.str s2]) m1))
  else
    k1 l4 m1
def isoKeyed_L1 (R : RT) (N : Nat) (k0 : Bool → OR) (k1 : LA → List (AV × AV) → OR) : Nat → LA → LA → Int → List (AV × AV) → OR
  | 0, _, _, _, _ => none
  | n + 1, l3, l4, i1, m1 => isoKeyed_L1s R N (isoKeyed_L1 R N k0 k1 n) k0 k1 l3 l4 i1 m1
def isoKeyed_c0 : AC := .seq (.seq (.region [oM 9 6, oM 10 1, oP 11 (.len (.t 10) false), oP 12 (.bin .lss (.t 9) (.t 11))]) (.cond (.t 12) (.skip) (.exit 0 [1, 5] [2008]))) (.seq (.block 1 (.seq (.region [oM 15 0, oM 16 1, oM 17 6, oP 18 (.iaddr (.t 16) (.t 17) 1 tI), oP 19 (.load (.t 18) none tI), oP 20 (.iaddr (.t 15) (.t 19) 4 tT), oP 21 (.load (.t 20) (some 4) tT), oP 7 (.alloc 1007 [.int .i64 0, .str [], .str [], .row 1 []]), .op none none (.store (.t 7) (.t 21) 4)]) (.seq (.regionI [0, 1, 5, 6, 7] [1007, 2008] [oM 22 5, oP 23 (.faddr (.t 7) 1), oP 24 (.load (.t 23) none (.str)), oP 25 (.faddr (.t 7) 2), oP 26 (.load (.t 25) none (.str)), oP 27 (.build [.str [], .str []] [(0, 1, .t 24), (1, 1, .t 26)])] 28 29 30 31 (.t 22) (.t 27)) (.seq (.region [oP 32 (.faddr (.t 7) 0), oP 33 (.load (.t 32) none tI), oP 34 (.bin .neq (.t 33) (.k (.int .i64 1)))]) (.cond (.t 34) (.seq (.region [kB 4 false]) (.ret [4] [])) (.skip)))))) (.region [oM 13 6, oP 14 (.bin .add (.t 13) (.k (.int .i64 2))), oM 6 14]))
theorem isoKeyed_L1s_eq (k0 : Bool → OR) (k1 : LA → List (AV × AV) → OR) (h0 : ∀ (b2 : Bool), K .ret ⟨[vB 4 b2], []⟩ = k0 b2) (h1 : ∀ (l7 : LA) (m3 : List (AV × AV)), K (.exit 0) ⟨[vR 1 1 l7, (5, .mp 2008)], [(2008, .map m3)]⟩ = k1 l7 m3) (l3 l4 : LA) (i1 : Int) (m1 : List (AV × AV)) : isoKeyed_L1s R N (fun (l3 l4 : LA) (i1 : Int) (m1 : List (AV × AV)) => W ⟨[vR 0 4 l3, vR 1 1 l4, (5, .mp 2008), vI 6 i1], [(2008, .map m1)]⟩) k0 k1 l3 l4 i1 m1 =
    evC gl R N isoKeyed_c0 (Kseq (fun st' => W (prune [0, 1, 5, 6] [2008] st')) K) ⟨[vR 0 4 l3, vR 1 1 l4, (5, .mp 2008), vI 6 i1], [(2008, .map m1)]⟩ := by
  unfold isoKeyed_L1s
  simp (disch := (intros; refine id ?_; kernel_rfl)) only [← h0, ← h1]
  kernel_rfl
theorem isoKeyed_L1_eq (k0 : Bool → OR) (k1 : LA → List (AV × AV) → OR) (h0 : ∀ (b2 : Bool), K .ret ⟨[vB 4 b2], []⟩ = k0 b2) (h1 : ∀ (l7 : LA) (m3 : List (AV × AV)), K (.exit 0) ⟨[vR 1 1 l7, (5, .mp 2008)], [(2008, .map m3)]⟩ = k1 l7 m3) : ∀ (n : Nat) (l3 l4 : LA) (i1 : Int) (m1 : List (AV × AV)), isoKeyed_L1 R N k0 k1 n l3 l4 i1 m1 = rounds [0, 1, 5, 6] [2008] (evC gl R N isoKeyed_c0) K n ⟨[vR 0 4 l3, vR 1 1 l4, (5, .mp 2008), vI 6 i1], [(2008, .map m1)]⟩
  | 0, _, _, _, _ => rfl
  | n + 1, l3, l4, i1, m1 => (congrArg (fun go => isoKeyed_L1s R N go k0 k1 l3 l4 i1 m1) (funext fun l3 => funext fun l4 => funext fun i1 => funext fun m1 => isoKeyed_L1_eq k0 k1 h0 h1 n l3 l4 i1 m1)).trans (isoKeyed_L1s_eq R N K (rounds [0, 1, 5, 6] [2008] (evC gl R N isoKeyed_c0) K n) k0 k1 h0 h1 l3 l4 i1 m1)
def isoKeyed_c1 : AC := .seq (.region [oM 35 1, oP 36 (.len (.t 35) false), oP 37 (.bin .rem (.t 36) (.k (.int .i64 2))), oP 38 (.bin .eql (.t 37) (.k (.int .i64 0))), oM 39 38, .split 39, oG 40 39 true (.mv (.t 5)), oG 41 39 true (.lenM (.t 40)), oG 42 39 true (.mv (.t 1)), oG 43 39 true (.len (.t 42) false), oG 44 39 true (.bin .quo (.t 43) (.k (.int .i64 2))), oG 45 39 true (.bin .eql (.t 41) (.t 44)), oP 46 (.pick (.t 39) (.t 45) (.k (.bool false))), oM 4 46]) (.ret [4] [])
def isoKeyed_c2 : AC := .seq (.region [kB 4 false]) (.seq (.region [oP 8 (.mkMap 2008), oM 5 8]) (.seq (.seq (.region [kI 6 0]) (.block 0 (.loop [0, 1, 5, 6] [2008] (isoKeyed_c0)))) (isoKeyed_c1)))
def isoKeyed : AFunc := ⟨2, 47, [.tmp 4], isoKeyed_c2⟩
def isoKeyedr (R : RT) (N : Nat) (l1 l2 : LA) : OR :=
  isoKeyed_L1 R N
    (fun b3 =>
    some ⟨AV.bool b3, false, []⟩)
    (fun l8 m4 =>
    need (!decide (2 = 0)) <|
    bif ((Int.tmod ((l8.length : Nat) : Int) 2) : Int) == 0 then
    (need (!decide (2 = 0)) <|
    some ⟨AV.bool ((((m4.length : Nat) : Int) : Int) == (IntKind.i64.wrap (Int.tdiv ((l8.length : Nat) : Int) 2))), false, []⟩)
    else
    some ⟨AV.bool false, false, []⟩)
    N l1 l2 0 []
theorem isoKeyed_eq (l1 l2 : LA) : runF gl R N isoKeyed [AV.row 4 l1, AV.row 1 l2] = isoKeyedr R N l1 l2 := by
  unfold isoKeyedr
  simp (disch := (intros; refine id ?_; kernel_rfl)) only [isoKeyed_L1_eq R N (Kblock 0 (Kthen gl R N isoKeyed_c1 (Kret isoKeyed.rets [])))]
  kernel_rfl
theorem isoKeyed_fit : fitF Tryd.prog isoKeyed Tryd.f43 = true := by
  kernel_rfl

def keepWithin_c0 : AC := .seq (.region [kI 4 0]) (.seq (.seq (.region [oM 6 1, oP 7 (.bin .lss (.t 6) (.k (.int .i64 1)))]) (.cond (.t 7) (.seq (.region [kI 4 0]) (.ret [4] [])) (.skip))) (.seq (.region [oM 8 0, oM 9 1, oP 10 (.bin .rem (.t 8) (.t 9)), oM 5 10]) (.seq (.seq (.region [oM 11 5, oP 12 (.bin .lss (.t 11) (.k (.int .i64 0)))]) (.cond (.t 12) (.region [oM 13 5, oM 14 1, oP 15 (.bin .add (.t 13) (.t 14)), oM 5 15]) (.skip))) (.seq (.region [oM 16 5, oM 4 16]) (.ret [4] [])))))
def keepWithin : AFunc := ⟨2, 17, [.tmp 4], keepWithin_c0⟩
def keepWithinr (R : RT) (N : Nat) (i1 i2 : Int) : OR :=
  bif decide ((i2 : Int) < 1) then
    (some ⟨AV.int .i64 0, false, []⟩)
  else
    need (!decide (i2 = 0)) <|
    bif decide (((Int.tmod i1 i2) : Int) < 0) then
    (some ⟨AV.int .i64 (IntKind.i64.wrap ((Int.tmod i1 i2) + i2)), false, []⟩)
    else
    some ⟨AV.int .i64 (Int.tmod i1 i2), false, []⟩
theorem keepWithin_eq (i1 i2 : Int) : runF gl R N keepWithin [AV.int .i64 i1, AV.int .i64 i2] = keepWithinr R N i1 i2 := by
  unfold keepWithinr
  kernel_rfl
theorem keepWithin_fit : fitF Tryd.prog keepWithin Tryd.f17 = true := by
  kernel_rfl

def keepText_c0 : AC := .seq (.region [oP 4 (.mv (.k (.str ([] : LB))))]) (.seq (.region [oM 5 0, oM 6 0, oP 7 (.len (.t 6) true), oM 8 1, oP 9 (.mn [.t 7, .t 8]), oP 10 (.sliceS (.t 5) none (some (.t 9))), oM 4 10]) (.ret [4] []))
def keepText : AFunc := ⟨2, 11, [.tmp 4], keepText_c0⟩
def keepTextr (R : RT) (N : Nat) (s1 : LB) (i1 : Int) : OR :=
  need (decide (0 ≤ (if i1 < ((s1.length : Nat) : Int) then i1 else ((s1.length : Nat) : Int) : Int)) && decide ((if i1 < ((s1.length : Nat) : Int) then i1 else ((s1.length : Nat) : Int) : Int) ≤ ((s1.length : Nat) : Int))) <|
  some ⟨AV.str ((s1.take (Int.toNat (if i1 < ((s1.length : Nat) : Int) then i1 else ((s1.length : Nat) : Int)))).drop 0), false, []⟩
theorem keepText_eq (s1 : LB) (i1 : Int) : runF gl R N keepText [AV.str s1, AV.int .i64 i1] = keepTextr R N s1 i1 := by
  unfold keepTextr
  kernel_rfl
theorem keepText_fit : fitF Tryd.prog keepText Tryd.f18 = true := by
  kernel_rfl

def ref01Rune_L1s (R : RT) (N : Nat) (go : LB → Int → Int → Int → Int → OR) (k0 : Int → Int → Bool → OR) (k1 : Int → Int → Int → OR) (s2 : LB) (i1 i2 : Int) (i3 i4 : Int) : OR :=
  bif decide ((i4 : Int) < i1) then
    (need (decide (0 ≤ (i4 : Int))) <|
    (s2[Int.toNat i4]?).bind fun c2 =>
    bif ((IntKind.u8.wrap (BitVec.ofInt IntKind.u8.bits (c2.toNat : Int) &&& BitVec.ofInt IntKind.u8.bits 192).toNat) : Int) != 128 then
    (k0 0 1 false)
    else
    need (!decide (6 < 0)) <|
    need (decide (0 ≤ (i4 : Int))) <|
    (s2[Int.toNat i4]?).bind fun c3 =>
    go s2 i1 i2 (IntKind.i32.wrap (BitVec.ofInt IntKind.i32.bits (IntKind.i32.wrap (i3 * 2 ^ (min (Int.toNat 6) IntKind.i32.bits))) ||| BitVec.ofInt IntKind.i32.bits (IntKind.i32.wrap (IntKind.u8.wrap (BitVec.ofInt IntKind.u8.bits (c3.toNat : Int) &&& BitVec.ofInt IntKind.u8.bits 63).toNat))).toNat) (IntKind.i64.wrap (i4 + 1)))
  else
    k1 i1 i2 i3
def ref01Rune_L1 (R : RT) (N : Nat) (k0 : Int → Int → Bool → OR) (k1 : Int → Int → Int → OR) : Nat → LB → Int → Int → Int → Int → OR
  | 0, _, _, _, _, _ => none
  | n + 1, s2, i1, i2, i3, i4 => ref01Rune_L1s R N (ref01Rune_L1 R N k0 k1 n) k0 k1 s2 i1 i2 i3 i4
def ref01Rune_c0 : AC := .seq (.seq (.region [oM 55 9, oM 56 6, oP 57 (.bin .lss (.t 55) (.t 56))]) (.cond (.t 57) (.skip) (.exit 1 [6, 7, 8] []))) (.seq (.block 2 (.seq (.seq (.region [oM 60 0, oM 61 9, oP 62 (.iaddr (.t 60) (.t 61) 1 (.int .u8)), oP 63 (.load (.t 62) none (.int .u8)), oP 64 (.bin .and (.t 63) (.k (.int .u8 192))), oP 65 (.bin .neq (.t 64) (.k (.int .u8 128)))]) (.cond (.t 65) (.seq (.region [oP 2 (.mv (.k (.int .i32 0))), kI 3 1, kB 4 false]) (.ret [2, 3, 4] [])) (.skip))) (.region [oM 66 8, oP 67 (.bin .shl (.t 66) (.k (.int .u64 6))), oM 68 0, oM 69 9, oP 70 (.iaddr (.t 68) (.t 69) 1 (.int .u8)), oP 71 (.load (.t 70) none (.int .u8)), oP 72 (.bin .and (.t 71) (.k (.int .u8 63))), oP 73 (.cvInt .i32 (.t 72)), oP 74 (.bin .or (.t 67) (.t 73)), oM 8 74]))) (.region [oM 58 9, oP 59 (.bin .add (.t 58) (.k (.int .i64 1))), oM 9 59]))
theorem ref01Rune_L1s_eq (k0 : Int → Int → Bool → OR) (k1 : Int → Int → Int → OR) (h0 : ∀ (i10 i11 : Int) (b2 : Bool), K .ret ⟨[(2, .imm (AV.int .i32 i10)), vI 3 i11, vB 4 b2], []⟩ = k0 i10 i11 b2) (h1 : ∀ (i12 i13 i14 : Int), K (.exit 1) ⟨[vI 6 i12, (7, .imm (AV.int .i32 i13)), (8, .imm (AV.int .i32 i14))], []⟩ = k1 i12 i13 i14) (s2 : LB) (i1 i2 : Int) (i3 i4 : Int) : ref01Rune_L1s R N (fun (s2 : LB) (i1 i2 : Int) (i3 i4 : Int) => W ⟨[(0, .imm (AV.bytes s2)), vI 6 i1, (7, .imm (AV.int .i32 i2)), (8, .imm (AV.int .i32 i3)), vI 9 i4], []⟩) k0 k1 s2 i1 i2 i3 i4 =
    evC gl R N ref01Rune_c0 (Kseq (fun st' => W (prune [0, 6, 7, 8, 9] [] st')) K) ⟨[(0, .imm (AV.bytes s2)), vI 6 i1, (7, .imm (AV.int .i32 i2)), (8, .imm (AV.int .i32 i3)), vI 9 i4], []⟩ := by
  unfold ref01Rune_L1s
  simp (disch := (intros; refine id ?_; kernel_rfl)) only [← h0, ← h1]
  kernel_rfl
theorem ref01Rune_L1_eq (k0 : Int → Int → Bool → OR) (k1 : Int → Int → Int → OR) (h0 : ∀ (i10 i11 : Int) (b2 : Bool), K .ret ⟨[(2, .imm (AV.int .i32 i10)), vI 3 i11, vB 4 b2], []⟩ = k0 i10 i11 b2) (h1 : ∀ (i12 i13 i14 : Int), K (.exit 1) ⟨[vI 6 i12, (7, .imm (AV.int .i32 i13)), (8, .imm (AV.int .i32 i14))], []⟩ = k1 i12 i13 i14) : ∀ (n : Nat) (s2 : LB) (i1 i2 : Int) (i3 i4 : Int), ref01Rune_L1 R N k0 k1 n s2 i1 i2 i3 i4 = rounds [0, 6, 7, 8, 9] [] (evC gl R N ref01Rune_c0) K n ⟨[(0, .imm (AV.bytes s2)), vI 6 i1, (7, .imm (AV.int .i32 i2)), (8, .imm (AV.int .i32 i3)), vI 9 i4], []⟩
  | 0, _, _, _, _, _ => rfl
  | n + 1, s2, i1, i2, i3, i4 => (congrArg (fun go => ref01Rune_L1s R N go k0 k1 s2 i1 i2 i3 i4) (funext fun s2 => funext fun i1 => funext fun i2 => funext fun i3 => funext fun i4 => ref01Rune_L1_eq k0 k1 h0 h1 n s2 i1 i2 i3 i4)).trans (ref01Rune_L1s_eq R N K (rounds [0, 6, 7, 8, 9] [] (evC gl R N ref01Rune_c0) K n) k0 k1 h0 h1 s2 i1 i2 i3 i4)
def ref01Rune_c1 : AC := .seq (.seq (.region [oM 75 8, oM 76 7, oP 77 (.bin .lss (.t 75) (.t 76)), oM 78 77, .split 78, oG 79 78 false (.mv (.t 8)), oG 80 78 false (.bin .gtr (.t 79) (.k (.int .i32 1114111))), oP 81 (.pick (.t 78) (.k (.bool true)) (.t 80)), oM 82 81, .split 82, oG 83 82 false (.mv (.t 8)), oG 84 82 false (.bin .geq (.t 83) (.k (.int .i32 55296))), oG 85 82 false (.mv (.t 84)), .split 85, oG 86 85 true (.mv (.t 8)), oG 87 85 true (.bin .leq (.t 86) (.k (.int .i32 57343))), oG 88 82 false (.pick (.t 85) (.t 87) (.k (.bool false))), oP 89 (.pick (.t 82) (.k (.bool true)) (.t 88))]) (.cond (.t 89) (.seq (.region [oP 2 (.mv (.k (.int .i32 0))), kI 3 1, kB 4 false]) (.ret [2, 3, 4] [])) (.skip))) (.seq (.region [oM 90 8, oM 91 6, oM 2 90, oM 3 91, kB 4 true]) (.ret [2, 3, 4] []))
def ref01Rune_c2 : AC := .seq (.region [oP 2 (.mv (.k (.int .i32 0))), kI 3 0, kB 4 false]) (.seq (.seq (.region [oM 10 0, oP 11 (.len (.t 10) false), oP 12 (.bin .eql (.t 11) (.k (.int .i64 0)))]) (.cond (.t 12) (.seq (.region [oP 2 (.mv (.k (.int .i32 0))), kI 3 0, kB 4 false]) (.ret [2, 3, 4] [])) (.skip))) (.seq (.region [oM 13 0, oP 14 (.iaddr (.t 13) (.k (.int .i64 0)) 1 (.int .u8)), oP 15 (.load (.t 14) none (.int .u8)), oM 5 15]) (.seq (.region [kI 6 0, oP 7 (.mv (.k (.int .i32 0)))]) (.seq (.region [oP 8 (.mv (.k (.int .i32 0)))]) (.seq (.block 0 (.seq (.region [oM 17 5, oP 18 (.bin .lss (.t 17) (.k (.int .u8 128))), oM 16 18]) (.cond (.t 16) (.seq (.region [oM 19 5, oP 20 (.cvInt .i32 (.t 19)), oM 2 20, kI 3 1, kB 4 true]) (.ret [2, 3, 4] [])) (.seq (.region [oM 22 5, oP 23 (.bin .geq (.t 22) (.k (.int .u8 194))), oM 24 23, .split 24, oG 25 24 true (.mv (.t 5)), oG 26 24 true (.bin .leq (.t 25) (.k (.int .u8 223))), oP 27 (.pick (.t 24) (.t 26) (.k (.bool false))), oM 21 27]) (.cond (.t 21) (.region [oM 28 5, oP 29 (.bin .and (.t 28) (.k (.int .u8 31))), oP 30 (.cvInt .i32 (.t 29)), kI 6 2, oP 7 (.mv (.k (.int .i32 128))), oM 8 30]) (.seq (.region [oM 32 5, oP 33 (.bin .geq (.t 32) (.k (.int .u8 224))), oM 34 33, .split 34, oG 35 34 true (.mv (.t 5)), oG 36 34 true (.bin .leq (.t 35) (.k (.int .u8 239))), oP 37 (.pick (.t 34) (.t 36) (.k (.bool false))), oM 31 37]) (.cond (.t 31) (.region [oM 38 5, oP 39 (.bin .and (.t 38) (.k (.int .u8 15))), oP 40 (.cvInt .i32 (.t 39)), kI 6 3, oP 7 (.mv (.k (.int .i32 2048))), oM 8 40]) (.seq (.region [oM 42 5, oP 43 (.bin .geq (.t 42) (.k (.int .u8 240))), oM 44 43, .split 44, oG 45 44 true (.mv (.t 5)), oG 46 44 true (.bin .leq (.t 45) (.k (.int .u8 244))), oP 47 (.pick (.t 44) (.t 46) (.k (.bool false))), oM 41 47]) (.cond (.t 41) (.region [oM 48 5, oP 49 (.bin .and (.t 48) (.k (.int .u8 7))), oP 50 (.cvInt .i32 (.t 49)), kI 6 4, oP 7 (.mv (.k (.int .i32 65536))), oM 8 50]) (.seq (.region [oP 2 (.mv (.k (.int .i32 0))), kI 3 1, kB 4 false]) (.ret [2, 3, 4] []))))))))))) (.seq (.seq (.region [oM 51 0, oP 52 (.len (.t 51) false), oM 53 6, oP 54 (.bin .lss (.t 52) (.t 53))]) (.cond (.t 54) (.seq (.region [oP 2 (.mv (.k (.int .i32 0))), kI 3 1, kB 4 false]) (.ret [2, 3, 4] [])) (.skip))) (.seq (.seq (.region [kI 9 1]) (.block 1 (.loop [0, 6, 7, 8, 9] [] (ref01Rune_c0)))) (ref01Rune_c1))))))))
def ref01Rune : AFunc := ⟨1, 92, [.tmp 2, .tmp 3, .tmp 4], ref01Rune_c2⟩
def ref01Runer (R : RT) (N : Nat) (s1 : LB) : OR :=
  bif (((s1.length : Nat) : Int) : Int) == 0 then
    (some ⟨AV.tup [AV.int .i32 0, AV.int .i64 0, AV.bool false], false, []⟩)
  else
    need (decide (0 ≤ (0 : Int))) <|
    (s1[Int.toNat 0]?).bind fun c1 =>
    bif decide (((c1.toNat : Int) : Int) < 128) then
    (some ⟨AV.tup [AV.int .i32 (IntKind.i32.wrap (c1.toNat : Int)), AV.int .i64 1, AV.bool true], false, []⟩)
    else
    bif decide (((c1.toNat : Int) : Int) ≥ 194) then
    (bif decide (((c1.toNat : Int) : Int) ≤ 223) then
    (bif decide ((((s1.length : Nat) : Int) : Int) < 2) then
    (some ⟨AV.tup [AV.int .i32 0, AV.int .i64 1, AV.bool false], false, []⟩)
    else
    ref01Rune_L1 R N
      (fun i15 i16 b3 =>
    some ⟨AV.tup [AV.int .i32 i15, AV.int .i64 i16, AV.bool b3], false, []⟩)
      (fun i17 i18 i19 =>
    bif decide ((i19 : Int) < i18) then
    (some ⟨AV.tup [AV.int .i32 0, AV.int .i64 1, AV.bool false], false, []⟩)
    else
    bif decide ((i19 : Int) > 1114111) then
    (some ⟨AV.tup [AV.int .i32 0, AV.int .i64 1, AV.bool false], false, []⟩)
    else
    bif decide ((i19 : Int) ≥ 55296) then
    (bif decide ((i19 : Int) ≤ 57343) then
    (some ⟨AV.tup [AV.int .i32 0, AV.int .i64 1, AV.bool false], false, []⟩)
    else
    some ⟨AV.tup [AV.int .i32 i19, AV.int .i64 i17, AV.bool true], false, []⟩)
    else
    some ⟨AV.tup [AV.int .i32 i19, AV.int .i64 i17, AV.bool true], false, []⟩)
      N s1 2 128 (IntKind.i32.wrap (IntKind.u8.wrap (BitVec.ofInt IntKind.u8.bits (c1.toNat : Int) &&& BitVec.ofInt IntKind.u8.bits 31).toNat)) 1)
    else
    bif decide (((c1.toNat : Int) : Int) ≥ 224) then
    (bif decide (((c1.toNat : Int) : Int) ≤ 239) then
    (bif decide ((((s1.length : Nat) : Int) : Int) < 3) then
    (some ⟨AV.tup [AV.int .i32 0, AV.int .i64 1, AV.bool false], false, []⟩)
    else
    ref01Rune_L1 R N
      (fun i20 i21 b4 =>
    some ⟨AV.tup [AV.int .i32 i20, AV.int .i64 i21, AV.bool b4], false, []⟩)
      (fun i22 i23 i24 =>
    bif decide ((i24 : Int) < i23) then
    (some ⟨AV.tup [AV.int .i32 0, AV.int .i64 1, AV.bool false], false, []⟩)
    else
    bif decide ((i24 : Int) > 1114111) then
    (some ⟨AV.tup [AV.int .i32 0, AV.int .i64 1, AV.bool false], false, []⟩)
    else
    bif decide ((i24 : Int) ≥ 55296) then
    (bif decide ((i24 : Int) ≤ 57343) then
    (some ⟨AV.tup [AV.int .i32 0, AV.int .i64 1, AV.bool false], false, []⟩)
    else
    some ⟨AV.tup [AV.int .i32 i24, AV.int .i64 i22, AV.bool true], false, []⟩)
    else
    some ⟨AV.tup [AV.int .i32 i24, AV.int .i64 i22, AV.bool true], false, []⟩)
      N s1 3 2048 (IntKind.i32.wrap (IntKind.u8.wrap (BitVec.ofInt IntKind.u8.bits (c1.toNat : Int) &&& BitVec.ofInt IntKind.u8.bits 15).toNat)) 1)
    else
    bif decide (((c1.toNat : Int) : Int) ≥ 240) then
    (bif decide (((c1.toNat : Int) : Int) ≤ 244) then
    (bif decide ((((s1.length : Nat) : Int) : Int) < 4) then
    (some ⟨AV.tup [AV.int .i32 0, AV.int .i64 1, AV.bool false], false, []⟩)
    else
    ref01Rune_L1 R N
      (fun i25 i26 b5 =>
    some ⟨AV.tup [AV.int .i32 i25, AV.int .i64 i26, AV.bool b5], false, []⟩)
      (fun i27 i28 i29 =>
    bif decide ((i29 : Int) < i28) then
    (some ⟨AV.tup [AV.int .i32 0, AV.int .i64 1, AV.bool false], false, []⟩)
    else
    bif decide ((i29 : Int) > 1114111) then
    (some ⟨AV.tup [AV.int .i32 0, AV.int .i64 1, AV.bool false], false, []⟩)
    else
    bif decide ((i29 : Int) ≥ 55296) then
    (bif decide ((i29 : Int) ≤ 57343) then
    (some ⟨AV.tup [AV.int .i32 0, AV.int .i64 1, AV.bool false], false, []⟩)
    else
    some ⟨AV.tup [AV.int .i32 i29, AV.int .i64 i27, AV.bool true], false, []⟩)
    else
    some ⟨AV.tup [AV.int .i32 i29, AV.int .i64 i27, AV.bool true], false, []⟩)
      N s1 4 65536 (IntKind.i32.wrap (IntKind.u8.wrap (BitVec.ofInt IntKind.u8.bits (c1.toNat : Int) &&& BitVec.ofInt IntKind.u8.bits 7).toNat)) 1)
    else
    some ⟨AV.tup [AV.int .i32 0, AV.int .i64 1, AV.bool false], false, []⟩)
    else
    some ⟨AV.tup [AV.int .i32 0, AV.int .i64 1, AV.bool false], false, []⟩)
    else
    bif decide (((c1.toNat : Int) : Int) ≥ 240) then
    (bif decide (((c1.toNat : Int) : Int) ≤ 244) then
    (bif decide ((((s1.length : Nat) : Int) : Int) < 4) then
    (some ⟨AV.tup [AV.int .i32 0, AV.int .i64 1, AV.bool false], false, []⟩)
    else
    ref01Rune_L1 R N
      (fun i30 i31 b6 =>
    some ⟨AV.tup [AV.int .i32 i30, AV.int .i64 i31, AV.bool b6], false, []⟩)
      (fun i32 i33 i34 =>
    bif decide ((i34 : Int) < i33) then
    (some ⟨AV.tup [AV.int .i32 0, AV.int .i64 1, AV.bool false], false, []⟩)
    else
    bif decide ((i34 : Int) > 1114111) then
    (some ⟨AV.tup [AV.int .i32 0, AV.int .i64 1, AV.bool false], false, []⟩)
    else
    bif decide ((i34 : Int) ≥ 55296) then
    (bif decide ((i34 : Int) ≤ 57343) then
    (some ⟨AV.tup [AV.int .i32 0, AV.int .i64 1, AV.bool false], false, []⟩)
    else
    some ⟨AV.tup [AV.int .i32 i34, AV.int .i64 i32, AV.bool true], false, []⟩)
    else
    some ⟨AV.tup [AV.int .i32 i34, AV.int .i64 i32, AV.bool true], false, []⟩)
      N s1 4 65536 (IntKind.i32.wrap (IntKind.u8.wrap (BitVec.ofInt IntKind.u8.bits (c1.toNat : Int) &&& BitVec.ofInt IntKind.u8.bits 7).toNat)) 1)
    else
    some ⟨AV.tup [AV.int .i32 0, AV.int .i64 1, AV.bool false], false, []⟩)
    else
    some ⟨AV.tup [AV.int .i32 0, AV.int .i64 1, AV.bool false], false, []⟩)
    else
    bif decide (((c1.toNat : Int) : Int) ≥ 224) then
    (bif decide (((c1.toNat : Int) : Int) ≤ 239) then
    (bif decide ((((s1.length : Nat) : Int) : Int) < 3) then
    (some ⟨AV.tup [AV.int .i32 0, AV.int .i64 1, AV.bool false], false, []⟩)
    else
    ref01Rune_L1 R N
      (fun i35 i36 b7 =>
    some ⟨AV.tup [AV.int .i32 i35, AV.int .i64 i36, AV.bool b7], false, []⟩)
      (fun i37 i38 i39 =>
    bif decide ((i39 : Int) < i38) then
    (some ⟨AV.tup [AV.int .i32 0, AV.int .i64 1, AV.bool false], false, []⟩)
    else
    bif decide ((i39 : Int) > 1114111) then
    (some ⟨AV.tup [AV.int .i32 0, AV.int .i64 1, AV.bool false], false, []⟩)
    else
    bif decide ((i39 : Int) ≥ 55296) then
    (bif decide ((i39 : Int) ≤ 57343) then
    (some ⟨AV.tup [AV.int .i32 0, AV.int .i64 1, AV.bool false], false, []⟩)
    else
    some ⟨AV.tup [AV.int .i32 i39, AV.int .i64 i37, AV.bool true], false, []⟩)
    else
    some ⟨AV.tup [AV.int .i32 i39, AV.int .i64 i37, AV.bool true], false, []⟩)
      N s1 3 2048 (IntKind.i32.wrap (IntKind.u8.wrap (BitVec.ofInt IntKind.u8.bits (c1.toNat : Int) &&& BitVec.ofInt IntKind.u8.bits 15).toNat)) 1)
    else
    bif decide (((c1.toNat : Int) : Int) ≥ 240) then
    (bif decide (((c1.toNat : Int) : Int) ≤ 244) then
    (bif decide ((((s1.length : Nat) : Int) : Int) < 4) then
    (some ⟨AV.tup [AV.int .i32 0, AV.int .i64 1, AV.bool false], false, []⟩)
    else
    ref01Rune_L1 R N
      (fun i40 i41 b8 =>
    some ⟨AV.tup [AV.int .i32 i40, AV.int .i64 i41, AV.bool b8], false, []⟩)
      (fun i42 i43 i44 =>
    bif decide ((i44 : Int) < i43) then
    (some ⟨AV.tup [AV.int .i32 0, AV.int .i64 1, AV.bool false], false, []⟩)
    else
    bif decide ((i44 : Int) > 1114111) then
    (some ⟨AV.tup [AV.int .i32 0, AV.int .i64 1, AV.bool false], false, []⟩)
    else
    bif decide ((i44 : Int) ≥ 55296) then
    (bif decide ((i44 : Int) ≤ 57343) then
    (some ⟨AV.tup [AV.int .i32 0, AV.int .i64 1, AV.bool false], false, []⟩)
    else
    some ⟨AV.tup [AV.int .i32 i44, AV.int .i64 i42, AV.bool true], false, []⟩)
    else
    some ⟨AV.tup [AV.int .i32 i44, AV.int .i64 i42, AV.bool true], false, []⟩)
      N s1 4 65536 (IntKind.i32.wrap (IntKind.u8.wrap (BitVec.ofInt IntKind.u8.bits (c1.toNat : Int) &&& BitVec.ofInt IntKind.u8.bits 7).toNat)) 1)
    else
    some ⟨AV.tup [AV.int .i32 0, AV.int .i64 1, AV.bool false], false, []⟩)
    else
    some ⟨AV.tup [AV.int .i32 0, AV.int .i64 1, AV.bool false], false, []⟩)
    else
    bif decide (((c1.toNat : Int) : Int) ≥ 240) then
    (bif decide (((c1.toNat : Int) : Int) ≤ 244) then
    (bif decide ((((s1.length : Nat) : Int) : Int) < 4) then
    (some ⟨AV.tup [AV.int .i32 0, AV.int .i64 1, AV.bool false], false, []⟩)
    else
    ref01Rune_L1 R N
      (fun i45 i46 b9 =>
    some ⟨AV.tup [AV.int .i32 i45, AV.int .i64 i46, AV.bool b9], false, []⟩)
      (fun i47 i48 i49 =>
    bif decide ((i49 : Int) < i48) then
    (some ⟨AV.tup [AV.int .i32 0, AV.int .i64 1, AV.bool false], false, []⟩)
    else
    bif decide ((i49 : Int) > 1114111) then
    (some ⟨AV.tup [AV.int .i32 0, AV.int .i64 1, AV.bool false], false, []⟩)
    else
    bif decide ((i49 : Int) ≥ 55296) then
    (bif decide ((i49 : Int) ≤ 57343) then
    (some ⟨AV.tup [AV.int .i32 0, AV.int .i64 1, AV.bool false], false, []⟩)
    else
    some ⟨AV.tup [AV.int .i32 i49, AV.int .i64 i47, AV.bool true], false, []⟩)
    else
    some ⟨AV.tup [AV.int .i32 i49, AV.int .i64 i47, AV.bool true], false, []⟩)
      N s1 4 65536 (IntKind.i32.wrap (IntKind.u8.wrap (BitVec.ofInt IntKind.u8.bits (c1.toNat : Int) &&& BitVec.ofInt IntKind.u8.bits 7).toNat)) 1)
    else
    some ⟨AV.tup [AV.int .i32 0, AV.int .i64 1, AV.bool false], false, []⟩)
    else
    some ⟨AV.tup [AV.int .i32 0, AV.int .i64 1, AV.bool false], false, []⟩
theorem ref01Rune_eq (s1 : LB) : runF gl R N ref01Rune [AV.bytes s1] = ref01Runer R N s1 := by
  unfold ref01Runer
  simp (disch := (intros; refine id ?_; kernel_rfl)) only [ref01Rune_L1_eq R N (Kblock 1 (Kthen gl R N ref01Rune_c1 (Kret ref01Rune.rets [])))]
  kernel_rfl
theorem ref01Rune_fit : fitF Tryd.prog ref01Rune Tryd.f35 = true := by
  kernel_rfl

def ref01Escape_L1s (R : RT) (N : Nat) (go : Int → LB → LA → Int → OR) (k0 : Int → OR) (k1 : OR) (i2 : Int) (s1 : LB) (l1 : LA) (i3 : Int) : OR :=
  bif decide ((i3 : Int) < ((s1.length : Nat) : Int)) then
    (need (decide (0 ≤ (i3 : Int))) <|
    (s1[Int.toNat i3]?).bind fun c1 =>
    bif ((c1.toNat : Int) : Int) == i2 then
    (need (decide (0 ≤ (i3 : Int))) <|
    (l1[Int.toNat i3]?).bind fun e1 =>
    asI .i32 e1 fun i4 =>
    k0 i4)
    else
    go i2 s1 l1 (IntKind.i64.wrap (i3 + 1)))
  else
    k1
def ref01Escape_L1 (R : RT) (N : Nat) (k0 : Int → OR) (k1 : OR) : Nat → Int → LB → LA → Int → OR
  | 0, _, _, _, _ => none
  | n + 1, i2, s1, l1, i3 => ref01Escape_L1s R N (ref01Escape_L1 R N k0 k1 n) k0 k1 i2 s1 l1 i3
def ref01Escape_c0 : AC := .seq (.seq (.region [oM 7 5, oM 8 3, oP 9 (.len (.t 8) true), oP 10 (.bin .lss (.t 7) (.t 9))]) (.cond (.t 10) (.skip) (.exit 0 [] []))) (.seq (.block 1 (.seq (.region [oM 13 3, oM 14 5, oP 15 (.index (.t 13) (.t 14)), oM 16 0, oP 17 (.bin .eql (.t 15) (.t 16))]) (.cond (.t 17) (.seq (.region [oM 18 4, oM 19 5, oP 20 (.iaddr (.t 18) (.t 19) 1 (.int .i32)), oP 21 (.load (.t 20) none (.int .i32)), oM 2 21]) (.ret [2] [])) (.skip)))) (.region [oM 11 5, oP 12 (.bin .add (.t 11) (.k (.int .i64 1))), oM 5 12]))
theorem ref01Escape_L1s_eq (k0 : Int → OR) (k1 : OR) (h0 : ∀ (i6 : Int), K .ret ⟨[(2, .imm (AV.int .i32 i6))], []⟩ = k0 i6) (h1 : K (.exit 0) ⟨[], []⟩ = k1) (i2 : Int) (s1 : LB) (l1 : LA) (i3 : Int) : ref01Escape_L1s R N (fun (i2 : Int) (s1 : LB) (l1 : LA) (i3 : Int) => W ⟨[(0, .imm (AV.int .u8 i2)), vS 3 s1, vR 4 1 l1, vI 5 i3], []⟩) k0 k1 i2 s1 l1 i3 =
    evC gl R N ref01Escape_c0 (Kseq (fun st' => W (prune [0, 3, 4, 5] [] st')) K) ⟨[(0, .imm (AV.int .u8 i2)), vS 3 s1, vR 4 1 l1, vI 5 i3], []⟩ := by
  unfold ref01Escape_L1s
  simp (disch := (intros; refine id ?_; kernel_rfl)) only [← h0, ← h1]
  kernel_rfl
theorem ref01Escape_L1_eq (k0 : Int → OR) (k1 : OR) (h0 : ∀ (i6 : Int), K .ret ⟨[(2, .imm (AV.int .i32 i6))], []⟩ = k0 i6) (h1 : K (.exit 0) ⟨[], []⟩ = k1) : ∀ (n : Nat) (i2 : Int) (s1 : LB) (l1 : LA) (i3 : Int), ref01Escape_L1 R N k0 k1 n i2 s1 l1 i3 = rounds [0, 3, 4, 5] [] (evC gl R N ref01Escape_c0) K n ⟨[(0, .imm (AV.int .u8 i2)), vS 3 s1, vR 4 1 l1, vI 5 i3], []⟩
  | 0, _, _, _, _ => rfl
  | n + 1, i2, s1, l1, i3 => (congrArg (fun go => ref01Escape_L1s R N go k0 k1 i2 s1 l1 i3) (funext fun i2 => funext fun s1 => funext fun l1 => funext fun i3 => ref01Escape_L1_eq k0 k1 h0 h1 n i2 s1 l1 i3)).trans (ref01Escape_L1s_eq R N K (rounds [0, 3, 4, 5] [] (evC gl R N ref01Escape_c0) K n) k0 k1 h0 h1 i2 s1 l1 i3)
def ref01Escape_c1 : AC := .seq (.region [oP 2 (.mv (.k (.int .i32 (-1))))]) (.ret [2] [])
def ref01Escape_c2 : AC := .seq (.region [oP 2 (.mv (.k (.int .i32 0)))]) (.seq (.region [oP 3 (.mv (.k (.str ([48, 97, 98, 116, 110, 118, 102, 114, 101, 34, 47, 92, 32, 78, 95, 76, 80] : LB))))]) (.seq (.region [oP 6 (.bslice [.k (.int .i32 0), .k (.int .i32 7), .k (.int .i32 8), .k (.int .i32 9), .k (.int .i32 10), .k (.int .i32 11), .k (.int .i32 12), .k (.int .i32 13), .k (.int .i32 27), .k (.int .i32 34), .k (.int .i32 47), .k (.int .i32 92), .k (.int .i32 32), .k (.int .i32 133), .k (.int .i32 160), .k (.int .i32 8232), .k (.int .i32 8233)] 1 false), oM 4 6]) (.seq (.seq (.region [kI 5 0]) (.block 0 (.loop [0, 3, 4, 5] [] (ref01Escape_c0)))) (ref01Escape_c1))))
def ref01Escape : AFunc := ⟨1, 22, [.tmp 2], ref01Escape_c2⟩
def ref01Escaper (R : RT) (N : Nat) (i1 : Int) : OR :=
  ref01Escape_L1 R N
    (fun i7 =>
    some ⟨AV.int .i32 i7, false, []⟩)
    (
    some ⟨AV.int .i32 (-1), false, []⟩)
    N i1 ([48, 97, 98, 116, 110, 118, 102, 114, 101, 34, 47, 92, 32, 78, 95, 76, 80] : LB) [AV.int .i32 0, AV.int .i32 7, AV.int .i32 8, AV.int .i32 9, AV.int .i32 10, AV.int .i32 11, AV.int .i32 12, AV.int .i32 13, AV.int .i32 27, AV.int .i32 34, AV.int .i32 47, AV.int .i32 92, AV.int .i32 32, AV.int .i32 133, AV.int .i32 160, AV.int .i32 8232, AV.int .i32 8233] 0
theorem ref01Escape_eq (i1 : Int) : runF gl R N ref01Escape [AV.int .u8 i1] = ref01Escaper R N i1 := by
  unfold ref01Escaper
  simp (disch := (intros; refine id ?_; kernel_rfl)) only [ref01Escape_L1_eq R N (Kblock 0 (Kthen gl R N ref01Escape_c1 (Kret ref01Escape.rets [])))]
  kernel_rfl
theorem ref01Escape_fit : fitF Tryd.prog ref01Escape Tryd.f36 = true := by
  kernel_rfl

def ref01Printable_c0 : AC := .seq (.region [kB 2 false]) (.seq (.block 0 (.seq (.region [oM 4 0, oP 5 (.bin .eql (.t 4) (.k (.int .i32 9))), oM 6 5, .split 6, oG 7 6 false (.mv (.t 0)), oG 8 6 false (.bin .eql (.t 7) (.k (.int .i32 10))), oP 9 (.pick (.t 6) (.k (.bool true)) (.t 8)), oM 10 9, .split 10, oG 11 10 false (.mv (.t 0)), oG 12 10 false (.bin .eql (.t 11) (.k (.int .i32 13))), oP 13 (.pick (.t 10) (.k (.bool true)) (.t 12)), oM 14 13, .split 14, oG 15 14 false (.mv (.t 0)), oG 16 14 false (.bin .eql (.t 15) (.k (.int .i32 133))), oP 17 (.pick (.t 14) (.k (.bool true)) (.t 16)), oM 3 17]) (.cond (.t 3) (.seq (.region [kB 2 true]) (.ret [2] [])) (.seq (.region [oM 19 0, oP 20 (.bin .lss (.t 19) (.k (.int .i32 32))), oM 21 20, .split 21, oG 22 21 false (.mv (.t 0)), oG 23 21 false (.bin .geq (.t 22) (.k (.int .i32 127))), oG 24 21 false (.mv (.t 23)), .split 24, oG 25 24 true (.mv (.t 0)), oG 26 24 true (.bin .leq (.t 25) (.k (.int .i32 159))), oG 27 21 false (.pick (.t 24) (.t 26) (.k (.bool false))), oP 28 (.pick (.t 21) (.k (.bool true)) (.t 27)), oM 29 28, .split 29, oG 30 29 false (.mv (.t 0)), oG 31 29 false (.bin .geq (.t 30) (.k (.int .i32 55296))), oG 32 29 false (.mv (.t 31)), .split 32, oG 33 32 true (.mv (.t 0)), oG 34 32 true (.bin .leq (.t 33) (.k (.int .i32 57343))), oG 35 29 false (.pick (.t 32) (.t 34) (.k (.bool false))), oP 36 (.pick (.t 29) (.k (.bool true)) (.t 35)), oM 37 36, .split 37, oG 38 37 false (.mv (.t 0)), oG 39 37 false (.bin .eql (.t 38) (.k (.int .i32 65279))), oP 40 (.pick (.t 37) (.k (.bool true)) (.t 39)), oM 41 40, .split 41, oG 42 41 false (.mv (.t 0)), oG 43 41 false (.bin .eql (.t 42) (.k (.int .i32 65534))), oP 44 (.pick (.t 41) (.k (.bool true)) (.t 43)), oM 45 44, .split 45, oG 46 45 false (.mv (.t 0)), oG 47 45 false (.bin .eql (.t 46) (.k (.int .i32 65535))), oP 48 (.pick (.t 45) (.k (.bool true)) (.t 47)), oM 49 48, .split 49, oG 50 49 false (.mv (.t 0)), oG 51 49 false (.bin .gtr (.t 50) (.k (.int .i32 1114111))), oP 52 (.pick (.t 49) (.k (.bool true)) (.t 51)), oM 18 52]) (.cond (.t 18) (.seq (.region [kB 2 false]) (.ret [2] [])) (.skip)))))) (.seq (.region [kB 2 true]) (.ret [2] [])))
def ref01Printable : AFunc := ⟨1, 53, [.tmp 2], ref01Printable_c0⟩
def ref01Printabler (R : RT) (N : Nat) (i1 : Int) : OR :=
  bif (i1 : Int) == 9 then
    (some ⟨AV.bool true, false, []⟩)
  else
    bif (i1 : Int) == 10 then
    (some ⟨AV.bool true, false, []⟩)
    else
    bif (i1 : Int) == 13 then
    (some ⟨AV.bool true, false, []⟩)
    else
    bif (i1 : Int) == 133 then
    (some ⟨AV.bool true, false, []⟩)
    else
    bif decide ((i1 : Int) < 32) then
    (some ⟨AV.bool false, false, []⟩)
    else
    bif decide ((i1 : Int) ≥ 127) then
    (bif decide ((i1 : Int) ≤ 159) then
    (some ⟨AV.bool false, false, []⟩)
    else
    bif decide ((i1 : Int) ≥ 55296) then
    (bif decide ((i1 : Int) ≤ 57343) then
    (some ⟨AV.bool false, false, []⟩)
    else
    bif (i1 : Int) == 65279 then
    (some ⟨AV.bool false, false, []⟩)
    else
    bif (i1 : Int) == 65534 then
    (some ⟨AV.bool false, false, []⟩)
    else
    bif (i1 : Int) == 65535 then
    (some ⟨AV.bool false, false, []⟩)
    else
    bif decide ((i1 : Int) > 1114111) then
    (some ⟨AV.bool false, false, []⟩)
    else
    some ⟨AV.bool true, false, []⟩)
    else
    bif (i1 : Int) == 65279 then
    (some ⟨AV.bool false, false, []⟩)
    else
    bif (i1 : Int) == 65534 then
    (some ⟨AV.bool false, false, []⟩)
    else
    bif (i1 : Int) == 65535 then
    (some ⟨AV.bool false, false, []⟩)
    else
    bif decide ((i1 : Int) > 1114111) then
    (some ⟨AV.bool false, false, []⟩)
    else
    some ⟨AV.bool true, false, []⟩)
    else
    bif decide ((i1 : Int) ≥ 55296) then
    (bif decide ((i1 : Int) ≤ 57343) then
    (some ⟨AV.bool false, false, []⟩)
    else
    bif (i1 : Int) == 65279 then
    (some ⟨AV.bool false, false, []⟩)
    else
    bif (i1 : Int) == 65534 then
    (some ⟨AV.bool false, false, []⟩)
    else
    bif (i1 : Int) == 65535 then
    (some ⟨AV.bool false, false, []⟩)
    else
    bif decide ((i1 : Int) > 1114111) then
    (some ⟨AV.bool false, false, []⟩)
    else
    some ⟨AV.bool true, false, []⟩)
    else
    bif (i1 : Int) == 65279 then
    (some ⟨AV.bool false, false, []⟩)
    else
    bif (i1 : Int) == 65534 then
    (some ⟨AV.bool false, false, []⟩)
    else
    bif (i1 : Int) == 65535 then
    (some ⟨AV.bool false, false, []⟩)
    else
    bif decide ((i1 : Int) > 1114111) then
    (some ⟨AV.bool false, false, []⟩)
    else
    some ⟨AV.bool true, false, []⟩
theorem ref01Printable_eq (i1 : Int) : runF gl R N ref01Printable [AV.int .i32 i1] = ref01Printabler R N i1 := by
  unfold ref01Printabler
  kernel_rfl
theorem ref01Printable_fit : fitF Tryd.prog ref01Printable Tryd.f37 = true := by
  kernel_rfl

def ref01Hex_L1s (R : RT) (N : Nat) (go : Int → Int → LB → OR) (k0 : LB → OR) (i3 i4 : Int) (s1 : LB) : OR :=
  bif decide ((i4 : Int) ≥ 0) then
    (need (!decide ((IntKind.u64.wrap (IntKind.i64.wrap (4 * i4))) < 0)) <|
    need (decide (0 ≤ (IntKind.u32.wrap (BitVec.ofInt IntKind.u32.bits (Int.fdiv i3 (2 ^ (min (Int.toNat (IntKind.u64.wrap (IntKind.i64.wrap (4 * i4)))) IntKind.u32.bits))) &&& BitVec.ofInt IntKind.u32.bits 15).toNat : Int))) <|
    ((([48, 49, 50, 51, 52, 53, 54, 55, 56, 57, 65, 66, 67, 68, 69, 70] : LB) : LB)[Int.toNat (IntKind.u32.wrap (BitVec.ofInt IntKind.u32.bits (Int.fdiv i3 (2 ^ (min (Int.toNat (IntKind.u64.wrap (IntKind.i64.wrap (4 * i4)))) IntKind.u32.bits))) &&& BitVec.ofInt IntKind.u32.bits 15).toNat)]?).bind fun c1 =>
    need (decide (0 ≤ ((c1.toNat : Int) : Int)) && decide (((c1.toNat : Int) : Int) < 256)) <|
    need (decide (((s1.drop 0).take s1.length).length + ([UInt8.ofNat (Int.toNat (c1.toNat : Int))] : LB).length ≤ 1099511627776)) <|
    go i3 (IntKind.i64.wrap (i4 - 1)) (((s1.drop 0).take s1.length) ++ [UInt8.ofNat (Int.toNat (c1.toNat : Int))]))
  else
    k0 s1
def ref01Hex_L1 (R : RT) (N : Nat) (k0 : LB → OR) : Nat → Int → Int → LB → OR
  | 0, _, _, _ => none
  | n + 1, i3, i4, s1 => ref01Hex_L1s R N (ref01Hex_L1 R N k0 n) k0 i3 i4 s1
def ref01Hex_c0 : AC := .seq (.seq (.region [oM 15 6, oP 16 (.bin .geq (.t 15) (.k (.int .i64 0)))]) (.cond (.t 16) (.skip) (.exit 0 [5] [5]))) (.seq (.block 1 (.region [oM 19 5, oM 20 0, oM 21 6, oP 22 (.bin .mul (.k (.int .i64 4)) (.t 21)), oP 23 (.cvInt .u64 (.t 22)), oP 24 (.bin .shr (.t 20) (.t 23)), oP 25 (.bin .and (.t 24) (.k (.int .u32 15))), oP 26 (.index (.k (.str ([48, 49, 50, 51, 52, 53, 54, 55, 56, 57, 65, 66, 67, 68, 69, 70] : LB))) (.t 25)), oP 27 (.bslice [.t 26] 1 true), oP 28 (.app 5 (.t 19) (.t 27) 1 .any true), oM 5 28])) (.region [oM 17 6, oP 18 (.bin .sub (.t 17) (.k (.int .i64 1))), oM 6 18]))
theorem ref01Hex_L1s_eq (k0 : LB → OR) (h0 : ∀ (s3 : LB), K (.exit 0) ⟨[(5, .own 5 0 s3.length none)], [(5, .bytes s3 false)]⟩ = k0 s3) (i3 i4 : Int) (s1 : LB) : ref01Hex_L1s R N (fun (i3 i4 : Int) (s1 : LB) => W ⟨[(0, .imm (AV.int .u32 i3)), (5, .own 5 0 s1.length none), vI 6 i4], [(5, .bytes s1 false)]⟩) k0 i3 i4 s1 =
    evC gl R N ref01Hex_c0 (Kseq (fun st' => W (prune [0, 5, 6] [5] st')) K) ⟨[(0, .imm (AV.int .u32 i3)), (5, .own 5 0 s1.length none), vI 6 i4], [(5, .bytes s1 false)]⟩ := by
  unfold ref01Hex_L1s
  simp (disch := (intros; refine id ?_; kernel_rfl)) only [← h0]
  kernel_rfl
theorem ref01Hex_L1_eq (k0 : LB → OR) (h0 : ∀ (s3 : LB), K (.exit 0) ⟨[(5, .own 5 0 s3.length none)], [(5, .bytes s3 false)]⟩ = k0 s3) : ∀ (n : Nat) (i3 i4 : Int) (s1 : LB), ref01Hex_L1 R N k0 n i3 i4 s1 = rounds [0, 5, 6] [5] (evC gl R N ref01Hex_c0) K n ⟨[(0, .imm (AV.int .u32 i3)), (5, .own 5 0 s1.length none), vI 6 i4], [(5, .bytes s1 false)]⟩
  | 0, _, _, _ => rfl
  | n + 1, i3, i4, s1 => (congrArg (fun go => ref01Hex_L1s R N go k0 i3 i4 s1) (funext fun i3 => funext fun i4 => funext fun s1 => ref01Hex_L1_eq k0 h0 n i3 i4 s1)).trans (ref01Hex_L1s_eq R N K (rounds [0, 5, 6] [5] (evC gl R N ref01Hex_c0) K n) k0 h0 i3 i4 s1)
def ref01Hex_c1 : AC := .seq (.region [oM 29 5, oP 30 (.cvStr (.t 29)), oM 4 30]) (.ret [4] [])
def ref01Hex_c2 : AC := .seq (.region [oP 4 (.mv (.k (.str ([] : LB))))]) (.seq (.seq (.region [oM 7 1, oP 8 (.bin .lss (.t 7) (.k (.int .i64 0))), oM 9 8, .split 9, oG 10 9 false (.mv (.t 1)), oG 11 9 false (.bin .gtr (.t 10) (.k (.int .i64 8))), oP 12 (.pick (.t 9) (.k (.bool true)) (.t 11))]) (.cond (.t 12) (.seq (.region [oP 4 (.mv (.k (.str ([] : LB))))]) (.ret [4] [])) (.skip))) (.seq (.region [oP 5 (.nilOwn 5 none)]) (.seq (.seq (.region [oM 13 1, oP 14 (.bin .sub (.t 13) (.k (.int .i64 1))), oM 6 14]) (.block 0 (.loop [0, 5, 6] [5] (ref01Hex_c0)))) (ref01Hex_c1))))
def ref01Hex : AFunc := ⟨2, 31, [.tmp 4], ref01Hex_c2⟩
def ref01Hexr (R : RT) (N : Nat) (i1 i2 : Int) : OR :=
  bif decide ((i2 : Int) < 0) then
    (some ⟨AV.str ([] : LB), false, []⟩)
  else
    bif decide ((i2 : Int) > 8) then
    (some ⟨AV.str ([] : LB), false, []⟩)
    else
    ref01Hex_L1 R N
      (fun s4 =>
    some ⟨AV.str ((s4.drop 0).take s4.length), false, []⟩)
      N i1 (IntKind.i64.wrap (i2 - 1)) []
theorem ref01Hex_eq (i1 i2 : Int) : runF gl R N ref01Hex [AV.int .u32 i1, AV.int .i64 i2] = ref01Hexr R N i1 i2 := by
  unfold ref01Hexr
  simp (disch := (intros; refine id ?_; kernel_rfl)) only [ref01Hex_L1_eq R N (Kblock 0 (Kthen gl R N ref01Hex_c1 (Kret ref01Hex.rets [])))]
  kernel_rfl
theorem ref01Hex_fit : fitF Tryd.prog ref01Hex Tryd.f38 = true := by
  kernel_rfl

def ref01PutDouble_L2s (R : RT) (N : Nat) (go : LB → LB → Int → Int → Int → Int → Int → LB → OR) (k0 : LB → LB → Int → Int → Int → OR) (s4 s5 : LB) (i3 i4 : Int) (i5 i6 i7 : Int) (s6 : LB) : OR :=
  bif decide ((i7 : Int) < i6) then
    (need (decide (0 ≤ (i7 : Int)) && decide ((i7 : Int) < ((s6.length : Nat) : Int))) <|
    (s6[0 + Int.toNat i7]?).bind fun c1 =>
    (R id_ref01Escape [AV.int .u8 (c1.toNat : Int)]).bind fun r2 =>
    asI .i32 r2.v fun i8 =>
    bif (i8 : Int) == i3 then
    (go s4 s5 i3 i4 (c1.toNat : Int) i6 (IntKind.i64.wrap (i7 + 1)) s6)
    else
    go s4 s5 i3 i4 i5 i6 (IntKind.i64.wrap (i7 + 1)) s6)
  else
    k0 s4 s5 i3 i4 i5
def ref01PutDouble_L2 (R : RT) (N : Nat) (k0 : LB → LB → Int → Int → Int → OR) : Nat → LB → LB → Int → Int → Int → Int → Int → LB → OR
  | 0, _, _, _, _, _, _, _, _ => none
  | n + 1, s4, s5, i3, i4, i5, i6, i7, s6 => ref01PutDouble_L2s R N (ref01PutDouble_L2 R N k0 n) k0 s4 s5 i3 i4 i5 i6 i7 s6
def ref01PutDouble_c0 : AC := .seq (.region [oP 29 (.bin .lss (.t 28) (.t 27))]) (.seq (.cond (.t 29) (.skip) (.exit 2 [4, 5, 6, 7, 9] [])) (.seq (.block 3 (.seq (.region [oP 30 (.iaddr (.t 26) (.t 28) 1 (.int .u8)), oP 31 (.load (.t 30) none (.int .u8)), oM 11 31]) (.seq (.region [oM 32 11, oP 33 (.call id_ref01Escape [.t 32] (.int .i32)), oM 34 6, oP 35 (.bin .eql (.t 33) (.t 34))]) (.cond (.t 35) (.region [oM 36 11, oM 9 36]) (.skip))))) (.region [oP 37 (.bin .add (.t 28) (.k (.int .i64 1))), oM 28 37])))
theorem ref01PutDouble_L2s_eq (k0 : LB → LB → Int → Int → Int → OR) (h0 : ∀ (s9 s10 : LB) (i12 i13 i14 : Int), K (.exit 2) ⟨[(4, .imm (AV.bytes s9)), vS 5 s10, (6, .imm (AV.int .i32 i12)), vI 7 i13, (9, .imm (AV.int .u8 i14))], []⟩ = k0 s9 s10 i12 i13 i14) (s4 s5 : LB) (i3 i4 : Int) (i5 i6 i7 : Int) (s6 : LB) : ref01PutDouble_L2s R N (fun (s4 s5 : LB) (i3 i4 : Int) (i5 i6 i7 : Int) (s6 : LB) => W ⟨[(4, .imm (AV.bytes s4)), vS 5 s5, (6, .imm (AV.int .i32 i3)), vI 7 i4, (9, .imm (AV.int .u8 i5)), (26, .own 25 0 s6.length none), vI 27 i6, vI 28 i7], [(25, .bytes s6 false)]⟩) k0 s4 s5 i3 i4 i5 i6 i7 s6 =
    evC gl R N ref01PutDouble_c0 (Kseq (fun st' => W (prune [4, 5, 6, 7, 9, 26, 27, 28] [25] st')) K) ⟨[(4, .imm (AV.bytes s4)), vS 5 s5, (6, .imm (AV.int .i32 i3)), vI 7 i4, (9, .imm (AV.int .u8 i5)), (26, .own 25 0 s6.length none), vI 27 i6, vI 28 i7], [(25, .bytes s6 false)]⟩ := by
  unfold ref01PutDouble_L2s
  simp (disch := (intros; refine id ?_; kernel_rfl)) only [← h0]
  kernel_rfl
theorem ref01PutDouble_L2_eq (k0 : LB → LB → Int → Int → Int → OR) (h0 : ∀ (s9 s10 : LB) (i12 i13 i14 : Int), K (.exit 2) ⟨[(4, .imm (AV.bytes s9)), vS 5 s10, (6, .imm (AV.int .i32 i12)), vI 7 i13, (9, .imm (AV.int .u8 i14))], []⟩ = k0 s9 s10 i12 i13 i14) : ∀ (n : Nat) (s4 s5 : LB) (i3 i4 : Int) (i5 i6 i7 : Int) (s6 : LB), ref01PutDouble_L2 R N k0 n s4 s5 i3 i4 i5 i6 i7 s6 = rounds [4, 5, 6, 7, 9, 26, 27, 28] [25] (evC gl R N ref01PutDouble_c0) K n ⟨[(4, .imm (AV.bytes s4)), vS 5 s5, (6, .imm (AV.int .i32 i3)), vI 7 i4, (9, .imm (AV.int .u8 i5)), (26, .own 25 0 s6.length none), vI 27 i6, vI 28 i7], [(25, .bytes s6 false)]⟩
  | 0, _, _, _, _, _, _, _, _ => rfl
  | n + 1, s4, s5, i3, i4, i5, i6, i7, s6 => (congrArg (fun go => ref01PutDouble_L2s R N go k0 s4 s5 i3 i4 i5 i6 i7 s6) (funext fun s4 => funext fun s5 => funext fun i3 => funext fun i4 => funext fun i5 => funext fun i6 => funext fun i7 => funext fun s6 => ref01PutDouble_L2_eq k0 h0 n s4 s5 i3 i4 i5 i6 i7 s6)).trans (ref01PutDouble_L2s_eq R N K (rounds [4, 5, 6, 7, 9, 26, 27, 28] [25] (evC gl R N ref01PutDouble_c0) K n) k0 h0 s4 s5 i3 i4 i5 i6 i7 s6)
def ref01PutDouble_L1s (R : RT) (N : Nat) (go : LB → LB → OR) (k0 : LB → Bool → OR) (k1 : LB → OR) (s2 s3 : LB) : OR :=
  bif decide ((((s2.length : Nat) : Int) : Int) > 0) then
    ((R id_ref01Rune [AV.bytes s2]).bind fun r1 =>
    asJIBT r1.v fun i1 i2 b1 =>
    bif !b1 then
    (k0 ([] : LB) false)
    else
    ref01PutDouble_L2 R N
      (fun s11 s12 i15 i16 i17 =>
    bif (i17 : Int) != 0 then
    (need (decide (0 ≤ (i17 : Int)) && decide ((i17 : Int) < 256)) <|
    need (decide ((([92] : LB) : LB).length + ([UInt8.ofNat (Int.toNat i17)] : LB).length ≤ 9223372036854775807)) <|
    need (decide (s12.length + (([92] : LB) ++ [UInt8.ofNat (Int.toNat i17)] : LB).length ≤ 9223372036854775807)) <|
    need (decide (0 ≤ (i16 : Int)) && decide ((i16 : Int) ≤ ((s11.length : Nat) : Int))) <|
    go ((s11.take s11.length).drop (Int.toNat i16)) (s12 ++ (([92] : LB) ++ [UInt8.ofNat (Int.toNat i17)])))
    else
    (R id_ref01Printable [AV.int .i32 i15]).bind fun r3 =>
    asB r3.v fun b2 =>
    bif b2 then
    (need (decide (0 ≤ (i16 : Int)) && decide ((i16 : Int) ≤ ((s11.length : Nat) : Int))) <|
    need (decide (s12.length + ((s11.take (Int.toNat i16)).drop 0).length ≤ 9223372036854775807)) <|
    need (decide (0 ≤ (i16 : Int)) && decide ((i16 : Int) ≤ ((s11.length : Nat) : Int))) <|
    go ((s11.take s11.length).drop (Int.toNat i16)) (s12 ++ ((s11.take (Int.toNat i16)).drop 0)))
    else
    bif decide ((i15 : Int) ≤ 255) then
    ((R id_ref01Hex [AV.int .u32 (IntKind.u32.wrap i15), AV.int .i64 2]).bind fun r4 =>
    asS r4.v fun s13 =>
    need (decide ((([92, 120] : LB) : LB).length + s13.length ≤ 9223372036854775807)) <|
    need (decide (s12.length + (([92, 120] : LB) ++ s13 : LB).length ≤ 9223372036854775807)) <|
    need (decide (0 ≤ (i16 : Int)) && decide ((i16 : Int) ≤ ((s11.length : Nat) : Int))) <|
    go ((s11.take s11.length).drop (Int.toNat i16)) (s12 ++ (([92, 120] : LB) ++ s13)))
    else
    bif decide ((i15 : Int) ≤ 65535) then
    ((R id_ref01Hex [AV.int .u32 (IntKind.u32.wrap i15), AV.int .i64 4]).bind fun r5 =>
    asS r5.v fun s14 =>
    need (decide ((([92, 117] : LB) : LB).length + s14.length ≤ 9223372036854775807)) <|
    need (decide (s12.length + (([92, 117] : LB) ++ s14 : LB).length ≤ 9223372036854775807)) <|
    need (decide (0 ≤ (i16 : Int)) && decide ((i16 : Int) ≤ ((s11.length : Nat) : Int))) <|
    go ((s11.take s11.length).drop (Int.toNat i16)) (s12 ++ (([92, 117] : LB) ++ s14)))
    else
    (R id_ref01Hex [AV.int .u32 (IntKind.u32.wrap i15), AV.int .i64 8]).bind fun r6 =>
    asS r6.v fun s15 =>
    need (decide ((([92, 85] : LB) : LB).length + s15.length ≤ 9223372036854775807)) <|
    need (decide (s12.length + (([92, 85] : LB) ++ s15 : LB).length ≤ 9223372036854775807)) <|
    need (decide (0 ≤ (i16 : Int)) && decide ((i16 : Int) ≤ ((s11.length : Nat) : Int))) <|
    go ((s11.take s11.length).drop (Int.toNat i16)) (s12 ++ (([92, 85] : LB) ++ s15)))
      N s2 s3 i1 i2 0 (15 : Int) 0 [48, 97, 98, 116, 110, 118, 102, 114, 101, 34, 92, 78, 95, 76, 80])
  else
    k1 s3
def ref01PutDouble_L1 (R : RT) (N : Nat) (k0 : LB → Bool → OR) (k1 : LB → OR) : Nat → LB → LB → OR
  | 0, _, _ => none
  | n + 1, s2, s3 => ref01PutDouble_L1s R N (ref01PutDouble_L1 R N k0 k1 n) k0 k1 s2 s3
def ref01PutDouble_c1 : AC := .seq (.block 4 (.seq (.region [oM 45 9, oP 46 (.bin .neq (.t 45) (.k (.int .u8 0))), oM 44 46]) (.cond (.t 44) (.region [oM 47 5, oM 48 9, oP 49 (.bslice [.t 48] 1 true), oP 50 (.cvStr (.t 49)), oP 51 (.bin .add (.k (.str ([92] : LB))) (.t 50)), oP 52 (.bin .add (.t 47) (.t 51)), oM 5 52]) (.seq (.region [oM 54 6, oP 55 (.call id_ref01Printable [.t 54] (.bool)), oM 53 55]) (.cond (.t 53) (.region [oM 56 5, oM 57 4, oM 58 7, oP 59 (.slice (.t 57) none (some (.t 58)) 1), oP 60 (.cvStr (.t 59)), oP 61 (.bin .add (.t 56) (.t 60)), oM 5 61]) (.seq (.region [oM 63 6, oP 64 (.bin .leq (.t 63) (.k (.int .i32 255))), oM 62 64]) (.cond (.t 62) (.region [oM 65 5, oM 66 6, oP 67 (.cvInt .u32 (.t 66)), oP 68 (.call id_ref01Hex [.t 67, .k (.int .i64 2)] (.str)), oP 69 (.bin .add (.k (.str ([92, 120] : LB))) (.t 68)), oP 70 (.bin .add (.t 65) (.t 69)), oM 5 70]) (.seq (.region [oM 72 6, oP 73 (.bin .leq (.t 72) (.k (.int .i32 65535))), oM 71 73]) (.cond (.t 71) (.region [oM 74 5, oM 75 6, oP 76 (.cvInt .u32 (.t 75)), oP 77 (.call id_ref01Hex [.t 76, .k (.int .i64 4)] (.str)), oP 78 (.bin .add (.k (.str ([92, 117] : LB))) (.t 77)), oP 79 (.bin .add (.t 74) (.t 78)), oM 5 79]) (.region [oM 38 5, oM 39 6, oP 40 (.cvInt .u32 (.t 39)), oP 41 (.call id_ref01Hex [.t 40, .k (.int .i64 8)] (.str)), oP 42 (.bin .add (.k (.str ([92, 85] : LB))) (.t 41)), oP 43 (.bin .add (.t 38) (.t 42)), oM 5 43])))))))))) (.region [oM 80 4, oM 81 7, oP 82 (.slice (.t 80) (some (.t 81)) none 1), oM 4 82])
def ref01PutDouble_c2 : AC := .seq (.seq (.region [oM 14 4, oP 15 (.len (.t 14) false), oP 16 (.bin .gtr (.t 15) (.k (.int .i64 0)))]) (.cond (.t 16) (.skip) (.exit 0 [5] []))) (.block 1 (.seq (.region [oM 18 4, oP 19 (.call id_ref01Rune [.t 18] (.tup [.int .i32, .int .i64, .bool])), oM 17 19, oP 20 (.extract (.t 17) 0), oP 21 (.extract (.t 17) 1), oP 22 (.extract (.t 17) 2), oM 6 20, oM 7 21, oM 8 22]) (.seq (.seq (.region [oM 23 8, oP 24 (.un .not (.t 23))]) (.cond (.t 24) (.seq (.region [oP 2 (.mv (.k (.str ([] : LB)))), kB 3 false]) (.ret [2, 3] [])) (.skip))) (.seq (.region [oP 9 (.mv (.k (.int .u8 0)))]) (.seq (.seq (.region [oP 25 (.bsliceOwn 25 [.k (.int .u8 48), .k (.int .u8 97), .k (.int .u8 98), .k (.int .u8 116), .k (.int .u8 110), .k (.int .u8 118), .k (.int .u8 102), .k (.int .u8 114), .k (.int .u8 101), .k (.int .u8 34), .k (.int .u8 92), .k (.int .u8 78), .k (.int .u8 95), .k (.int .u8 76), .k (.int .u8 80)] 1 .any true), oP 26 (.cvSame (.t 25)), oP 27 (.len (.t 26) false), kI 28 0]) (.block 2 (.loop [4, 5, 6, 7, 9, 26, 27, 28] [25] (ref01PutDouble_c0)))) (ref01PutDouble_c1))))))
theorem ref01PutDouble_L1s_eq (k0 : LB → Bool → OR) (k1 : LB → OR) (h0 : ∀ (s18 : LB) (b4 : Bool), K .ret ⟨[vS 2 s18, vB 3 b4], []⟩ = k0 s18 b4) (h1 : ∀ (s19 : LB), K (.exit 0) ⟨[vS 5 s19], []⟩ = k1 s19) (s2 s3 : LB) : ref01PutDouble_L1s R N (fun (s2 s3 : LB) => W ⟨[(4, .imm (AV.bytes s2)), vS 5 s3], []⟩) k0 k1 s2 s3 =
    evC gl R N ref01PutDouble_c2 (Kseq (fun st' => W (prune [4, 5] [] st')) K) ⟨[(4, .imm (AV.bytes s2)), vS 5 s3], []⟩ := by
  unfold ref01PutDouble_L1s
  simp (disch := (intros; refine id ?_; kernel_rfl)) only [← h0, ← h1, ref01PutDouble_L2_eq R N (Kblock 2 (Kthen gl R N ref01PutDouble_c1 (Kblock 1 (Kseq (fun st' => W (prune [4, 5] [] st')) K))))]
  kernel_rfl
theorem ref01PutDouble_L1_eq (k0 : LB → Bool → OR) (k1 : LB → OR) (h0 : ∀ (s18 : LB) (b4 : Bool), K .ret ⟨[vS 2 s18, vB 3 b4], []⟩ = k0 s18 b4) (h1 : ∀ (s19 : LB), K (.exit 0) ⟨[vS 5 s19], []⟩ = k1 s19) : ∀ (n : Nat) (s2 s3 : LB), ref01PutDouble_L1 R N k0 k1 n s2 s3 = rounds [4, 5] [] (evC gl R N ref01PutDouble_c2) K n ⟨[(4, .imm (AV.bytes s2)), vS 5 s3], []⟩
  | 0, _, _ => rfl
  | n + 1, s2, s3 => (congrArg (fun go => ref01PutDouble_L1s R N go k0 k1 s2 s3) (funext fun s2 => funext fun s3 => ref01PutDouble_L1_eq k0 k1 h0 h1 n s2 s3)).trans (ref01PutDouble_L1s_eq R N K (rounds [4, 5] [] (evC gl R N ref01PutDouble_c2) K n) k0 k1 h0 h1 s2 s3)
def ref01PutDouble_c3 : AC := .seq (.region [oM 83 5, oP 84 (.bin .add (.t 83) (.k (.str ([34] : LB)))), oM 2 84, kB 3 true]) (.ret [2, 3] [])
def ref01PutDouble_c4 : AC := .seq (.region [oP 2 (.mv (.k (.str ([] : LB)))), kB 3 false]) (.seq (.region [oM 12 0, oP 13 (.cvBytes (.t 12)), oM 4 13]) (.seq (.region [oP 5 (.mv (.k (.str ([34] : LB))))]) (.seq (.block 0 (.loop [4, 5] [] (ref01PutDouble_c2))) (ref01PutDouble_c3))))
def ref01PutDouble : AFunc := ⟨1, 85, [.tmp 2, .tmp 3], ref01PutDouble_c4⟩
def ref01PutDoubler (R : RT) (N : Nat) (s1 : LB) : OR :=
  ref01PutDouble_L1 R N
    (fun s20 b5 =>
    some ⟨AV.tup [AV.str s20, AV.bool b5], false, []⟩)
    (fun s21 =>
    need (decide (s21.length + (([34] : LB) : LB).length ≤ 9223372036854775807)) <|
    some ⟨AV.tup [AV.str (s21 ++ ([34] : LB)), AV.bool true], false, []⟩)
    N s1 ([34] : LB)
theorem ref01PutDouble_eq (s1 : LB) : runF gl R N ref01PutDouble [AV.str s1] = ref01PutDoubler R N s1 := by
  unfold ref01PutDoubler
  simp (disch := (intros; refine id ?_; kernel_rfl)) only [ref01PutDouble_L1_eq R N (Kblock 0 (Kthen gl R N ref01PutDouble_c3 (Kret ref01PutDouble.rets [])))]
  kernel_rfl
theorem ref01PutDouble_fit : fitF Tryd.prog ref01PutDouble Tryd.f19 = true := by
  kernel_rfl

def keepCopyInt_c0 : AC := .seq (.region [oP 2 (.nilOwn 4 (some (1, .any)))]) (.seq (.region [oM 3 0, oP 4 (.appNil 4 (.t 3) 1 false), oM 2 4]) (.ret [2] [4]))
def keepCopyInt : AFunc := ⟨1, 5, [.tmp 2], keepCopyInt_c0⟩
def keepCopyIntr (R : RT) (N : Nat) (l1 : LA) : OR :=
  need (decide (l1.length ≤ 1099511627776)) <|
  some ⟨AV.row 1 ((l1.drop 0).take l1.length), true, []⟩
theorem keepCopyInt_eq (l1 : LA) : runF gl R N keepCopyInt [AV.row 1 l1] = keepCopyIntr R N l1 := by
  unfold keepCopyIntr
  kernel_rfl
theorem keepCopyInt_fit : fitF Tryd.prog keepCopyInt Tryd.f39 = true := by
  kernel_rfl

def keepCutInt_c0 : AC := .seq (.region [oP 4 (.mv (.k (.row 1 [])))]) (.seq (.region [oM 5 0, oM 6 0, oP 7 (.len (.t 6) false), oM 8 1, oP 9 (.mn [.t 7, .t 8]), oP 10 (.slice (.t 5) none (some (.t 9)) 1), oP 11 (.call id_keepCopyInt [.t 10] (.row 1)), oM 4 11]) (.ret [4] []))
def keepCutInt : AFunc := ⟨2, 12, [.tmp 4], keepCutInt_c0⟩
def keepCutIntr (R : RT) (N : Nat) (l1 : LA) (i1 : Int) : OR :=
  need (decide (0 ≤ (if i1 < ((l1.length : Nat) : Int) then i1 else ((l1.length : Nat) : Int) : Int)) && decide ((if i1 < ((l1.length : Nat) : Int) then i1 else ((l1.length : Nat) : Int) : Int) ≤ ((l1.length : Nat) : Int))) <|
  (R id_keepCopyInt [AV.row 1 ((l1.take (Int.toNat (if i1 < ((l1.length : Nat) : Int) then i1 else ((l1.length : Nat) : Int)))).drop 0)]).bind fun r1 =>
  asR 1 r1.v fun l2 =>
  some ⟨AV.row 1 l2, false, []⟩
theorem keepCutInt_eq (l1 : LA) (i1 : Int) : runF gl R N keepCutInt [AV.row 1 l1, AV.int .i64 i1] = keepCutIntr R N l1 i1 := by
  unfold keepCutIntr
  kernel_rfl
theorem keepCutInt_fit : fitF Tryd.prog keepCutInt Tryd.f20 = true := by
  kernel_rfl

def law18Graph_J9 (R : RT) (N : Nat) (k0 : LA → Bool → Int → LA → Int → Int → LA → LA → Int → LB → LB → OR) (l36 : LA) (b11 : Bool) (i51 i52 : Int) (l37 : LA) (i53 i54 : Int) (l38 l39 : LA) (i55 : Int) (s27 s28 : LB) : OR :=
  posN N <|
  need (decide (((l38.drop 0).take l38.length).length + [AV.int .i64 i52].length ≤ 1099511627776)) <|
  k0 l36 b11 i51 l37 i53 i54 (((l38.drop 0).take l38.length) ++ [AV.int .i64 i52]) l39 i55 s27 s28
def law18Graph_c0 : AC := .region [oP 170 (.faddr (.t 7) 3), oP 171 (.load (.t 170) none (.row 1)), oM 172 11, oP 173 (.bslice [.t 172] 1 false), oP 174 (.app 171 (.t 171) (.t 173) 1 .any false), oP 175 (.faddr (.t 7) 3), .op none none (.store (.t 175) (.t 174) 1)]
def law18Graph_c1 : AC := .meet [0, 1, 5, 6, 7, 152, 153, 154] [171, 187, 1007] law18Graph_c0
theorem law18Graph_J9_eq (k0 : LA → Bool → Int → LA → Int → Int → LA → LA → Int → LB → LB → OR) (h0 : ∀ (l48 : LA) (b14 : Bool) (i64 : Int) (l49 : LA) (i65 i66 : Int) (l50 l51 : LA) (i67 : Int) (s33 s34 : LB), K .normal ⟨[vR 0 5 l48, vB 1 b14, (5, .own 187 0 l51.length none), vI 6 i64, (7, .ptr 1007 0 0), vR 152 1 l49, vI 153 i65, vI 154 i66], [(171, .row 1 l50 false), (187, .row 4 l51 false), (1007, .box [.imm (AV.int .i64 i67), .imm (AV.str s33), .imm (AV.str s34), .own 171 0 l50.length none])]⟩ = k0 l48 b14 i64 l49 i65 i66 l50 l51 i67 s33 s34) (l36 : LA) (b11 : Bool) (i51 i52 : Int) (l37 : LA) (i53 i54 : Int) (l38 l39 : LA) (i55 : Int) (s27 s28 : LB) : law18Graph_J9 R N k0 l36 b11 i51 i52 l37 i53 i54 l38 l39 i55 s27 s28 =
    runJ [0, 1, 5, 6, 7, 152, 153, 154] [171, 187, 1007] (evC gl R N law18Graph_c0) K N ⟨[vR 0 5 l36, vB 1 b11, (5, .own 187 0 l39.length none), vI 6 i51, (7, .ptr 1007 0 0), vI 11 i52, vR 152 1 l37, vI 153 i53, vI 154 i54], [(171, .row 1 l38 false), (187, .row 4 l39 false), (1007, .box [.imm (AV.int .i64 i55), .imm (AV.str s27), .imm (AV.str s28), .own 171 0 l38.length none])]⟩ := by
  unfold law18Graph_J9
  refine (congrArg (posN N) ?_).trans (runJ_eq _ _ _ _ _ _).symm
  simp (disch := (intros; refine id ?_; kernel_rfl)) only [← h0]
  kernel_rfl
def law18Graph_J10 (R : RT) (N : Nat) (k0 : LA → Bool → Int → LA → Int → Int → LA → LA → Int → LB → LB → OR) (l56 : LA) (b16 : Bool) (i72 : Int) (l57 : LA) (i73 i74 : Int) (l58 l59 : LA) (i75 : Int) (s37 s38 : LB) : OR :=
  posN N <|
  k0 l56 b16 i72 l57 i73 (IntKind.i64.wrap (i74 + 1)) l58 l59 i75 s37 s38
def law18Graph_c2 : AC := .region [oP 176 (.bin .add (.t 154) (.k (.int .i64 1))), oM 154 176]
def law18Graph_c3 : AC := .meet [0, 1, 5, 6, 7, 152, 153, 154] [171, 187, 1007] law18Graph_c2
theorem law18Graph_J10_eq (k0 : LA → Bool → Int → LA → Int → Int → LA → LA → Int → LB → LB → OR) (h0 : ∀ (l68 : LA) (b19 : Bool) (i84 : Int) (l69 : LA) (i85 i86 : Int) (l70 l71 : LA) (i87 : Int) (s43 s44 : LB), K .normal ⟨[vR 0 5 l68, vB 1 b19, (5, .own 187 0 l71.length none), vI 6 i84, (7, .ptr 1007 0 0), vR 152 1 l69, vI 153 i85, vI 154 i86], [(171, .row 1 l70 false), (187, .row 4 l71 false), (1007, .box [.imm (AV.int .i64 i87), .imm (AV.str s43), .imm (AV.str s44), .own 171 0 l70.length none])]⟩ = k0 l68 b19 i84 l69 i85 i86 l70 l71 i87 s43 s44) (l56 : LA) (b16 : Bool) (i72 : Int) (l57 : LA) (i73 i74 : Int) (l58 l59 : LA) (i75 : Int) (s37 s38 : LB) : law18Graph_J10 R N k0 l56 b16 i72 l57 i73 i74 l58 l59 i75 s37 s38 =
    runJ [0, 1, 5, 6, 7, 152, 153, 154] [171, 187, 1007] (evC gl R N law18Graph_c2) K N ⟨[vR 0 5 l56, vB 1 b16, (5, .own 187 0 l59.length none), vI 6 i72, (7, .ptr 1007 0 0), vR 152 1 l57, vI 153 i73, vI 154 i74], [(171, .row 1 l58 false), (187, .row 4 l59 false), (1007, .box [.imm (AV.int .i64 i75), .imm (AV.str s37), .imm (AV.str s38), .own 171 0 l58.length none])]⟩ := by
  unfold law18Graph_J10
  refine (congrArg (posN N) ?_).trans (runJ_eq _ _ _ _ _ _).symm
  simp (disch := (intros; refine id ?_; kernel_rfl)) only [← h0]
  kernel_rfl
def law18Graph_J8 (R : RT) (N : Nat) (k0 : LA → Bool → Int → LA → Int → Int → LA → LA → Int → LB → LB → OR) (l32 : LA) (b10 : Bool) (i45 : Int) (l33 : LA) (i46 i47 : Int) (l34 l35 : LA) (i48 : Int) (s25 s26 : LB) : OR :=
  posN N <|
  need (decide (0 ≤ (i47 : Int))) <|
  (l33[Int.toNat i47]?).bind fun e12 =>
  asI .i64 e12 fun i49 =>
  bif !b10 then
    ((R id_keepWithin [AV.int .i64 i49, AV.int .i64 (if 9 < ((l32.length : Nat) : Int) then 9 else ((l32.length : Nat) : Int))]).bind fun r8 =>
    asI .i64 r8.v fun i50 =>
    law18Graph_J9 R N
      (fun l52 b15 i68 l53 i69 i70 l54 l55 i71 s35 s36 =>
    law18Graph_J10 R N
      (fun l72 b20 i88 l73 i89 i90 l74 l75 i91 s45 s46 =>
    k0 l72 b20 i88 l73 i89 i90 l74 l75 i91 s45 s46)
       l52 b15 i68 l53 i69 i70 l54 l55 i71 s35 s36)
       l32 b10 i45 i50 l33 i46 i47 l34 l35 i48 s25 s26)
  else
    need (!decide (9 = 0)) <|
    bif ((Int.tmod i49 9) : Int) != 8 then
    ((R id_keepWithin [AV.int .i64 i49, AV.int .i64 (if 9 < ((l32.length : Nat) : Int) then 9 else ((l32.length : Nat) : Int))]).bind fun r9 =>
    asI .i64 r9.v fun i92 =>
    law18Graph_J9 R N
      (fun l76 b21 i93 l77 i94 i95 l78 l79 i96 s47 s48 =>
    law18Graph_J10 R N
      (fun l80 b22 i97 l81 i98 i99 l82 l83 i100 s49 s50 =>
    k0 l80 b22 i97 l81 i98 i99 l82 l83 i100 s49 s50)
       l76 b21 i93 l77 i94 i95 l78 l79 i96 s47 s48)
       l32 b10 i45 i92 l33 i46 i47 l34 l35 i48 s25 s26)
    else
    law18Graph_J9 R N
      (fun l84 b23 i101 l85 i102 i103 l86 l87 i104 s51 s52 =>
    law18Graph_J10 R N
      (fun l88 b24 i105 l89 i106 i107 l90 l91 i108 s53 s54 =>
    k0 l88 b24 i105 l89 i106 i107 l90 l91 i108 s53 s54)
       l84 b23 i101 l85 i102 i103 l86 l87 i104 s51 s52)
       l32 b10 i45 i49 l33 i46 i47 l34 l35 i48 s25 s26
def law18Graph_c4 : AC := .seq (.join [0, 1, 5, 6, 7, 152, 153, 154] [171, 187, 1007] (.block 4 (.seq (.region [oP 156 (.iaddr (.t 152) (.t 154) 1 tI), oP 157 (.load (.t 156) none tI), oM 11 157]) (.seq (.join [0, 1, 5, 6, 7, 11, 152, 153, 154] [171, 187, 1007] (.seq (.region [oM 158 1, oP 159 (.un .not (.t 158)), oM 160 159, .split 160, oG 161 160 false (.mv (.t 11)), oG 162 160 false (.bin .rem (.t 161) (.k (.int .i64 9))), oG 163 160 false (.bin .neq (.t 162) (.k (.int .i64 8))), oP 164 (.pick (.t 160) (.k (.bool true)) (.t 163))]) (.cond (.t 164) (.region [oM 165 11, oM 166 0, oP 167 (.len (.t 166) false), oP 168 (.mn [.t 167, .k (.int .i64 9)]), oP 169 (.call id_keepWithin [.t 165, .t 168] tI), oM 11 169]) (.skip)))) (law18Graph_c1))))) (law18Graph_c3)
def law18Graph_c5 : AC := .meet [0, 1, 5, 6, 7, 152, 153, 154] [171, 187, 1007] law18Graph_c4
theorem law18Graph_J8_eq (k0 : LA → Bool → Int → LA → Int → Int → LA → LA → Int → LB → LB → OR) (h0 : ∀ (l100 : LA) (b27 : Bool) (i117 : Int) (l101 : LA) (i118 i119 : Int) (l102 l103 : LA) (i120 : Int) (s59 s60 : LB), K .normal ⟨[vR 0 5 l100, vB 1 b27, (5, .own 187 0 l103.length none), vI 6 i117, (7, .ptr 1007 0 0), vR 152 1 l101, vI 153 i118, vI 154 i119], [(171, .row 1 l102 false), (187, .row 4 l103 false), (1007, .box [.imm (AV.int .i64 i120), .imm (AV.str s59), .imm (AV.str s60), .own 171 0 l102.length none])]⟩ = k0 l100 b27 i117 l101 i118 i119 l102 l103 i120 s59 s60) (l32 : LA) (b10 : Bool) (i45 : Int) (l33 : LA) (i46 i47 : Int) (l34 l35 : LA) (i48 : Int) (s25 s26 : LB) : law18Graph_J8 R N k0 l32 b10 i45 l33 i46 i47 l34 l35 i48 s25 s26 =
    runJ [0, 1, 5, 6, 7, 152, 153, 154] [171, 187, 1007] (evC gl R N law18Graph_c4) K N ⟨[vR 0 5 l32, vB 1 b10, (5, .own 187 0 l35.length none), vI 6 i45, (7, .ptr 1007 0 0), vR 152 1 l33, vI 153 i46, vI 154 i47], [(171, .row 1 l34 false), (187, .row 4 l35 false), (1007, .box [.imm (AV.int .i64 i48), .imm (AV.str s25), .imm (AV.str s26), .own 171 0 l34.length none])]⟩ := by
  unfold law18Graph_J8
  refine (congrArg (posN N) ?_).trans (runJ_eq _ _ _ _ _ _).symm
  simp (disch := (intros; refine id ?_; kernel_rfl)) only [← h0, law18Graph_J9_eq R N (Kblock 4 (Kjoin [0, 1, 5, 6, 7, 152, 153, 154] [171, 187, 1007] (Kthen gl R N law18Graph_c3 (Kjoin [0, 1, 5, 6, 7, 152, 153, 154] [171, 187, 1007] K)))), law18Graph_J10_eq R N (Kjoin [0, 1, 5, 6, 7, 152, 153, 154] [171, 187, 1007] K)]
  kernel_rfl
def law18Graph_L7s (R : RT) (N : Nat) (go : LA → Bool → Int → LA → Int → Int → LA → LA → Int → LB → LB → OR) (k0 : LA → Bool → Int → LA → LA → Int → LB → LB → OR) (l28 : LA) (b9 : Bool) (i41 : Int) (l29 : LA) (i42 i43 : Int) (l30 l31 : LA) (i44 : Int) (s23 s24 : LB) : OR :=
  bif decide ((i43 : Int) < i42) then
    (law18Graph_J8 R N
      (fun l104 b28 i121 l105 i122 i123 l106 l107 i124 s61 s62 =>
    go l104 b28 i121 l105 i122 i123 l106 l107 i124 s61 s62)
       l28 b9 i41 l29 i42 i43 l30 l31 i44 s23 s24)
  else
    k0 l28 b9 i41 l30 l31 i44 s23 s24
def law18Graph_L7 (R : RT) (N : Nat) (k0 : LA → Bool → Int → LA → LA → Int → LB → LB → OR) : Nat → LA → Bool → Int → LA → Int → Int → LA → LA → Int → LB → LB → OR
  | 0, _, _, _, _, _, _, _, _, _, _, _ => none
  | n + 1, l28, b9, i41, l29, i42, i43, l30, l31, i44, s23, s24 => law18Graph_L7s R N (law18Graph_L7 R N k0 n) k0 l28 b9 i41 l29 i42 i43 l30 l31 i44 s23 s24
def law18Graph_c6 : AC := .seq (.region [oP 155 (.bin .lss (.t 154) (.t 153))]) (.seq (.join [0, 1, 5, 6, 7, 152, 153, 154] [171, 187, 1007] (.cond (.t 155) (.skip) (.exit 3 [0, 1, 5, 6, 7] [171, 187, 1007]))) (law18Graph_c5))
theorem law18Graph_L7s_eq (k0 : LA → Bool → Int → LA → LA → Int → LB → LB → OR) (h0 : ∀ (l111 : LA) (b30 : Bool) (i127 : Int) (l112 l113 : LA) (i128 : Int) (s65 s66 : LB), K (.exit 3) ⟨[vR 0 5 l111, vB 1 b30, (5, .own 187 0 l113.length none), vI 6 i127, (7, .ptr 1007 0 0)], [(171, .row 1 l112 false), (187, .row 4 l113 false), (1007, .box [.imm (AV.int .i64 i128), .imm (AV.str s65), .imm (AV.str s66), .own 171 0 l112.length none])]⟩ = k0 l111 b30 i127 l112 l113 i128 s65 s66) (l28 : LA) (b9 : Bool) (i41 : Int) (l29 : LA) (i42 i43 : Int) (l30 l31 : LA) (i44 : Int) (s23 s24 : LB) : law18Graph_L7s R N (fun (l28 : LA) (b9 : Bool) (i41 : Int) (l29 : LA) (i42 i43 : Int) (l30 l31 : LA) (i44 : Int) (s23 s24 : LB) => W ⟨[vR 0 5 l28, vB 1 b9, (5, .own 187 0 l31.length none), vI 6 i41, (7, .ptr 1007 0 0), vR 152 1 l29, vI 153 i42, vI 154 i43], [(171, .row 1 l30 false), (187, .row 4 l31 false), (1007, .box [.imm (AV.int .i64 i44), .imm (AV.str s23), .imm (AV.str s24), .own 171 0 l30.length none])]⟩) k0 l28 b9 i41 l29 i42 i43 l30 l31 i44 s23 s24 =
    evC gl R N law18Graph_c6 (Kseq (fun st' => W (prune [0, 1, 5, 6, 7, 152, 153, 154] [171, 187, 1007] st')) K) ⟨[vR 0 5 l28, vB 1 b9, (5, .own 187 0 l31.length none), vI 6 i41, (7, .ptr 1007 0 0), vR 152 1 l29, vI 153 i42, vI 154 i43], [(171, .row 1 l30 false), (187, .row 4 l31 false), (1007, .box [.imm (AV.int .i64 i44), .imm (AV.str s23), .imm (AV.str s24), .own 171 0 l30.length none])]⟩ := by
  unfold law18Graph_L7s
  simp (disch := (intros; refine id ?_; kernel_rfl)) only [← h0, law18Graph_J8_eq R N (Kseq (fun st' => W (prune [0, 1, 5, 6, 7, 152, 153, 154] [171, 187, 1007] st')) K)]
  kernel_rfl
theorem law18Graph_L7_eq (k0 : LA → Bool → Int → LA → LA → Int → LB → LB → OR) (h0 : ∀ (l111 : LA) (b30 : Bool) (i127 : Int) (l112 l113 : LA) (i128 : Int) (s65 s66 : LB), K (.exit 3) ⟨[vR 0 5 l111, vB 1 b30, (5, .own 187 0 l113.length none), vI 6 i127, (7, .ptr 1007 0 0)], [(171, .row 1 l112 false), (187, .row 4 l113 false), (1007, .box [.imm (AV.int .i64 i128), .imm (AV.str s65), .imm (AV.str s66), .own 171 0 l112.length none])]⟩ = k0 l111 b30 i127 l112 l113 i128 s65 s66) : ∀ (n : Nat) (l28 : LA) (b9 : Bool) (i41 : Int) (l29 : LA) (i42 i43 : Int) (l30 l31 : LA) (i44 : Int) (s23 s24 : LB), law18Graph_L7 R N k0 n l28 b9 i41 l29 i42 i43 l30 l31 i44 s23 s24 = rounds [0, 1, 5, 6, 7, 152, 153, 154] [171, 187, 1007] (evC gl R N law18Graph_c6) K n ⟨[vR 0 5 l28, vB 1 b9, (5, .own 187 0 l31.length none), vI 6 i41, (7, .ptr 1007 0 0), vR 152 1 l29, vI 153 i42, vI 154 i43], [(171, .row 1 l30 false), (187, .row 4 l31 false), (1007, .box [.imm (AV.int .i64 i44), .imm (AV.str s23), .imm (AV.str s24), .own 171 0 l30.length none])]⟩
  | 0, _, _, _, _, _, _, _, _, _, _, _ => rfl
  | n + 1, l28, b9, i41, l29, i42, i43, l30, l31, i44, s23, s24 => (congrArg (fun go => law18Graph_L7s R N go k0 l28 b9 i41 l29 i42 i43 l30 l31 i44 s23 s24) (funext fun l28 => funext fun b9 => funext fun i41 => funext fun l29 => funext fun i42 => funext fun i43 => funext fun l30 => funext fun l31 => funext fun i44 => funext fun s23 => funext fun s24 => law18Graph_L7_eq k0 h0 n l28 b9 i41 l29 i42 i43 l30 l31 i44 s23 s24)).trans (law18Graph_L7s_eq R N K (rounds [0, 1, 5, 6, 7, 152, 153, 154] [171, 187, 1007] (evC gl R N law18Graph_c6) K n) k0 h0 l28 b9 i41 l29 i42 i43 l30 l31 i44 s23 s24)
def law18Graph_J11 (R : RT) (N : Nat) (k0 : LA → Bool → Int → LA → OR) (l117 : LA) (b32 : Bool) (i131 : Int) (l118 l119 : LA) (i132 : Int) (s69 s70 : LB) : OR :=
  posN N <|
  need (decide (((l119.drop 0).take l119.length).length + [AV.agg [AV.int .i64 i132, AV.str s69, AV.str s70, AV.row 1 ((l118.drop 0).take l118.length)]].length ≤ 1099511627776)) <|
  k0 l117 b32 i131 (((l119.drop 0).take l119.length) ++ [AV.agg [AV.int .i64 i132, AV.str s69, AV.str s70, AV.row 1 ((l118.drop 0).take l118.length)]])
def law18Graph_c7 : AC := .region [oM 177 5, oP 178 (.loadG (.t 7) 4 tT), oP 179 (.bslice [.t 178] 4 false), oP 180 (.app 187 (.t 177) (.t 179) 4 .any false), oM 5 180]
def law18Graph_c8 : AC := .meet [0, 1, 5, 6] [187] law18Graph_c7
theorem law18Graph_J11_eq (k0 : LA → Bool → Int → LA → OR) (h0 : ∀ (l124 : LA) (b35 : Bool) (i135 : Int) (l125 : LA), K .normal ⟨[vR 0 5 l124, vB 1 b35, (5, .own 187 0 l125.length none), vI 6 i135], [(187, .row 4 l125 false)]⟩ = k0 l124 b35 i135 l125) (l117 : LA) (b32 : Bool) (i131 : Int) (l118 l119 : LA) (i132 : Int) (s69 s70 : LB) : law18Graph_J11 R N k0 l117 b32 i131 l118 l119 i132 s69 s70 =
    runJ [0, 1, 5, 6] [187] (evC gl R N law18Graph_c7) K N ⟨[vR 0 5 l117, vB 1 b32, (5, .own 187 0 l119.length none), vI 6 i131, (7, .ptr 1007 0 0)], [(171, .row 1 l118 false), (187, .row 4 l119 false), (1007, .box [.imm (AV.int .i64 i132), .imm (AV.str s69), .imm (AV.str s70), .own 171 0 l118.length none])]⟩ := by
  unfold law18Graph_J11
  refine (congrArg (posN N) ?_).trans (runJ_eq _ _ _ _ _ _).symm
  simp (disch := (intros; refine id ?_; kernel_rfl)) only [← h0]
  kernel_rfl
def law18Graph_J6 (R : RT) (N : Nat) (k0 : LA → Bool → Int → LA → OR) (l23 : LA) (b8 : Bool) (i36 : Int) (l24 l25 : LA) (i37 : Int) (s20 s21 : LB) : OR :=
  posN N <|
  bif (i37 : Int) != 1 then
    (need (decide (0 ≤ (i36 : Int))) <|
    (l23[Int.toNat i36]?).bind fun e11 =>
    asIIISRA e11 fun i38 i39 i40 s22 l26 =>
    (R id_keepCutInt [AV.row 1 l26, AV.int .i64 5]).bind fun r7 =>
    asR 1 r7.v fun l27 =>
    law18Graph_L7 R N
      (fun l114 b31 i129 l115 l116 i130 s67 s68 =>
    law18Graph_J11 R N
      (fun l126 b36 i136 l127 =>
    k0 l126 b36 i136 l127)
       l114 b31 i129 l115 l116 i130 s67 s68)
      N l23 b8 i36 l27 ((l27.length : Nat) : Int) 0 l24 l25 i37 s20 s21)
  else
    bif b8 then
    (need (decide (0 ≤ (i36 : Int))) <|
    (l23[Int.toNat i36]?).bind fun e13 =>
    asIIISRA e13 fun i137 i138 i139 s71 l128 =>
    need (!decide (7 = 0)) <|
    bif ((Int.tmod i139 7) : Int) == 6 then
    (need (decide (0 ≤ (i36 : Int))) <|
    (l23[Int.toNat i36]?).bind fun e14 =>
    asIIISRA e14 fun i140 i141 i142 s72 l129 =>
    (R id_keepCutInt [AV.row 1 l129, AV.int .i64 5]).bind fun r10 =>
    asR 1 r10.v fun l130 =>
    law18Graph_L7 R N
      (fun l131 b37 i143 l132 l133 i144 s73 s74 =>
    law18Graph_J11 R N
      (fun l134 b38 i145 l135 =>
    k0 l134 b38 i145 l135)
       l131 b37 i143 l132 l133 i144 s73 s74)
      N l23 b8 i36 l130 ((l130.length : Nat) : Int) 0 l24 l25 i37 s20 s21)
    else
    law18Graph_J11 R N
      (fun l136 b39 i146 l137 =>
    k0 l136 b39 i146 l137)
       l23 b8 i36 l24 l25 i37 s20 s21)
    else
    law18Graph_J11 R N
      (fun l138 b40 i147 l139 =>
    k0 l138 b40 i147 l139)
       l23 b8 i36 l24 l25 i37 s20 s21
def law18Graph_c9 : AC := .seq (.join [0, 1, 5, 6, 7] [171, 187, 1007] (.seq (.region [oP 132 (.faddr (.t 7) 0), oP 133 (.load (.t 132) none tI), oP 134 (.bin .neq (.t 133) (.k (.int .i64 1))), oM 135 134, .split 135, oG 136 135 false (.mv (.t 1)), oG 137 135 false (.mv (.t 136)), .split 137, oG 138 137 true (.mv (.t 0)), oG 139 137 true (.mv (.t 6)), oG 140 137 true (.iaddr (.t 138) (.t 139) 5 (.agg [.int .i64, .int .i64, .int .i64, .str, .row 1])), oG 141 137 true (.faddr (.t 140) 2), oG 142 137 true (.load (.t 141) none tI), oG 143 137 true (.bin .rem (.t 142) (.k (.int .i64 7))), oG 144 137 true (.bin .eql (.t 143) (.k (.int .i64 6))), oG 145 135 false (.pick (.t 137) (.t 144) (.k (.bool false))), oP 146 (.pick (.t 135) (.k (.bool true)) (.t 145))]) (.cond (.t 146) (.seq (.region [oM 147 0, oM 148 6, oP 149 (.iaddr (.t 147) (.t 148) 5 (.agg [.int .i64, .int .i64, .int .i64, .str, .row 1])), oP 150 (.faddr (.t 149) 4), oP 151 (.load (.t 150) none (.row 1)), oP 152 (.call id_keepCutInt [.t 151, .k (.int .i64 5)] (.row 1)), oP 153 (.len (.t 152) false), kI 154 0]) (.block 3 (.loop [0, 1, 5, 6, 7, 152, 153, 154] [171, 187, 1007] (law18Graph_c6)))) (.skip)))) (law18Graph_c8)
def law18Graph_c10 : AC := .meet [0, 1, 5, 6] [187] law18Graph_c9
theorem law18Graph_J6_eq (k0 : LA → Bool → Int → LA → OR) (h0 : ∀ (l144 : LA) (b43 : Bool) (i150 : Int) (l145 : LA), K .normal ⟨[vR 0 5 l144, vB 1 b43, (5, .own 187 0 l145.length none), vI 6 i150], [(187, .row 4 l145 false)]⟩ = k0 l144 b43 i150 l145) (l23 : LA) (b8 : Bool) (i36 : Int) (l24 l25 : LA) (i37 : Int) (s20 s21 : LB) : law18Graph_J6 R N k0 l23 b8 i36 l24 l25 i37 s20 s21 =
    runJ [0, 1, 5, 6] [187] (evC gl R N law18Graph_c9) K N ⟨[vR 0 5 l23, vB 1 b8, (5, .own 187 0 l25.length none), vI 6 i36, (7, .ptr 1007 0 0)], [(171, .row 1 l24 false), (187, .row 4 l25 false), (1007, .box [.imm (AV.int .i64 i37), .imm (AV.str s20), .imm (AV.str s21), .own 171 0 l24.length none])]⟩ := by
  unfold law18Graph_J6
  refine (congrArg (posN N) ?_).trans (runJ_eq _ _ _ _ _ _).symm
  simp (disch := (intros; refine id ?_; kernel_rfl)) only [← h0, law18Graph_L7_eq R N (Kblock 3 (Kjoin [0, 1, 5, 6, 7] [171, 187, 1007] (Kthen gl R N law18Graph_c8 (Kjoin [0, 1, 5, 6] [187] K)))), law18Graph_J11_eq R N (Kjoin [0, 1, 5, 6] [187] K)]
  kernel_rfl
def law18Graph_J5 (R : RT) (N : Nat) (k0 : LA → Bool → Int → LA → OR) (l18 : LA) (b7 : Bool) (i28 : Int) (l19 l20 : LA) (i29 : Int) (s15 s16 : LB) : OR :=
  posN N <|
  bif b7 then
    (need (decide (0 ≤ (i28 : Int))) <|
    (l18[Int.toNat i28]?).bind fun e9 =>
    asIIISRA e9 fun i30 i31 i32 s17 l21 =>
    need (!decide (7 = 0)) <|
    bif ((Int.tmod i31 7) : Int) == 6 then
    (need (decide (0 ≤ (i28 : Int))) <|
    (l18[Int.toNat i28]?).bind fun e10 =>
    asIIISRA e10 fun i33 i34 i35 s18 l22 =>
    (R id_keepText [AV.str s18, AV.int .i64 8]).bind fun r6 =>
    asS r6.v fun s19 =>
    law18Graph_J6 R N
      (fun l146 b44 i151 l147 =>
    k0 l146 b44 i151 l147)
       l18 b7 i28 l19 l20 i29 s19 s16)
    else
    law18Graph_J6 R N
      (fun l148 b45 i152 l149 =>
    k0 l148 b45 i152 l149)
       l18 b7 i28 l19 l20 i29 s15 s16)
  else
    law18Graph_J6 R N
      (fun l150 b46 i153 l151 =>
    k0 l150 b46 i153 l151)
       l18 b7 i28 l19 l20 i29 s15 s16
def law18Graph_c11 : AC := .seq (.join [0, 1, 5, 6, 7] [171, 187, 1007] (.seq (.region [oM 115 1, oM 116 115, .split 116, oG 117 116 true (.mv (.t 0)), oG 118 116 true (.mv (.t 6)), oG 119 116 true (.iaddr (.t 117) (.t 118) 5 (.agg [.int .i64, .int .i64, .int .i64, .str, .row 1])), oG 120 116 true (.faddr (.t 119) 1), oG 121 116 true (.load (.t 120) none tI), oG 122 116 true (.bin .rem (.t 121) (.k (.int .i64 7))), oG 123 116 true (.bin .eql (.t 122) (.k (.int .i64 6))), oP 124 (.pick (.t 116) (.t 123) (.k (.bool false)))]) (.cond (.t 124) (.region [oM 125 0, oM 126 6, oP 127 (.iaddr (.t 125) (.t 126) 5 (.agg [.int .i64, .int .i64, .int .i64, .str, .row 1])), oP 128 (.faddr (.t 127) 3), oP 129 (.load (.t 128) none (.str)), oP 130 (.call id_keepText [.t 129, .k (.int .i64 8)] (.str)), oP 131 (.faddr (.t 7) 1), .op none none (.store (.t 131) (.t 130) 1)]) (.skip)))) (law18Graph_c10)
def law18Graph_c12 : AC := .meet [0, 1, 5, 6] [187] law18Graph_c11
theorem law18Graph_J5_eq (k0 : LA → Bool → Int → LA → OR) (h0 : ∀ (l156 : LA) (b49 : Bool) (i156 : Int) (l157 : LA), K .normal ⟨[vR 0 5 l156, vB 1 b49, (5, .own 187 0 l157.length none), vI 6 i156], [(187, .row 4 l157 false)]⟩ = k0 l156 b49 i156 l157) (l18 : LA) (b7 : Bool) (i28 : Int) (l19 l20 : LA) (i29 : Int) (s15 s16 : LB) : law18Graph_J5 R N k0 l18 b7 i28 l19 l20 i29 s15 s16 =
    runJ [0, 1, 5, 6] [187] (evC gl R N law18Graph_c11) K N ⟨[vR 0 5 l18, vB 1 b7, (5, .own 187 0 l20.length none), vI 6 i28, (7, .ptr 1007 0 0)], [(171, .row 1 l19 false), (187, .row 4 l20 false), (1007, .box [.imm (AV.int .i64 i29), .imm (AV.str s15), .imm (AV.str s16), .own 171 0 l19.length none])]⟩ := by
  unfold law18Graph_J5
  refine (congrArg (posN N) ?_).trans (runJ_eq _ _ _ _ _ _).symm
  simp (disch := (intros; refine id ?_; kernel_rfl)) only [← h0, law18Graph_J6_eq R N (Kjoin [0, 1, 5, 6] [187] K)]
  kernel_rfl
def law18Graph_J4 (R : RT) (N : Nat) (k0 : LA → Bool → Int → LA → OR) (l15 : LA) (b5 : Bool) (i26 : Int) (l16 l17 : LA) (i27 : Int) (s12 s13 : LB) : OR :=
  posN N <|
  (R id_ref01PutDouble [AV.str s13]).bind fun r5 =>
  asSBT r5.v fun s14 b6 =>
  bif !b6 then
    (bif !b5 then
    (law18Graph_J5 R N
      (fun l158 b50 i157 l159 =>
    k0 l158 b50 i157 l159)
       l15 b5 i26 l16 l17 i27 s12 ([97] : LB))
    else
    law18Graph_J5 R N
      (fun l160 b51 i158 l161 =>
    k0 l160 b51 i158 l161)
       l15 b5 i26 l16 l17 i27 s12 s13)
  else
    law18Graph_J5 R N
      (fun l162 b52 i159 l163 =>
    k0 l162 b52 i159 l163)
       l15 b5 i26 l16 l17 i27 s12 s13
def law18Graph_c13 : AC := .seq (.join [0, 1, 5, 6, 7] [171, 187, 1007] (.seq (.region [oP 103 (.faddr (.t 7) 2), oP 104 (.load (.t 103) none (.str)), oP 105 (.call id_ref01PutDouble [.t 104] (.tup [.str, .bool])), oM 102 105, oP 106 (.extract (.t 102) 0), oP 107 (.extract (.t 102) 1), oM 8 106, oM 9 107]) (.seq (.region [oM 108 9, oP 109 (.un .not (.t 108)), oM 110 109, .split 110, oG 111 110 true (.mv (.t 1)), oG 112 110 true (.un .not (.t 111)), oP 113 (.pick (.t 110) (.t 112) (.k (.bool false)))]) (.cond (.t 113) (.region [oP 114 (.faddr (.t 7) 2), .op none none (.store (.t 114) (.k (.str ([97] : LB))) 1)]) (.skip))))) (law18Graph_c12)
def law18Graph_c14 : AC := .meet [0, 1, 5, 6] [187] law18Graph_c13
theorem law18Graph_J4_eq (k0 : LA → Bool → Int → LA → OR) (h0 : ∀ (l168 : LA) (b55 : Bool) (i162 : Int) (l169 : LA), K .normal ⟨[vR 0 5 l168, vB 1 b55, (5, .own 187 0 l169.length none), vI 6 i162], [(187, .row 4 l169 false)]⟩ = k0 l168 b55 i162 l169) (l15 : LA) (b5 : Bool) (i26 : Int) (l16 l17 : LA) (i27 : Int) (s12 s13 : LB) : law18Graph_J4 R N k0 l15 b5 i26 l16 l17 i27 s12 s13 =
    runJ [0, 1, 5, 6] [187] (evC gl R N law18Graph_c13) K N ⟨[vR 0 5 l15, vB 1 b5, (5, .own 187 0 l17.length none), vI 6 i26, (7, .ptr 1007 0 0)], [(171, .row 1 l16 false), (187, .row 4 l17 false), (1007, .box [.imm (AV.int .i64 i27), .imm (AV.str s12), .imm (AV.str s13), .own 171 0 l16.length none])]⟩ := by
  unfold law18Graph_J4
  refine (congrArg (posN N) ?_).trans (runJ_eq _ _ _ _ _ _).symm
  simp (disch := (intros; refine id ?_; kernel_rfl)) only [← h0, law18Graph_J5_eq R N (Kjoin [0, 1, 5, 6] [187] K)]
  kernel_rfl
def law18Graph_J3 (R : RT) (N : Nat) (k0 : LA → Bool → Int → LA → OR) (l9 : LA) (b4 : Bool) (i13 : Int) (l10 l11 : LA) (i14 : Int) (s4 s5 : LB) : OR :=
  posN N <|
  bif (i14 : Int) == 1 then
    (need (decide (0 ≤ (i13 : Int))) <|
    (l9[Int.toNat i13]?).bind fun e4 =>
    asIIISRA e4 fun i15 i16 i17 s6 l12 =>
    (R id_keepWithin [AV.int .i64 i16, AV.int .i64 6]).bind fun r2 =>
    asI .i64 r2.v fun i18 =>
    need (decide (0 ≤ (i18 : Int))) <|
    (([AV.str ([33, 33, 115, 116, 114] : LB), AV.str ([33, 33, 115, 116, 114] : LB), AV.str ([33, 33, 105, 110, 116] : LB), AV.str ([33, 33, 110, 117, 108, 108] : LB), AV.str ([33, 120] : LB), AV.str ([33, 33, 102, 108, 111, 97, 116] : LB)] : LA)[Int.toNat i18]?).bind fun e5 =>
    asS e5 fun s7 =>
    need (decide (0 ≤ (i13 : Int))) <|
    (l9[Int.toNat i13]?).bind fun e6 =>
    asIIISRA e6 fun i19 i20 i21 s8 l13 =>
    (R id_keepText [AV.str s8, AV.int .i64 12]).bind fun r3 =>
    asS r3.v fun s9 =>
    need (decide (0 ≤ (i13 : Int))) <|
    (l9[Int.toNat i13]?).bind fun e7 =>
    asIIISRA e7 fun i22 i23 i24 s10 l14 =>
    (R id_keepWithin [AV.int .i64 i24, AV.int .i64 8]).bind fun r4 =>
    asI .i64 r4.v fun i25 =>
    need (decide (0 ≤ (i25 : Int))) <|
    (([AV.str ([97] : LB), AV.str ([98] : LB), AV.str ([49] : LB), AV.str ([] : LB), AV.str ([116, 114, 117, 101] : LB), AV.str ([120, 32, 121] : LB), AV.str ([48, 46, 53] : LB), AV.str s9] : LA)[Int.toNat i25]?).bind fun e8 =>
    asS e8 fun s11 =>
    law18Graph_J4 R N
      (fun l170 b56 i163 l171 =>
    k0 l170 b56 i163 l171)
       l9 b4 i13 l10 l11 i14 s7 s11)
  else
    bif (i14 : Int) == 2 then
    (need (decide (0 ≤ (i13 : Int))) <|
    (l9[Int.toNat i13]?).bind fun e15 =>
    asIIISRA e15 fun i164 i165 i166 s75 l172 =>
    (R id_keepWithin [AV.int .i64 i165, AV.int .i64 3]).bind fun r11 =>
    asI .i64 r11.v fun i167 =>
    need (decide (0 ≤ (i167 : Int))) <|
    (([AV.str ([33, 33, 115, 101, 113] : LB), AV.str ([33, 33, 115, 101, 113] : LB), AV.str ([33, 121] : LB)] : LA)[Int.toNat i167]?).bind fun e16 =>
    asS e16 fun s76 =>
    law18Graph_J4 R N
      (fun l173 b57 i168 l174 =>
    k0 l173 b57 i168 l174)
       l9 b4 i13 l10 l11 i14 s76 s5)
    else
    need (decide (0 ≤ (i13 : Int))) <|
    (l9[Int.toNat i13]?).bind fun e17 =>
    asIIISRA e17 fun i169 i170 i171 s77 l175 =>
    (R id_keepWithin [AV.int .i64 i170, AV.int .i64 3]).bind fun r12 =>
    asI .i64 r12.v fun i172 =>
    need (decide (0 ≤ (i172 : Int))) <|
    (([AV.str ([33, 33, 109, 97, 112] : LB), AV.str ([33, 33, 109, 97, 112] : LB), AV.str ([33, 122] : LB)] : LA)[Int.toNat i172]?).bind fun e18 =>
    asS e18 fun s78 =>
    law18Graph_J4 R N
      (fun l176 b58 i173 l177 =>
    k0 l176 b58 i173 l177)
       l9 b4 i13 l10 l11 i14 s78 s5
def law18Graph_c15 : AC := .seq (.join [0, 1, 5, 6, 7] [171, 187, 1007] (.seq (.region [oP 50 (.faddr (.t 7) 0), oP 51 (.load (.t 50) none tI)]) (.block 2 (.seq (.region [oP 63 (.bin .eql (.t 51) (.k (.int .i64 1))), oM 62 63]) (.cond (.t 62) (.seq (.region [oP 64 (.bslice [.k (.str ([33, 33, 115, 116, 114] : LB)), .k (.str ([33, 33, 115, 116, 114] : LB)), .k (.str ([33, 33, 105, 110, 116] : LB)), .k (.str ([33, 33, 110, 117, 108, 108] : LB)), .k (.str ([33, 120] : LB)), .k (.str ([33, 33, 102, 108, 111, 97, 116] : LB))] 1 false), oM 65 0, oM 66 6, oP 67 (.iaddr (.t 65) (.t 66) 5 (.agg [.int .i64, .int .i64, .int .i64, .str, .row 1])), oP 68 (.faddr (.t 67) 1), oP 69 (.load (.t 68) none tI), oP 70 (.call id_keepWithin [.t 69, .k (.int .i64 6)] tI), oP 71 (.iaddr (.t 64) (.t 70) 1 (.str)), oP 72 (.load (.t 71) none (.str)), oP 73 (.faddr (.t 7) 1), .op none none (.store (.t 73) (.t 72) 1)]) (.regionD [0, 1, 5, 6, 7] [171, 187, 1007] [oM 74 0, oM 75 6, oP 76 (.iaddr (.t 74) (.t 75) 5 (.agg [.int .i64, .int .i64, .int .i64, .str, .row 1])), oP 77 (.faddr (.t 76) 3), oP 78 (.load (.t 77) none (.str)), oP 79 (.call id_keepText [.t 78, .k (.int .i64 12)] (.str)), oP 80 (.bslice [.k (.str ([97] : LB)), .k (.str ([98] : LB)), .k (.str ([49] : LB)), .k (.str ([] : LB)), .k (.str ([116, 114, 117, 101] : LB)), .k (.str ([120, 32, 121] : LB)), .k (.str ([48, 46, 53] : LB)), .t 79] 1 false), oM 81 0, oM 82 6, oP 83 (.iaddr (.t 81) (.t 82) 5 (.agg [.int .i64, .int .i64, .int .i64, .str, .row 1])), oP 84 (.faddr (.t 83) 2), oP 85 (.load (.t 84) none tI), oP 86 (.call id_keepWithin [.t 85, .k (.int .i64 8)] tI), oP 87 (.iaddr (.t 80) (.t 86) 1 (.str)), oP 88 (.load (.t 87) none (.str)), oP 89 (.faddr (.t 7) 2)] [.op none none (.store (.t 89) (.t 88) 1)])) (.seq (.region [oP 91 (.bin .eql (.t 51) (.k (.int .i64 2))), oM 90 91]) (.cond (.t 90) (.region [oP 92 (.bslice [.k (.str ([33, 33, 115, 101, 113] : LB)), .k (.str ([33, 33, 115, 101, 113] : LB)), .k (.str ([33, 121] : LB))] 1 false), oM 93 0, oM 94 6, oP 95 (.iaddr (.t 93) (.t 94) 5 (.agg [.int .i64, .int .i64, .int .i64, .str, .row 1])), oP 96 (.faddr (.t 95) 1), oP 97 (.load (.t 96) none tI), oP 98 (.call id_keepWithin [.t 97, .k (.int .i64 3)] tI), oP 99 (.iaddr (.t 92) (.t 98) 1 (.str)), oP 100 (.load (.t 99) none (.str)), oP 101 (.faddr (.t 7) 1), .op none none (.store (.t 101) (.t 100) 1)]) (.region [oP 52 (.bslice [.k (.str ([33, 33, 109, 97, 112] : LB)), .k (.str ([33, 33, 109, 97, 112] : LB)), .k (.str ([33, 122] : LB))] 1 false), oM 53 0, oM 54 6, oP 55 (.iaddr (.t 53) (.t 54) 5 (.agg [.int .i64, .int .i64, .int .i64, .str, .row 1])), oP 56 (.faddr (.t 55) 1), oP 57 (.load (.t 56) none tI), oP 58 (.call id_keepWithin [.t 57, .k (.int .i64 3)] tI), oP 59 (.iaddr (.t 52) (.t 58) 1 (.str)), oP 60 (.load (.t 59) none (.str)), oP 61 (.faddr (.t 7) 1), .op none none (.store (.t 61) (.t 60) 1)])))))))) (law18Graph_c14)
def law18Graph_c16 : AC := .meet [0, 1, 5, 6] [187] law18Graph_c15
theorem law18Graph_J3_eq (k0 : LA → Bool → Int → LA → OR) (h0 : ∀ (l182 : LA) (b61 : Bool) (i176 : Int) (l183 : LA), K .normal ⟨[vR 0 5 l182, vB 1 b61, (5, .own 187 0 l183.length none), vI 6 i176], [(187, .row 4 l183 false)]⟩ = k0 l182 b61 i176 l183) (l9 : LA) (b4 : Bool) (i13 : Int) (l10 l11 : LA) (i14 : Int) (s4 s5 : LB) : law18Graph_J3 R N k0 l9 b4 i13 l10 l11 i14 s4 s5 =
    runJ [0, 1, 5, 6] [187] (evC gl R N law18Graph_c15) K N ⟨[vR 0 5 l9, vB 1 b4, (5, .own 187 0 l11.length none), vI 6 i13, (7, .ptr 1007 0 0)], [(171, .row 1 l10 false), (187, .row 4 l11 false), (1007, .box [.imm (AV.int .i64 i14), .imm (AV.str s4), .imm (AV.str s5), .own 171 0 l10.length none])]⟩ := by
  unfold law18Graph_J3
  refine (congrArg (posN N) ?_).trans (runJ_eq _ _ _ _ _ _).symm
  simp (disch := (intros; refine id ?_; kernel_rfl)) only [← h0, law18Graph_J4_eq R N (Kjoin [0, 1, 5, 6] [187] K)]
  kernel_rfl
def law18Graph_J12 (R : RT) (N : Nat) (k0 : LA → Bool → Int → LA → OR) (l186 : LA) (b63 : Bool) (i178 : Int) (l187 : LA) : OR :=
  posN N <|
  k0 l186 b63 (IntKind.i64.wrap (i178 + 1)) l187
def law18Graph_c17 : AC := .region [oM 24 6, oP 25 (.bin .add (.t 24) (.k (.int .i64 1))), oM 6 25]
def law18Graph_c18 : AC := .meet [0, 1, 5, 6] [187] law18Graph_c17
theorem law18Graph_J12_eq (k0 : LA → Bool → Int → LA → OR) (h0 : ∀ (l192 : LA) (b66 : Bool) (i181 : Int) (l193 : LA), K .normal ⟨[vR 0 5 l192, vB 1 b66, (5, .own 187 0 l193.length none), vI 6 i181], [(187, .row 4 l193 false)]⟩ = k0 l192 b66 i181 l193) (l186 : LA) (b63 : Bool) (i178 : Int) (l187 : LA) : law18Graph_J12 R N k0 l186 b63 i178 l187 =
    runJ [0, 1, 5, 6] [187] (evC gl R N law18Graph_c17) K N ⟨[vR 0 5 l186, vB 1 b63, (5, .own 187 0 l187.length none), vI 6 i178], [(187, .row 4 l187 false)]⟩ := by
  unfold law18Graph_J12
  refine (congrArg (posN N) ?_).trans (runJ_eq _ _ _ _ _ _).symm
  simp (disch := (intros; refine id ?_; kernel_rfl)) only [← h0]
  kernel_rfl
def law18Graph_J2 (R : RT) (N : Nat) (k0 : LA → Bool → Int → LA → OR) (l4 : LA) (b3 : Bool) (i2 : Int) (l5 : LA) : OR :=
  posN N <|
  need (decide (0 ≤ (i2 : Int))) <|
  (l4[Int.toNat i2]?).bind fun e1 =>
  asIIISRA e1 fun i3 i4 i5 s1 l6 =>
  (R id_keepWithin [AV.int .i64 i3, AV.int .i64 3]).bind fun r1 =>
  asI .i64 r1.v fun i6 =>
  bif b3 then
    (need (decide (0 ≤ (i2 : Int))) <|
    (l4[Int.toNat i2]?).bind fun e2 =>
    asIIISRA e2 fun i7 i8 i9 s2 l7 =>
    need (!decide (5 = 0)) <|
    bif ((Int.tmod i7 5) : Int) == 4 then
    (need (decide (0 ≤ (i2 : Int))) <|
    (l4[Int.toNat i2]?).bind fun e3 =>
    asIIISRA e3 fun i10 i11 i12 s3 l8 =>
    law18Graph_J3 R N
      (fun l184 b62 i177 l185 =>
    law18Graph_J12 R N
      (fun l194 b67 i182 l195 =>
    k0 l194 b67 i182 l195)
       l184 b62 i177 l185)
       l4 b3 i2 [] l5 i10 [] [])
    else
    law18Graph_J3 R N
      (fun l196 b68 i183 l197 =>
    law18Graph_J12 R N
      (fun l198 b69 i184 l199 =>
    k0 l198 b69 i184 l199)
       l196 b68 i183 l197)
       l4 b3 i2 [] l5 (IntKind.i64.wrap (1 + i6)) [] [])
  else
    law18Graph_J3 R N
      (fun l200 b70 i185 l201 =>
    law18Graph_J12 R N
      (fun l202 b71 i186 l203 =>
    k0 l202 b71 i186 l203)
       l200 b70 i185 l201)
       l4 b3 i2 [] l5 (IntKind.i64.wrap (1 + i6)) [] []
def law18Graph_c19 : AC := .seq (.join [0, 1, 5, 6, 7] [171, 187, 1007] (.seq (.region [oM 34 1, oM 35 34, .split 35, oG 36 35 true (.mv (.t 0)), oG 37 35 true (.mv (.t 6)), oG 38 35 true (.iaddr (.t 36) (.t 37) 5 (.agg [.int .i64, .int .i64, .int .i64, .str, .row 1])), oG 39 35 true (.faddr (.t 38) 0), oG 40 35 true (.load (.t 39) none tI), oG 41 35 true (.bin .rem (.t 40) (.k (.int .i64 5))), oG 42 35 true (.bin .eql (.t 41) (.k (.int .i64 4))), oP 43 (.pick (.t 35) (.t 42) (.k (.bool false)))]) (.cond (.t 43) (.region [oM 44 0, oM 45 6, oP 46 (.iaddr (.t 44) (.t 45) 5 (.agg [.int .i64, .int .i64, .int .i64, .str, .row 1])), oP 47 (.faddr (.t 46) 0), oP 48 (.load (.t 47) none tI), oP 49 (.faddr (.t 7) 0), .op none none (.store (.t 49) (.t 48) 1)]) (.skip)))) (law18Graph_c16)
def law18Graph_c20 : AC := .ownz 7 3 171 1 (law18Graph_c19)
def law18Graph_c21 : AC := .seq (.join [0, 1, 5, 6] [187] (.block 1 (.seq (.region [oM 26 0, oM 27 6, oP 28 (.iaddr (.t 26) (.t 27) 5 (.agg [.int .i64, .int .i64, .int .i64, .str, .row 1])), oP 29 (.faddr (.t 28) 0), oP 30 (.load (.t 29) none tI), oP 31 (.call id_keepWithin [.t 30, .k (.int .i64 3)] tI), oP 32 (.bin .add (.k (.int .i64 1)) (.t 31)), oP 33 (.build [.int .i64 0, .str [], .str [], .nilR 1] [(0, 1, .t 32)]), oP 7 (.alloc 1007 [.int .i64 0, .str [], .str [], .row 1 []]), .op none none (.store (.t 7) (.t 33) 4)]) (law18Graph_c20)))) (law18Graph_c18)
def law18Graph_c22 : AC := .meet [0, 1, 5, 6] [187] law18Graph_c21
theorem law18Graph_J2_eq (k0 : LA → Bool → Int → LA → OR) (h0 : ∀ (l208 : LA) (b74 : Bool) (i189 : Int) (l209 : LA), K .normal ⟨[vR 0 5 l208, vB 1 b74, (5, .own 187 0 l209.length none), vI 6 i189], [(187, .row 4 l209 false)]⟩ = k0 l208 b74 i189 l209) (l4 : LA) (b3 : Bool) (i2 : Int) (l5 : LA) : law18Graph_J2 R N k0 l4 b3 i2 l5 =
    runJ [0, 1, 5, 6] [187] (evC gl R N law18Graph_c21) K N ⟨[vR 0 5 l4, vB 1 b3, (5, .own 187 0 l5.length none), vI 6 i2], [(187, .row 4 l5 false)]⟩ := by
  unfold law18Graph_J2
  refine (congrArg (posN N) ?_).trans (runJ_eq _ _ _ _ _ _).symm
  simp (disch := (intros; refine id ?_; kernel_rfl)) only [← h0, law18Graph_J3_eq R N (Kblock 1 (Kjoin [0, 1, 5, 6] [187] (Kthen gl R N law18Graph_c18 (Kjoin [0, 1, 5, 6] [187] K)))), law18Graph_J12_eq R N (Kjoin [0, 1, 5, 6] [187] K)]
  kernel_rfl
def law18Graph_L1s (R : RT) (N : Nat) (go : LA → Bool → Int → LA → OR) (k0 : Bool → LA → OR) (l2 : LA) (b2 : Bool) (i1 : Int) (l3 : LA) : OR :=
  bif decide ((i1 : Int) < ((l2.length : Nat) : Int)) then
    (bif decide ((i1 : Int) < 9) then
    (law18Graph_J2 R N
      (fun l210 b75 i190 l211 =>
    go l210 b75 i190 l211)
       l2 b2 i1 l3)
    else
    k0 b2 l3)
  else
    k0 b2 l3
def law18Graph_L1 (R : RT) (N : Nat) (k0 : Bool → LA → OR) : Nat → LA → Bool → Int → LA → OR
  | 0, _, _, _, _ => none
  | n + 1, l2, b2, i1, l3 => law18Graph_L1s R N (law18Graph_L1 R N k0 n) k0 l2 b2 i1 l3
def law18Graph_c23 : AC := .seq (.join [0, 1, 5, 6] [187] (.seq (.region [oM 16 6, oM 17 0, oP 18 (.len (.t 17) false), oP 19 (.bin .lss (.t 16) (.t 18)), oM 20 19, .split 20, oG 21 20 true (.mv (.t 6)), oG 22 20 true (.bin .lss (.t 21) (.k (.int .i64 9))), oP 23 (.pick (.t 20) (.t 22) (.k (.bool false)))]) (.cond (.t 23) (.skip) (.exit 0 [1, 5] [187])))) (law18Graph_c22)
theorem law18Graph_L1s_eq (k0 : Bool → LA → OR) (h0 : ∀ (b77 : Bool) (l213 : LA), K (.exit 0) ⟨[vB 1 b77, (5, .own 187 0 l213.length none)], [(187, .row 4 l213 false)]⟩ = k0 b77 l213) (l2 : LA) (b2 : Bool) (i1 : Int) (l3 : LA) : law18Graph_L1s R N (fun (l2 : LA) (b2 : Bool) (i1 : Int) (l3 : LA) => W ⟨[vR 0 5 l2, vB 1 b2, (5, .own 187 0 l3.length none), vI 6 i1], [(187, .row 4 l3 false)]⟩) k0 l2 b2 i1 l3 =
    evC gl R N law18Graph_c23 (Kseq (fun st' => W (prune [0, 1, 5, 6] [187] st')) K) ⟨[vR 0 5 l2, vB 1 b2, (5, .own 187 0 l3.length none), vI 6 i1], [(187, .row 4 l3 false)]⟩ := by
  unfold law18Graph_L1s
  simp (disch := (intros; refine id ?_; kernel_rfl)) only [← h0, law18Graph_J2_eq R N (Kseq (fun st' => W (prune [0, 1, 5, 6] [187] st')) K)]
  kernel_rfl
theorem law18Graph_L1_eq (k0 : Bool → LA → OR) (h0 : ∀ (b77 : Bool) (l213 : LA), K (.exit 0) ⟨[vB 1 b77, (5, .own 187 0 l213.length none)], [(187, .row 4 l213 false)]⟩ = k0 b77 l213) : ∀ (n : Nat) (l2 : LA) (b2 : Bool) (i1 : Int) (l3 : LA), law18Graph_L1 R N k0 n l2 b2 i1 l3 = rounds [0, 1, 5, 6] [187] (evC gl R N law18Graph_c23) K n ⟨[vR 0 5 l2, vB 1 b2, (5, .own 187 0 l3.length none), vI 6 i1], [(187, .row 4 l3 false)]⟩
  | 0, _, _, _, _ => rfl
  | n + 1, l2, b2, i1, l3 => (congrArg (fun go => law18Graph_L1s R N go k0 l2 b2 i1 l3) (funext fun l2 => funext fun b2 => funext fun i1 => funext fun l3 => law18Graph_L1_eq k0 h0 n l2 b2 i1 l3)).trans (law18Graph_L1s_eq R N K (rounds [0, 1, 5, 6] [187] (evC gl R N law18Graph_c23) K n) k0 h0 l2 b2 i1 l3)
def law18Graph_J17 (R : RT) (N : Nat) (k0 : Nat → Int → Int → LA → OR) (n16 : Nat) (i288 i289 : Int) (l269 : LA) : OR :=
  posN N <|
  k0 n16 i288 (IntKind.i64.wrap (i289 + 1)) l269
def law18Graph_c24 : AC := .region [oP 231 (.bin .add (.t 190) (.k (.int .i64 1))), oM 190 231]
def law18Graph_c25 : AC := .meet [5, 189, 190] [187] law18Graph_c24
theorem law18Graph_J17_eq (k0 : Nat → Int → Int → LA → OR) (h0 : ∀ (n19 : Nat) (i294 i295 : Int) (l272 : LA), K .normal ⟨[(5, .own 187 0 n19 none), vI 189 i294, vI 190 i295], [(187, .row 4 l272 false)]⟩ = k0 n19 i294 i295 l272) (n16 : Nat) (i288 i289 : Int) (l269 : LA) : law18Graph_J17 R N k0 n16 i288 i289 l269 =
    runJ [5, 189, 190] [187] (evC gl R N law18Graph_c24) K N ⟨[(5, .own 187 0 n16 none), vI 189 i288, vI 190 i289], [(187, .row 4 l269 false)]⟩ := by
  unfold law18Graph_J17
  refine (congrArg (posN N) ?_).trans (runJ_eq _ _ _ _ _ _).symm
  simp (disch := (intros; refine id ?_; kernel_rfl)) only [← h0]
  kernel_rfl
def law18Graph_J20 (R : RT) (N : Nat) (k0 : Nat → Int → Nat → Int → Int → LA → Int → Int → LA → LA → OR) (n26 : Nat) (i337 : Int) (n27 : Nat) (i338 i339 : Int) (l297 : LA) (i340 i341 : Int) (l298 l299 : LA) : OR :=
  posN N <|
  need (decide (0 ≤ (i341 : Int))) <|
  (l297[Int.toNat i341]?).bind fun e26 =>
  asI .i64 e26 fun i342 =>
  need (decide (((l298.drop 0).take n27).length + [AV.int .i64 ((n26 : Nat) : Int), AV.int .i64 i342].length ≤ 1099511627776)) <|
  need (decide (0 ≤ (IntKind.u8.wrap (IntKind.i64.wrap (97 + i341)) : Int)) && decide ((IntKind.u8.wrap (IntKind.i64.wrap (97 + i341)) : Int) < 256)) <|
  need (decide (((l299.drop 0).take n26).length + [AV.agg [AV.int .i64 1, AV.str ([33, 33, 115, 116, 114] : LB), AV.str [UInt8.ofNat (Int.toNat (IntKind.u8.wrap (IntKind.i64.wrap (97 + i341))))], AV.row 1 []]].length ≤ 1099511627776)) <|
  k0 ((((l299.drop 0).take n26) ++ [AV.agg [AV.int .i64 1, AV.str ([33, 33, 115, 116, 114] : LB), AV.str [UInt8.ofNat (Int.toNat (IntKind.u8.wrap (IntKind.i64.wrap (97 + i341))))], AV.row 1 []]]).length) i337 ((((l298.drop 0).take n27) ++ [AV.int .i64 ((n26 : Nat) : Int), AV.int .i64 i342]).length) i338 i339 l297 i340 (IntKind.i64.wrap (i341 + 1)) (((l298.drop 0).take n27) ++ [AV.int .i64 ((n26 : Nat) : Int), AV.int .i64 i342]) (((l299.drop 0).take n26) ++ [AV.agg [AV.int .i64 1, AV.str ([33, 33, 115, 116, 114] : LB), AV.str [UInt8.ofNat (Int.toNat (IntKind.u8.wrap (IntKind.i64.wrap (97 + i341))))], AV.row 1 []]])
def law18Graph_c26 : AC := .seq (.block 8 (.seq (.region [oM 207 205, oP 208 (.iaddr (.t 203) (.t 205) 1 tI), oP 209 (.load (.t 208) none tI), oM 14 207, oM 15 209]) (.seq (.region [oM 210 13, oM 211 5, oP 212 (.len (.t 211) false), oM 213 15, oP 214 (.bslice [.t 212, .t 213] 1 false), oP 215 (.app 13 (.t 210) (.t 214) 1 .any false), oM 13 215]) (.region [oM 216 5, oM 217 14, oP 218 (.bin .add (.k (.int .i64 97)) (.t 217)), oP 219 (.cvInt .u8 (.t 218)), oP 220 (.bslice [.t 219] 1 true), oP 221 (.cvStr (.t 220)), oP 222 (.build [.int .i64 0, .str [], .str [], .row 1 []] [(0, 1, .k (.int .i64 1)), (1, 1, .k (.str ([33, 33, 115, 116, 114] : LB))), (2, 1, .t 221)]), oP 223 (.bslice [.t 222] 4 false), oP 224 (.app 187 (.t 216) (.t 223) 4 .any false), oM 5 224])))) (.region [oP 225 (.bin .add (.t 205) (.k (.int .i64 1))), oM 205 225])
def law18Graph_c27 : AC := .meet [5, 12, 13, 189, 190, 203, 204, 205] [13, 187] law18Graph_c26
theorem law18Graph_J20_eq (k0 : Nat → Int → Nat → Int → Int → LA → Int → Int → LA → LA → OR) (h0 : ∀ (n32 : Nat) (i353 : Int) (n33 : Nat) (i354 i355 : Int) (l306 : LA) (i356 i357 : Int) (l307 l308 : LA), K .normal ⟨[(5, .own 187 0 n32 none), vI 12 i353, (13, .own 13 0 n33 none), vI 189 i354, vI 190 i355, vR 203 1 l306, vI 204 i356, vI 205 i357], [(13, .row 1 l307 false), (187, .row 4 l308 false)]⟩ = k0 n32 i353 n33 i354 i355 l306 i356 i357 l307 l308) (n26 : Nat) (i337 : Int) (n27 : Nat) (i338 i339 : Int) (l297 : LA) (i340 i341 : Int) (l298 l299 : LA) : law18Graph_J20 R N k0 n26 i337 n27 i338 i339 l297 i340 i341 l298 l299 =
    runJ [5, 12, 13, 189, 190, 203, 204, 205] [13, 187] (evC gl R N law18Graph_c26) K N ⟨[(5, .own 187 0 n26 none), vI 12 i337, (13, .own 13 0 n27 none), vI 189 i338, vI 190 i339, vR 203 1 l297, vI 204 i340, vI 205 i341], [(13, .row 1 l298 false), (187, .row 4 l299 false)]⟩ := by
  unfold law18Graph_J20
  refine (congrArg (posN N) ?_).trans (runJ_eq _ _ _ _ _ _).symm
  simp (disch := (intros; refine id ?_; kernel_rfl)) only [← h0]
  kernel_rfl
def law18Graph_L19s (R : RT) (N : Nat) (go : Nat → Int → Nat → Int → Int → LA → Int → Int → LA → LA → OR) (k0 : Nat → Int → Nat → Int → Int → LA → LA → OR) (n24 : Nat) (i332 : Int) (n25 : Nat) (i333 i334 : Int) (l294 : LA) (i335 i336 : Int) (l295 l296 : LA) : OR :=
  bif decide ((i336 : Int) < i335) then
    (law18Graph_J20 R N
      (fun n34 i358 n35 i359 i360 l309 i361 i362 l310 l311 =>
    go n34 i358 n35 i359 i360 l309 i361 i362 l310 l311)
       n24 i332 n25 i333 i334 l294 i335 i336 l295 l296)
  else
    k0 n24 i332 n25 i333 i334 l295 l296
def law18Graph_L19 (R : RT) (N : Nat) (k0 : Nat → Int → Nat → Int → Int → LA → LA → OR) : Nat → Nat → Int → Nat → Int → Int → LA → Int → Int → LA → LA → OR
  | 0, _, _, _, _, _, _, _, _, _, _ => none
  | n + 1, n24, i332, n25, i333, i334, l294, i335, i336, l295, l296 => law18Graph_L19s R N (law18Graph_L19 R N k0 n) k0 n24 i332 n25 i333 i334 l294 i335 i336 l295 l296
def law18Graph_c28 : AC := .seq (.region [oP 206 (.bin .lss (.t 205) (.t 204))]) (.seq (.join [5, 12, 13, 189, 190, 203, 204, 205] [13, 187] (.cond (.t 206) (.skip) (.exit 7 [5, 12, 13, 189, 190] [13, 187]))) (law18Graph_c27))
theorem law18Graph_L19s_eq (k0 : Nat → Int → Nat → Int → Int → LA → LA → OR) (h0 : ∀ (n38 : Nat) (i366 : Int) (n39 : Nat) (i367 i368 : Int) (l314 l315 : LA), K (.exit 7) ⟨[(5, .own 187 0 n38 none), vI 12 i366, (13, .own 13 0 n39 none), vI 189 i367, vI 190 i368], [(13, .row 1 l314 false), (187, .row 4 l315 false)]⟩ = k0 n38 i366 n39 i367 i368 l314 l315) (n24 : Nat) (i332 : Int) (n25 : Nat) (i333 i334 : Int) (l294 : LA) (i335 i336 : Int) (l295 l296 : LA) : law18Graph_L19s R N (fun (n24 : Nat) (i332 : Int) (n25 : Nat) (i333 i334 : Int) (l294 : LA) (i335 i336 : Int) (l295 l296 : LA) => W ⟨[(5, .own 187 0 n24 none), vI 12 i332, (13, .own 13 0 n25 none), vI 189 i333, vI 190 i334, vR 203 1 l294, vI 204 i335, vI 205 i336], [(13, .row 1 l295 false), (187, .row 4 l296 false)]⟩) k0 n24 i332 n25 i333 i334 l294 i335 i336 l295 l296 =
    evC gl R N law18Graph_c28 (Kseq (fun st' => W (prune [5, 12, 13, 189, 190, 203, 204, 205] [13, 187] st')) K) ⟨[(5, .own 187 0 n24 none), vI 12 i332, (13, .own 13 0 n25 none), vI 189 i333, vI 190 i334, vR 203 1 l294, vI 204 i335, vI 205 i336], [(13, .row 1 l295 false), (187, .row 4 l296 false)]⟩ := by
  unfold law18Graph_L19s
  simp (disch := (intros; refine id ?_; kernel_rfl)) only [← h0, law18Graph_J20_eq R N (Kseq (fun st' => W (prune [5, 12, 13, 189, 190, 203, 204, 205] [13, 187] st')) K)]
  kernel_rfl
theorem law18Graph_L19_eq (k0 : Nat → Int → Nat → Int → Int → LA → LA → OR) (h0 : ∀ (n38 : Nat) (i366 : Int) (n39 : Nat) (i367 i368 : Int) (l314 l315 : LA), K (.exit 7) ⟨[(5, .own 187 0 n38 none), vI 12 i366, (13, .own 13 0 n39 none), vI 189 i367, vI 190 i368], [(13, .row 1 l314 false), (187, .row 4 l315 false)]⟩ = k0 n38 i366 n39 i367 i368 l314 l315) : ∀ (n n24 : Nat) (i332 : Int) (n25 : Nat) (i333 i334 : Int) (l294 : LA) (i335 i336 : Int) (l295 l296 : LA), law18Graph_L19 R N k0 n n24 i332 n25 i333 i334 l294 i335 i336 l295 l296 = rounds [5, 12, 13, 189, 190, 203, 204, 205] [13, 187] (evC gl R N law18Graph_c28) K n ⟨[(5, .own 187 0 n24 none), vI 12 i332, (13, .own 13 0 n25 none), vI 189 i333, vI 190 i334, vR 203 1 l294, vI 204 i335, vI 205 i336], [(13, .row 1 l295 false), (187, .row 4 l296 false)]⟩
  | 0, _, _, _, _, _, _, _, _, _, _ => rfl
  | n + 1, n24, i332, n25, i333, i334, l294, i335, i336, l295, l296 => (congrArg (fun go => law18Graph_L19s R N go k0 n24 i332 n25 i333 i334 l294 i335 i336 l295 l296) (funext fun n24 => funext fun i332 => funext fun n25 => funext fun i333 => funext fun i334 => funext fun l294 => funext fun i335 => funext fun i336 => funext fun l295 => funext fun l296 => law18Graph_L19_eq k0 h0 n n24 i332 n25 i333 i334 l294 i335 i336 l295 l296)).trans (law18Graph_L19s_eq R N K (rounds [5, 12, 13, 189, 190, 203, 204, 205] [13, 187] (evC gl R N law18Graph_c28) K n) k0 h0 n24 i332 n25 i333 i334 l294 i335 i336 l295 l296)
def law18Graph_J18 (R : RT) (N : Nat) (k0 : Nat → Int → Int → LA → OR) (n21 : Nat) (i298 i299 i300 : Int) (l274 : LA) : OR :=
  posN N <|
  need (decide (0 ≤ (i298 : Int)) && decide ((i298 : Int) < ((n21 : Nat) : Int))) <|
  (l274[0 + Int.toNat i298]?).bind fun e24 =>
  (e24.flat[3]?).bind fun v4 =>
  asR 1 v4 fun l275 =>
  law18Graph_L19 R N
    (fun n40 i369 n41 i370 i371 l316 l317 =>
    need (decide (0 ≤ (i369 : Int)) && decide ((i369 : Int) < ((n40 : Nat) : Int))) <|
    (l317[0 + Int.toNat i369]?).bind fun e27 =>
    needSt e27 (AV.row 1 ((l316.drop 0).take n41)) 3 1 <|
    k0 n40 i370 i371 (l317.set (0 + Int.toNat i369) (.agg (putCells e27.flat 3 (AV.flat (AV.row 1 ((l316.drop 0).take n41)))))))
    N n21 i298 0 i299 i300 l275 ((l275.length : Nat) : Int) 0 [] l274
def law18Graph_c29 : AC := .region [oM 226 5, oM 227 12, oM 228 13, oP 229 (.iaddr (.t 226) (.t 227) 4 tT), oP 230 (.faddr (.t 229) 3), .op none none (.store (.t 230) (.t 228) 1)]
def law18Graph_c30 : AC := .seq (.region [oP 13 (.nilOwn 13 (some (1, .any)))]) (.seq (.seq (.region [oM 199 5, oM 200 12, oP 201 (.iaddr (.t 199) (.t 200) 4 tT), oP 202 (.faddr (.t 201) 3), oP 203 (.load (.t 202) none (.row 1)), oP 204 (.len (.t 203) false), kI 205 0]) (.block 7 (.loop [5, 12, 13, 189, 190, 203, 204, 205] [13, 187] (law18Graph_c28)))) (law18Graph_c29))
def law18Graph_c31 : AC := .meet [5, 189, 190] [187] law18Graph_c30
theorem law18Graph_J18_eq (k0 : Nat → Int → Int → LA → OR) (h0 : ∀ (n44 : Nat) (i376 i377 : Int) (l320 : LA), K .normal ⟨[(5, .own 187 0 n44 none), vI 189 i376, vI 190 i377], [(187, .row 4 l320 false)]⟩ = k0 n44 i376 i377 l320) (n21 : Nat) (i298 i299 i300 : Int) (l274 : LA) : law18Graph_J18 R N k0 n21 i298 i299 i300 l274 =
    runJ [5, 189, 190] [187] (evC gl R N law18Graph_c30) K N ⟨[(5, .own 187 0 n21 none), vI 12 i298, vI 189 i299, vI 190 i300], [(187, .row 4 l274 false)]⟩ := by
  unfold law18Graph_J18
  refine (congrArg (posN N) ?_).trans (runJ_eq _ _ _ _ _ _).symm
  simp (disch := (intros; refine id ?_; kernel_rfl)) only [← h0, law18Graph_L19_eq R N (Kblock 7 (Kthen gl R N law18Graph_c29 (Kjoin [5, 189, 190] [187] K)))]
  kernel_rfl
def law18Graph_J16 (R : RT) (N : Nat) (k0 : Nat → Int → Int → LA → OR) (n15 : Nat) (i285 i286 : Int) (l268 : LA) : OR :=
  posN N <|
  need (decide (0 ≤ (i286 : Int)) && decide ((i286 : Int) < ((n15 : Nat) : Int))) <|
  (l268[0 + Int.toNat i286]?).bind fun e23 =>
  (e23.flat[0]?).bind fun v3 =>
  asI .i64 v3 fun i287 =>
  bif (i287 : Int) != 3 then
    (law18Graph_J17 R N
      (fun n20 i296 i297 l273 =>
    k0 n20 i296 i297 l273)
       n15 i285 i286 l268)
  else
    law18Graph_J18 R N
      (fun n45 i378 i379 l321 =>
    law18Graph_J17 R N
      (fun n46 i380 i381 l322 =>
    k0 n46 i380 i381 l322)
       n45 i378 i379 l321)
       n15 i286 i285 i286 l268
def law18Graph_c32 : AC := .seq (.join [5, 189, 190] [187] (.block 6 (.seq (.region [oM 192 190, oM 12 192]) (.seq (.join [5, 12, 189, 190] [187] (.seq (.region [oM 193 5, oM 194 12, oP 195 (.iaddr (.t 193) (.t 194) 4 tT), oP 196 (.faddr (.t 195) 0), oP 197 (.load (.t 196) none tI), oP 198 (.bin .neq (.t 197) (.k (.int .i64 3)))]) (.cond (.t 198) (.exit 6 [5, 189, 190] [187]) (.skip)))) (law18Graph_c31))))) (law18Graph_c25)
def law18Graph_c33 : AC := .meet [5, 189, 190] [187] law18Graph_c32
theorem law18Graph_J16_eq (k0 : Nat → Int → Int → LA → OR) (h0 : ∀ (n49 : Nat) (i386 i387 : Int) (l325 : LA), K .normal ⟨[(5, .own 187 0 n49 none), vI 189 i386, vI 190 i387], [(187, .row 4 l325 false)]⟩ = k0 n49 i386 i387 l325) (n15 : Nat) (i285 i286 : Int) (l268 : LA) : law18Graph_J16 R N k0 n15 i285 i286 l268 =
    runJ [5, 189, 190] [187] (evC gl R N law18Graph_c32) K N ⟨[(5, .own 187 0 n15 none), vI 189 i285, vI 190 i286], [(187, .row 4 l268 false)]⟩ := by
  unfold law18Graph_J16
  refine (congrArg (posN N) ?_).trans (runJ_eq _ _ _ _ _ _).symm
  simp (disch := (intros; refine id ?_; kernel_rfl)) only [← h0, law18Graph_J17_eq R N (Kjoin [5, 189, 190] [187] K), law18Graph_J18_eq R N (Kblock 6 (Kjoin [5, 189, 190] [187] (Kthen gl R N law18Graph_c25 (Kjoin [5, 189, 190] [187] K))))]
  kernel_rfl
def law18Graph_L15s (R : RT) (N : Nat) (go : Nat → Int → Int → LA → OR) (k0 : RT) (n14 : Nat) (i283 i284 : Int) (l267 : LA) : OR :=
  bif decide ((i284 : Int) < i283) then
    (law18Graph_J16 R N
      (fun n50 i388 i389 l326 =>
    go n50 i388 i389 l326)
       n14 i283 i284 l267)
  else
    k0 n14 l267
def law18Graph_L15 (R : RT) (N : Nat) (k0 : RT) : Nat → Nat → Int → Int → LA → OR
  | 0, _, _, _, _ => none
  | n + 1, n14, i283, i284, l267 => law18Graph_L15s R N (law18Graph_L15 R N k0 n) k0 n14 i283 i284 l267
def law18Graph_c34 : AC := .seq (.region [oP 191 (.bin .lss (.t 190) (.t 189))]) (.seq (.join [5, 189, 190] [187] (.cond (.t 191) (.skip) (.exit 5 [5] [187]))) (law18Graph_c33))
theorem law18Graph_L15s_eq (k0 : RT) (h0 : ∀ (n52 : Nat) (l328 : LA), K (.exit 5) ⟨[(5, .own 187 0 n52 none)], [(187, .row 4 l328 false)]⟩ = k0 n52 l328) (n14 : Nat) (i283 i284 : Int) (l267 : LA) : law18Graph_L15s R N (fun (n14 : Nat) (i283 i284 : Int) (l267 : LA) => W ⟨[(5, .own 187 0 n14 none), vI 189 i283, vI 190 i284], [(187, .row 4 l267 false)]⟩) k0 n14 i283 i284 l267 =
    evC gl R N law18Graph_c34 (Kseq (fun st' => W (prune [5, 189, 190] [187] st')) K) ⟨[(5, .own 187 0 n14 none), vI 189 i283, vI 190 i284], [(187, .row 4 l267 false)]⟩ := by
  unfold law18Graph_L15s
  simp (disch := (intros; refine id ?_; kernel_rfl)) only [← h0, law18Graph_J16_eq R N (Kseq (fun st' => W (prune [5, 189, 190] [187] st')) K)]
  kernel_rfl
theorem law18Graph_L15_eq (k0 : RT) (h0 : ∀ (n52 : Nat) (l328 : LA), K (.exit 5) ⟨[(5, .own 187 0 n52 none)], [(187, .row 4 l328 false)]⟩ = k0 n52 l328) : ∀ (n n14 : Nat) (i283 i284 : Int) (l267 : LA), law18Graph_L15 R N k0 n n14 i283 i284 l267 = rounds [5, 189, 190] [187] (evC gl R N law18Graph_c34) K n ⟨[(5, .own 187 0 n14 none), vI 189 i283, vI 190 i284], [(187, .row 4 l267 false)]⟩
  | 0, _, _, _, _ => rfl
  | n + 1, n14, i283, i284, l267 => (congrArg (fun go => law18Graph_L15s R N go k0 n14 i283 i284 l267) (funext fun n14 => funext fun i283 => funext fun i284 => funext fun l267 => law18Graph_L15_eq k0 h0 n n14 i283 i284 l267)).trans (law18Graph_L15s_eq R N K (rounds [5, 189, 190] [187] (evC gl R N law18Graph_c34) K n) k0 h0 n14 i283 i284 l267)
def law18Graph_J14 (R : RT) (N : Nat) (k0 : RT) (l216 : LA) : OR :=
  posN N <|
  law18Graph_L15 R N
    (fun n53 l329 =>
    k0 n53 l329)
    N l216.length ((l216.length : Nat) : Int) 0 l216
def law18Graph_c35 : AC := .seq (.region [oM 232 5, oM 4 232]) (.ret [4] [187])
def law18Graph_c36 : AC := .seq (.seq (.region [oM 188 5, oP 189 (.len (.t 188) false), kI 190 0]) (.block 5 (.loop [5, 189, 190] [187] (law18Graph_c34)))) (law18Graph_c35)
def law18Graph_c37 : AC := .meet [] [] law18Graph_c36
theorem law18Graph_J14_eq (k0 : RT) (h0 : ∀ (n56 : Nat) (l332 : LA), K .ret ⟨[(4, .own 187 0 n56 none)], [(187, .row 4 l332 false)]⟩ = k0 n56 l332) (l216 : LA) : law18Graph_J14 R N k0 l216 =
    runJ [] [] (evC gl R N law18Graph_c36) K N ⟨[(5, .own 187 0 l216.length none)], [(187, .row 4 l216 false)]⟩ := by
  unfold law18Graph_J14
  refine (congrArg (posN N) ?_).trans (runJ_eq _ _ _ _ _ _).symm
  simp (disch := (intros; refine id ?_; kernel_rfl)) only [← h0, law18Graph_L15_eq R N (Kblock 5 (Kthen gl R N law18Graph_c35 (Kjoin [] [] K)))]
  kernel_rfl
def law18Graph_J13 (R : RT) (N : Nat) (k0 : RT) (l215 : LA) : OR :=
  posN N <|
  bif (((l215.length : Nat) : Int) : Int) == 0 then
    (law18Graph_J14 R N
      (fun n57 l333 =>
    k0 n57 l333)
       [AV.agg [AV.int .i64 1, AV.str ([33, 33, 115, 116, 114] : LB), AV.str ([97] : LB), AV.row 1 []]])
  else
    law18Graph_J14 R N
      (fun n58 l334 =>
    k0 n58 l334)
       l215
def law18Graph_c38 : AC := .seq (.join [5] [187] (.seq (.region [oM 183 5, oP 184 (.len (.t 183) false), oP 185 (.bin .eql (.t 184) (.k (.int .i64 0)))]) (.cond (.t 185) (.region [oP 186 (.build [.int .i64 0, .str [], .str [], .row 1 []] [(0, 1, .k (.int .i64 1)), (1, 1, .k (.str ([33, 33, 115, 116, 114] : LB))), (2, 1, .k (.str ([97] : LB)))]), oP 187 (.bsliceOwn 187 [.t 186] 4 .any false), oM 5 187]) (.skip)))) (law18Graph_c37)
def law18Graph_c39 : AC := .meet [] [] law18Graph_c38
theorem law18Graph_J13_eq (k0 : RT) (h0 : ∀ (n61 : Nat) (l337 : LA), K .ret ⟨[(4, .own 187 0 n61 none)], [(187, .row 4 l337 false)]⟩ = k0 n61 l337) (l215 : LA) : law18Graph_J13 R N k0 l215 =
    runJ [] [] (evC gl R N law18Graph_c38) K N ⟨[(5, .own 187 0 l215.length none)], [(187, .row 4 l215 false)]⟩ := by
  unfold law18Graph_J13
  refine (congrArg (posN N) ?_).trans (runJ_eq _ _ _ _ _ _).symm
  simp (disch := (intros; refine id ?_; kernel_rfl)) only [← h0, law18Graph_J14_eq R N (Kjoin [] [] K)]
  kernel_rfl
def law18Graph_c40 : AC := .seq (.join [5] [187] (.seq (.region [oM 181 1]) (.cond (.t 181) (.seq (.region [oM 182 5, oM 4 182]) (.ret [4] [187])) (.skip)))) (law18Graph_c39)
def law18Graph_c41 : AC := .seq (.region [oP 4 (.nilOwn 187 (some (4, .any)))]) (.seq (.region [oP 5 (.nilOwn 187 (some (4, .any)))]) (.seq (.seq (.region [kI 6 0]) (.block 0 (.loop [0, 1, 5, 6] [187] (law18Graph_c23)))) (law18Graph_c40)))
def law18Graph : AFunc := ⟨2, 233, [.tmp 4], law18Graph_c41⟩
def law18Graphr (R : RT) (N : Nat) (l1 : LA) (b1 : Bool) : OR :=
  law18Graph_L1 R N
    (fun b78 l214 =>
    bif b78 then
    (some ⟨AV.row 4 ((l214.drop 0).take l214.length), true, []⟩)
    else
    law18Graph_J13 R N
      (fun n62 l338 =>
    some ⟨AV.row 4 ((l338.drop 0).take n62), true, []⟩)
       l214)
    N l1 b1 0 []
theorem law18Graph_eq (l1 : LA) (b1 : Bool) : runF gl R N law18Graph [AV.row 5 l1, AV.bool b1] = law18Graphr R N l1 b1 := by
  unfold law18Graphr
  simp (disch := (intros; refine id ?_; kernel_rfl)) only [law18Graph_L1_eq R N (Kblock 0 (Kthen gl R N law18Graph_c40 (Kret law18Graph.rets []))), law18Graph_J13_eq R N (Kret law18Graph.rets [])]
  kernel_rfl
theorem law18Graph_fit : fitF Tryd.prog law18Graph Tryd.f4 = true := by
  kernel_rfl

def slicesIndexFuncT_L1s (R : RT) (N : Nat) (go : LA → Nat → LA → Int → Int → OR) (k0 : Int → OR) (k1 : OR) (l2 : LA) (n1 : Nat) (l3 : LA) (i1 i2 : Int) : OR :=
  bif decide ((i2 : Int) < i1) then
    (need (decide (0 ≤ (i2 : Int))) <|
    (l2[Int.toNat i2]?).bind fun e1 =>
    asISSRA e1 fun i3 s1 s2 l4 =>
    (R n1 ([AV.agg [AV.int .i64 i3, AV.str s1, AV.str s2, AV.row 1 l4]] ++ l3)).bind fun r1 =>
    asB r1.v fun b1 =>
    bif b1 then
    (k0 i2)
    else
    go l2 n1 l3 i1 (IntKind.i64.wrap (i2 + 1)))
  else
    k1
def slicesIndexFuncT_L1 (R : RT) (N : Nat) (k0 : Int → OR) (k1 : OR) : Nat → LA → Nat → LA → Int → Int → OR
  | 0, _, _, _, _, _ => none
  | n + 1, l2, n1, l3, i1, i2 => slicesIndexFuncT_L1s R N (slicesIndexFuncT_L1 R N k0 k1 n) k0 k1 l2 n1 l3 i1 i2
def slicesIndexFuncT_c0 : AC := .seq (.region [oP 9 (.bin .lss (.t 8) (.t 7))]) (.seq (.cond (.t 9) (.skip) (.exit 0 [] [])) (.seq (.block 1 (.seq (.region [oM 10 8, oM 5 10]) (.seq (.region [oM 11 1, oM 12 0, oM 13 5, oP 14 (.iaddr (.t 12) (.t 13) 4 tT), oP 15 (.load (.t 14) (some 4) tT), oP 16 (.callF (.t 11) [.t 15] (.bool))]) (.cond (.t 16) (.seq (.region [oM 17 5, oM 4 17]) (.ret [4] [])) (.skip))))) (.region [oP 18 (.bin .add (.t 8) (.k (.int .i64 1))), oM 8 18])))
theorem slicesIndexFuncT_L1s_eq (k0 : Int → OR) (k1 : OR) (h0 : ∀ (i5 : Int), K .ret ⟨[vI 4 i5], []⟩ = k0 i5) (h1 : K (.exit 0) ⟨[], []⟩ = k1) (l2 : LA) (n1 : Nat) (l3 : LA) (i1 i2 : Int) : slicesIndexFuncT_L1s R N (fun (l2 : LA) (n1 : Nat) (l3 : LA) (i1 i2 : Int) => W ⟨[vR 0 4 l2, (1, .imm (AV.fn n1 l3)), vI 7 i1, vI 8 i2], []⟩) k0 k1 l2 n1 l3 i1 i2 =
    evC gl R N slicesIndexFuncT_c0 (Kseq (fun st' => W (prune [0, 1, 7, 8] [] st')) K) ⟨[vR 0 4 l2, (1, .imm (AV.fn n1 l3)), vI 7 i1, vI 8 i2], []⟩ := by
  unfold slicesIndexFuncT_L1s
  simp (disch := (intros; refine id ?_; kernel_rfl)) only [← h0, ← h1]
  kernel_rfl
theorem slicesIndexFuncT_L1_eq (k0 : Int → OR) (k1 : OR) (h0 : ∀ (i5 : Int), K .ret ⟨[vI 4 i5], []⟩ = k0 i5) (h1 : K (.exit 0) ⟨[], []⟩ = k1) : ∀ (n : Nat) (l2 : LA) (n1 : Nat) (l3 : LA) (i1 i2 : Int), slicesIndexFuncT_L1 R N k0 k1 n l2 n1 l3 i1 i2 = rounds [0, 1, 7, 8] [] (evC gl R N slicesIndexFuncT_c0) K n ⟨[vR 0 4 l2, (1, .imm (AV.fn n1 l3)), vI 7 i1, vI 8 i2], []⟩
  | 0, _, _, _, _, _ => rfl
  | n + 1, l2, n1, l3, i1, i2 => (congrArg (fun go => slicesIndexFuncT_L1s R N go k0 k1 l2 n1 l3 i1 i2) (funext fun l2 => funext fun n1 => funext fun l3 => funext fun i1 => funext fun i2 => slicesIndexFuncT_L1_eq k0 k1 h0 h1 n l2 n1 l3 i1 i2)).trans (slicesIndexFuncT_L1s_eq R N K (rounds [0, 1, 7, 8] [] (evC gl R N slicesIndexFuncT_c0) K n) k0 k1 h0 h1 l2 n1 l3 i1 i2)
def slicesIndexFuncT_c1 : AC := .seq (.region [oP 4 (.mv (.k (.int .i64 (-1))))]) (.ret [4] [])
def slicesIndexFuncT_c2 : AC := .seq (.region [kI 4 0]) (.seq (.seq (.region [oM 6 0, oP 7 (.len (.t 6) false), kI 8 0]) (.block 0 (.loop [0, 1, 7, 8] [] (slicesIndexFuncT_c0)))) (slicesIndexFuncT_c1))
def slicesIndexFuncT : AFunc := ⟨2, 19, [.tmp 4], slicesIndexFuncT_c2⟩
def slicesIndexFuncTr (R : RT) (N : Nat) (l1 : LA) (f1 : Nat) (c1 : LA) : OR :=
  slicesIndexFuncT_L1 R N
    (fun i6 =>
    some ⟨AV.int .i64 i6, false, []⟩)
    (
    some ⟨AV.int .i64 (-1), false, []⟩)
    N l1 f1 c1 ((l1.length : Nat) : Int) 0
theorem slicesIndexFuncT_eq (l1 : LA) (f1 : Nat) (c1 : LA) : runF gl R N slicesIndexFuncT [AV.row 4 l1, AV.fn f1 c1] = slicesIndexFuncTr R N l1 f1 c1 := by
  unfold slicesIndexFuncTr
  simp (disch := (intros; refine id ?_; kernel_rfl)) only [slicesIndexFuncT_L1_eq R N (Kblock 0 (Kthen gl R N slicesIndexFuncT_c1 (Kret slicesIndexFuncT.rets [])))]
  kernel_rfl
theorem slicesIndexFuncT_fit : fitF Tryd.prog slicesIndexFuncT Tryd.f40 = true := by
  kernel_rfl

def slicesContainsFuncT_c0 : AC := .seq (.region [kB 4 false]) (.seq (.region [oM 5 0, oM 6 1, oP 7 (.call id_slicesIndexFuncT [.t 5, .t 6] tI), oP 8 (.bin .geq (.t 7) (.k (.int .i64 0))), oM 4 8]) (.ret [4] []))
def slicesContainsFuncT : AFunc := ⟨2, 9, [.tmp 4], slicesContainsFuncT_c0⟩
def slicesContainsFuncTr (R : RT) (N : Nat) (l1 : LA) (f1 : Nat) (c1 : LA) : OR :=
  (R id_slicesIndexFuncT [AV.row 4 l1, AV.fn f1 c1]).bind fun r1 =>
  asI .i64 r1.v fun i1 =>
  some ⟨AV.bool (decide ((i1 : Int) ≥ 0)), false, []⟩
theorem slicesContainsFuncT_eq (l1 : LA) (f1 : Nat) (c1 : LA) : runF gl R N slicesContainsFuncT [AV.row 4 l1, AV.fn f1 c1] = slicesContainsFuncTr R N l1 f1 c1 := by
  unfold slicesContainsFuncTr
  kernel_rfl
theorem slicesContainsFuncT_fit : fitF Tryd.prog slicesContainsFuncT Tryd.f21 = true := by
  kernel_rfl

def isoValid_c0 : AC := .seq (.region [oP 1 (.box 1001 (.t 0) 1), kB 2 false]) (.seq (.region [oP 3 (.load (.t 1) none (.row 4)), oP 4 (.len (.t 3) false), oP 5 (.bin .gtr (.t 4) (.k (.int .i64 0))), oM 6 5, .split 6, oG 7 6 true (.load (.t 1) none (.row 4)), oG 8 6 true (.mkFnC id_isoValid1 [.t 1]), oG 9 6 true (.call id_slicesContainsFuncT [.t 7, .t 8] (.bool)), oG 10 6 true (.un .not (.t 9)), oP 11 (.pick (.t 6) (.t 10) (.k (.bool false))), oM 2 11]) (.ret [2] []))
def isoValid : AFunc := ⟨1, 12, [.tmp 2], isoValid_c0⟩
def isoValidr (R : RT) (N : Nat) (l1 : LA) : OR :=
  bif decide ((((l1.length : Nat) : Int) : Int) > 0) then
    ((R id_slicesContainsFuncT [AV.row 4 l1, AV.fn id_isoValid1 [AV.cell [AV.row 4 l1]]]).bind fun r1 =>
    asB r1.v fun b1 =>
    some ⟨AV.bool (!b1), false, []⟩)
  else
    some ⟨AV.bool false, false, []⟩
theorem isoValid_eq (l1 : LA) : runF gl R N isoValid [AV.row 4 l1] = isoValidr R N l1 := by
  unfold isoValidr
  kernel_rfl
theorem isoValid_fit : fitF Tryd.prog isoValid Tryd.f5 = true := by
  kernel_rfl

def ref01Letter_c0 : AC := .seq (.region [kB 2 false]) (.seq (.region [oM 3 0, oP 4 (.bin .geq (.t 3) (.k (.int .u8 65))), oM 5 4, .split 5, oG 6 5 true (.mv (.t 0)), oG 7 5 true (.bin .leq (.t 6) (.k (.int .u8 90))), oP 8 (.pick (.t 5) (.t 7) (.k (.bool false))), oM 9 8, .split 9, oG 10 9 false (.mv (.t 0)), oG 11 9 false (.bin .geq (.t 10) (.k (.int .u8 97))), oG 12 9 false (.mv (.t 11)), .split 12, oG 13 12 true (.mv (.t 0)), oG 14 12 true (.bin .leq (.t 13) (.k (.int .u8 122))), oG 15 9 false (.pick (.t 12) (.t 14) (.k (.bool false))), oP 16 (.pick (.t 9) (.k (.bool true)) (.t 15)), oM 17 16, .split 17, oG 18 17 false (.mv (.t 0)), oG 19 17 false (.bin .geq (.t 18) (.k (.int .u8 48))), oG 20 17 false (.mv (.t 19)), .split 20, oG 21 20 true (.mv (.t 0)), oG 22 20 true (.bin .leq (.t 21) (.k (.int .u8 57))), oG 23 17 false (.pick (.t 20) (.t 22) (.k (.bool false))), oP 24 (.pick (.t 17) (.k (.bool true)) (.t 23)), oM 25 24, .split 25, oG 26 25 false (.mv (.t 0)), oG 27 25 false (.bin .eql (.t 26) (.k (.int .u8 45))), oP 28 (.pick (.t 25) (.k (.bool true)) (.t 27)), oM 29 28, .split 29, oG 30 29 false (.mv (.t 0)), oG 31 29 false (.bin .eql (.t 30) (.k (.int .u8 95))), oP 32 (.pick (.t 29) (.k (.bool true)) (.t 31)), oM 2 32]) (.ret [2] []))
def ref01Letter : AFunc := ⟨1, 33, [.tmp 2], ref01Letter_c0⟩
def ref01Letterr (R : RT) (N : Nat) (i1 : Int) : OR :=
  bif decide ((i1 : Int) ≥ 65) then
    (bif decide ((i1 : Int) ≤ 90) then
    (some ⟨AV.bool true, false, []⟩)
    else
    bif decide ((i1 : Int) ≥ 97) then
    (bif decide ((i1 : Int) ≤ 122) then
    (some ⟨AV.bool true, false, []⟩)
    else
    bif decide ((i1 : Int) ≥ 48) then
    (bif decide ((i1 : Int) ≤ 57) then
    (some ⟨AV.bool true, false, []⟩)
    else
    bif (i1 : Int) == 45 then
    (some ⟨AV.bool true, false, []⟩)
    else
    some ⟨AV.bool ((i1 : Int) == 95), false, []⟩)
    else
    bif (i1 : Int) == 45 then
    (some ⟨AV.bool true, false, []⟩)
    else
    some ⟨AV.bool ((i1 : Int) == 95), false, []⟩)
    else
    bif decide ((i1 : Int) ≥ 48) then
    (bif decide ((i1 : Int) ≤ 57) then
    (some ⟨AV.bool true, false, []⟩)
    else
    bif (i1 : Int) == 45 then
    (some ⟨AV.bool true, false, []⟩)
    else
    some ⟨AV.bool ((i1 : Int) == 95), false, []⟩)
    else
    bif (i1 : Int) == 45 then
    (some ⟨AV.bool true, false, []⟩)
    else
    some ⟨AV.bool ((i1 : Int) == 95), false, []⟩)
  else
    bif decide ((i1 : Int) ≥ 97) then
    (bif decide ((i1 : Int) ≤ 122) then
    (some ⟨AV.bool true, false, []⟩)
    else
    bif decide ((i1 : Int) ≥ 48) then
    (bif decide ((i1 : Int) ≤ 57) then
    (some ⟨AV.bool true, false, []⟩)
    else
    bif (i1 : Int) == 45 then
    (some ⟨AV.bool true, false, []⟩)
    else
    some ⟨AV.bool ((i1 : Int) == 95), false, []⟩)
    else
    bif (i1 : Int) == 45 then
    (some ⟨AV.bool true, false, []⟩)
    else
    some ⟨AV.bool ((i1 : Int) == 95), false, []⟩)
    else
    bif decide ((i1 : Int) ≥ 48) then
    (bif decide ((i1 : Int) ≤ 57) then
    (some ⟨AV.bool true, false, []⟩)
    else
    bif (i1 : Int) == 45 then
    (some ⟨AV.bool true, false, []⟩)
    else
    some ⟨AV.bool ((i1 : Int) == 95), false, []⟩)
    else
    bif (i1 : Int) == 45 then
    (some ⟨AV.bool true, false, []⟩)
    else
    some ⟨AV.bool ((i1 : Int) == 95), false, []⟩
theorem ref01Letter_eq (i1 : Int) : runF gl R N ref01Letter [AV.int .u8 i1] = ref01Letterr R N i1 := by
  unfold ref01Letterr
  kernel_rfl
theorem ref01Letter_fit : fitF Tryd.prog ref01Letter Tryd.f50 = true := by
  kernel_rfl

def ref01Name_L1s (R : RT) (N : Nat) (go : LB → Int → OR) (k0 : Bool → OR) (k1 : LB → OR) (s2 : LB) (i1 : Int) : OR :=
  bif decide ((i1 : Int) < ((s2.length : Nat) : Int)) then
    (need (decide (0 ≤ (i1 : Int))) <|
    (s2[Int.toNat i1]?).bind fun c1 =>
    (R id_ref01Letter [AV.int .u8 (c1.toNat : Int)]).bind fun r1 =>
    asB r1.v fun b1 =>
    bif !b1 then
    (k0 false)
    else
    go s2 (IntKind.i64.wrap (i1 + 1)))
  else
    k1 s2
def ref01Name_L1 (R : RT) (N : Nat) (k0 : Bool → OR) (k1 : LB → OR) : Nat → LB → Int → OR
  | 0, _, _ => none
  | n + 1, s2, i1 => ref01Name_L1s R N (ref01Name_L1 R N k0 k1 n) k0 k1 s2 i1
def ref01Name_c0 : AC := .seq (.seq (.region [oM 4 3, oM 5 0, oP 6 (.len (.t 5) true), oP 7 (.bin .lss (.t 4) (.t 6))]) (.cond (.t 7) (.skip) (.exit 0 [0] []))) (.seq (.block 1 (.seq (.region [oM 10 0, oM 11 3, oP 12 (.index (.t 10) (.t 11)), oP 13 (.call id_ref01Letter [.t 12] (.bool)), oP 14 (.un .not (.t 13))]) (.cond (.t 14) (.seq (.region [kB 2 false]) (.ret [2] [])) (.skip)))) (.region [oM 8 3, oP 9 (.bin .add (.t 8) (.k (.int .i64 1))), oM 3 9]))
theorem ref01Name_L1s_eq (k0 : Bool → OR) (k1 : LB → OR) (h0 : ∀ (b3 : Bool), K .ret ⟨[vB 2 b3], []⟩ = k0 b3) (h1 : ∀ (s4 : LB), K (.exit 0) ⟨[vS 0 s4], []⟩ = k1 s4) (s2 : LB) (i1 : Int) : ref01Name_L1s R N (fun (s2 : LB) (i1 : Int) => W ⟨[vS 0 s2, vI 3 i1], []⟩) k0 k1 s2 i1 =
    evC gl R N ref01Name_c0 (Kseq (fun st' => W (prune [0, 3] [] st')) K) ⟨[vS 0 s2, vI 3 i1], []⟩ := by
  unfold ref01Name_L1s
  simp (disch := (intros; refine id ?_; kernel_rfl)) only [← h0, ← h1]
  kernel_rfl
theorem ref01Name_L1_eq (k0 : Bool → OR) (k1 : LB → OR) (h0 : ∀ (b3 : Bool), K .ret ⟨[vB 2 b3], []⟩ = k0 b3) (h1 : ∀ (s4 : LB), K (.exit 0) ⟨[vS 0 s4], []⟩ = k1 s4) : ∀ (n : Nat) (s2 : LB) (i1 : Int), ref01Name_L1 R N k0 k1 n s2 i1 = rounds [0, 3] [] (evC gl R N ref01Name_c0) K n ⟨[vS 0 s2, vI 3 i1], []⟩
  | 0, _, _ => rfl
  | n + 1, s2, i1 => (congrArg (fun go => ref01Name_L1s R N go k0 k1 s2 i1) (funext fun s2 => funext fun i1 => ref01Name_L1_eq k0 k1 h0 h1 n s2 i1)).trans (ref01Name_L1s_eq R N K (rounds [0, 3] [] (evC gl R N ref01Name_c0) K n) k0 k1 h0 h1 s2 i1)
def ref01Name_c1 : AC := .seq (.region [oM 15 0, oP 16 (.len (.t 15) true), oP 17 (.bin .geq (.t 16) (.k (.int .i64 1))), oM 18 17, .split 18, oG 19 18 true (.mv (.t 0)), oG 20 18 true (.len (.t 19) true), oG 21 18 true (.bin .leq (.t 20) (.k (.int .i64 32))), oP 22 (.pick (.t 18) (.t 21) (.k (.bool false))), oM 2 22]) (.ret [2] [])
def ref01Name_c2 : AC := .seq (.region [kB 2 false]) (.seq (.seq (.region [kI 3 0]) (.block 0 (.loop [0, 3] [] (ref01Name_c0)))) (ref01Name_c1))
def ref01Name : AFunc := ⟨1, 23, [.tmp 2], ref01Name_c2⟩
def ref01Namer (R : RT) (N : Nat) (s1 : LB) : OR :=
  ref01Name_L1 R N
    (fun b4 =>
    some ⟨AV.bool b4, false, []⟩)
    (fun s5 =>
    bif decide ((((s5.length : Nat) : Int) : Int) ≥ 1) then
    (some ⟨AV.bool (decide ((((s5.length : Nat) : Int) : Int) ≤ 32)), false, []⟩)
    else
    some ⟨AV.bool false, false, []⟩)
    N s1 0
theorem ref01Name_eq (s1 : LB) : runF gl R N ref01Name [AV.str s1] = ref01Namer R N s1 := by
  unfold ref01Namer
  simp (disch := (intros; refine id ?_; kernel_rfl)) only [ref01Name_L1_eq R N (Kblock 0 (Kthen gl R N ref01Name_c1 (Kret ref01Name.rets [])))]
  kernel_rfl
theorem ref01Name_fit : fitF Tryd.prog ref01Name Tryd.f44 = true := by
  kernel_rfl

def ref08ValidTag_c0 : AC := .seq (.region [kB 2 false]) (.seq (.seq (.region [oM 3 0, oP 4 (.bin .eql (.t 3) (.k (.str ([33] : LB))))]) (.cond (.t 4) (.seq (.region [kB 2 true]) (.ret [2] [])) (.skip))) (.seq (.seq (.region [oM 5 0, oP 6 (.len (.t 5) true), oP 7 (.bin .gtr (.t 6) (.k (.int .i64 2))), oM 8 7, .split 8, oG 9 8 true (.mv (.t 0)), oG 10 8 true (.sliceS (.t 9) none (some (.k (.int .i64 2)))), oG 11 8 true (.bin .eql (.t 10) (.k (.str ([33, 33] : LB)))), oP 12 (.pick (.t 8) (.t 11) (.k (.bool false)))]) (.cond (.t 12) (.seq (.region [oM 13 0, oP 14 (.sliceS (.t 13) (some (.k (.int .i64 2))) none), oP 15 (.call id_ref01Name [.t 14] (.bool)), oM 2 15]) (.ret [2] [])) (.skip))) (.seq (.region [oM 16 0, oP 17 (.len (.t 16) true), oP 18 (.bin .gtr (.t 17) (.k (.int .i64 1))), oM 19 18, .split 19, oG 20 19 true (.mv (.t 0)), oG 21 19 true (.index (.t 20) (.k (.int .i64 0))), oG 22 19 true (.bin .eql (.t 21) (.k (.int .u8 33))), oP 23 (.pick (.t 19) (.t 22) (.k (.bool false))), oM 24 23, .split 24, oG 25 24 true (.mv (.t 0)), oG 26 24 true (.sliceS (.t 25) (some (.k (.int .i64 1))) none), oG 27 24 true (.call id_ref01Name [.t 26] (.bool)), oP 28 (.pick (.t 24) (.t 27) (.k (.bool false))), oM 2 28]) (.ret [2] []))))
def ref08ValidTag : AFunc := ⟨1, 29, [.tmp 2], ref08ValidTag_c0⟩
def ref08ValidTagr (R : RT) (N : Nat) (s1 : LB) : OR :=
  bif s1 == ([33] : LB) then
    (some ⟨AV.bool true, false, []⟩)
  else
    bif decide ((((s1.length : Nat) : Int) : Int) > 2) then
    (need (decide (0 ≤ (2 : Int)) && decide ((2 : Int) ≤ ((s1.length : Nat) : Int))) <|
    bif ((s1.take (Int.toNat 2)).drop 0) == ([33, 33] : LB) then
    (need (decide (0 ≤ (2 : Int)) && decide ((2 : Int) ≤ ((s1.length : Nat) : Int))) <|
    (R id_ref01Name [AV.str ((s1.take s1.length).drop (Int.toNat 2))]).bind fun r1 =>
    asB r1.v fun b1 =>
    some ⟨AV.bool b1, false, []⟩)
    else
    bif decide ((((s1.length : Nat) : Int) : Int) > 1) then
    (need (decide (0 ≤ (0 : Int))) <|
    (s1[Int.toNat 0]?).bind fun c1 =>
    bif ((c1.toNat : Int) : Int) == 33 then
    (need (decide (0 ≤ (1 : Int)) && decide ((1 : Int) ≤ ((s1.length : Nat) : Int))) <|
    (R id_ref01Name [AV.str ((s1.take s1.length).drop (Int.toNat 1))]).bind fun r2 =>
    asB r2.v fun b2 =>
    some ⟨AV.bool b2, false, []⟩)
    else
    some ⟨AV.bool false, false, []⟩)
    else
    some ⟨AV.bool false, false, []⟩)
    else
    bif decide ((((s1.length : Nat) : Int) : Int) > 1) then
    (need (decide (0 ≤ (0 : Int))) <|
    (s1[Int.toNat 0]?).bind fun c2 =>
    bif ((c2.toNat : Int) : Int) == 33 then
    (need (decide (0 ≤ (1 : Int)) && decide ((1 : Int) ≤ ((s1.length : Nat) : Int))) <|
    (R id_ref01Name [AV.str ((s1.take s1.length).drop (Int.toNat 1))]).bind fun r3 =>
    asB r3.v fun b3 =>
    some ⟨AV.bool b3, false, []⟩)
    else
    some ⟨AV.bool false, false, []⟩)
    else
    some ⟨AV.bool false, false, []⟩
theorem ref08ValidTag_eq (s1 : LB) : runF gl R N ref08ValidTag [AV.str s1] = ref08ValidTagr R N s1 := by
  unfold ref08ValidTagr
  kernel_rfl
theorem ref08ValidTag_fit : fitF Tryd.prog ref08ValidTag Tryd.f24 = true := by
  kernel_rfl

def ref18Utf8_L1s (R : RT) (N : Nat) (go : LB → OR) (k0 : Bool → OR) (k1 : OR) (s2 : LB) : OR :=
  bif decide ((((s2.length : Nat) : Int) : Int) > 0) then
    ((R id_ref01Rune [AV.bytes s2]).bind fun r1 =>
    asJIBT r1.v fun i1 i2 b1 =>
    bif !b1 then
    (k0 false)
    else
    need (decide (0 ≤ (i2 : Int)) && decide ((i2 : Int) ≤ ((s2.length : Nat) : Int))) <|
    go ((s2.take s2.length).drop (Int.toNat i2)))
  else
    k1
def ref18Utf8_L1 (R : RT) (N : Nat) (k0 : Bool → OR) (k1 : OR) : Nat → LB → OR
  | 0, _ => none
  | n + 1, s2 => ref18Utf8_L1s R N (ref18Utf8_L1 R N k0 k1 n) k0 k1 s2
def ref18Utf8_c0 : AC := .seq (.seq (.region [oM 9 3, oP 10 (.len (.t 9) false), oP 11 (.bin .gtr (.t 10) (.k (.int .i64 0)))]) (.cond (.t 11) (.skip) (.exit 0 [] []))) (.block 1 (.seq (.region [oM 13 3, oP 14 (.call id_ref01Rune [.t 13] (.tup [.int .i32, .int .i64, .bool])), oM 12 14, oP 15 (.extract (.t 12) 0), oP 16 (.extract (.t 12) 1), oP 17 (.extract (.t 12) 2), oM 4 15, oM 5 16, oM 6 17]) (.seq (.seq (.region [oM 18 6, oP 19 (.un .not (.t 18))]) (.cond (.t 19) (.seq (.region [kB 2 false]) (.ret [2] [])) (.skip))) (.region [oM 20 3, oM 21 5, oP 22 (.slice (.t 20) (some (.t 21)) none 1), oM 3 22]))))
theorem ref18Utf8_L1s_eq (k0 : Bool → OR) (k1 : OR) (h0 : ∀ (b3 : Bool), K .ret ⟨[vB 2 b3], []⟩ = k0 b3) (h1 : K (.exit 0) ⟨[], []⟩ = k1) (s2 : LB) : ref18Utf8_L1s R N (fun (s2 : LB) => W ⟨[(3, .imm (AV.bytes s2))], []⟩) k0 k1 s2 =
    evC gl R N ref18Utf8_c0 (Kseq (fun st' => W (prune [3] [] st')) K) ⟨[(3, .imm (AV.bytes s2))], []⟩ := by
  unfold ref18Utf8_L1s
  simp (disch := (intros; refine id ?_; kernel_rfl)) only [← h0, ← h1]
  kernel_rfl
theorem ref18Utf8_L1_eq (k0 : Bool → OR) (k1 : OR) (h0 : ∀ (b3 : Bool), K .ret ⟨[vB 2 b3], []⟩ = k0 b3) (h1 : K (.exit 0) ⟨[], []⟩ = k1) : ∀ (n : Nat) (s2 : LB), ref18Utf8_L1 R N k0 k1 n s2 = rounds [3] [] (evC gl R N ref18Utf8_c0) K n ⟨[(3, .imm (AV.bytes s2))], []⟩
  | 0, _ => rfl
  | n + 1, s2 => (congrArg (fun go => ref18Utf8_L1s R N go k0 k1 s2) (funext fun s2 => ref18Utf8_L1_eq k0 k1 h0 h1 n s2)).trans (ref18Utf8_L1s_eq R N K (rounds [3] [] (evC gl R N ref18Utf8_c0) K n) k0 k1 h0 h1 s2)
def ref18Utf8_c1 : AC := .seq (.region [kB 2 true]) (.ret [2] [])
def ref18Utf8_c2 : AC := .seq (.region [kB 2 false]) (.seq (.region [oM 7 0, oP 8 (.cvBytes (.t 7)), oM 3 8]) (.seq (.block 0 (.loop [3] [] (ref18Utf8_c0))) (ref18Utf8_c1)))
def ref18Utf8 : AFunc := ⟨1, 23, [.tmp 2], ref18Utf8_c2⟩
def ref18Utf8r (R : RT) (N : Nat) (s1 : LB) : OR :=
  ref18Utf8_L1 R N
    (fun b4 =>
    some ⟨AV.bool b4, false, []⟩)
    (
    some ⟨AV.bool true, false, []⟩)
    N s1
theorem ref18Utf8_eq (s1 : LB) : runF gl R N ref18Utf8 [AV.str s1] = ref18Utf8r R N s1 := by
  unfold ref18Utf8r
  simp (disch := (intros; refine id ?_; kernel_rfl)) only [ref18Utf8_L1_eq R N (Kblock 0 (Kthen gl R N ref18Utf8_c1 (Kret ref18Utf8.rets [])))]
  kernel_rfl
theorem ref18Utf8_fit : fitF Tryd.prog ref18Utf8 Tryd.f25 = true := by
  kernel_rfl
end Go.Proofs.YthdefengmkcacaaDoor.Vf
