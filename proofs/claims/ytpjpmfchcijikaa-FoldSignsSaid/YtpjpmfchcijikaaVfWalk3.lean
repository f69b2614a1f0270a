/- The code of the functions that the statements reach, as our evaluator takes it, and what each of them comes to, readably: printed by a program of ours. No condition. -/
import Derived.Test.YtpjpmfchcijikaaVfWalk2
namespace Go.Proofs.Ytpjpmfchcijikaa.Vf
set_option linter.unusedVariables false
set_option linter.unusedSimpArgs false
set_option maxRecDepth 100000


def keepIntact_L1s (R : Nat → List AV → Option Res) (N : Nat) (go : List UInt8 → List UInt8 → Int → Int → Option Res) (k0 : Bool → Option Res) (k1 : Option Res) (s3 : List UInt8) (s4 : List UInt8) (i1 : Int) (i2 : Int) : Option Res :=
  bif decide ((i2 : Int) < i1) then
    (bif decide ((i2 : Int) < ((s3.length : Nat) : Int)) then
      (need (decide (0 ≤ (i2 : Int))) <|
      (s4[Int.toNat i2]?).bind fun c1 =>
      need (decide (0 ≤ (i2 : Int))) <|
      (s3[Int.toNat i2]?).bind fun c2 =>
      bif ((c1.toNat : Int) : Int) != (c2.toNat : Int) then
        (k0 false)
      else
        bif decide ((i2 : Int) ≥ ((s3.length : Nat) : Int)) then
          (need (decide (0 ≤ (i2 : Int))) <|
          (s4[Int.toNat i2]?).bind fun c3 =>
          bif ((c3.toNat : Int) : Int) != 85 then
            (k0 false)
          else
            go s3 s4 i1 (IntKind.i64.wrap (i2 + 1)))
        else
          go s3 s4 i1 (IntKind.i64.wrap (i2 + 1)))
    else
      bif decide ((i2 : Int) ≥ ((s3.length : Nat) : Int)) then
        (need (decide (0 ≤ (i2 : Int))) <|
        (s4[Int.toNat i2]?).bind fun c4 =>
        bif ((c4.toNat : Int) : Int) != 85 then
          (k0 false)
        else
          go s3 s4 i1 (IntKind.i64.wrap (i2 + 1)))
      else
        go s3 s4 i1 (IntKind.i64.wrap (i2 + 1)))
  else
    k1
def keepIntact_L1 (R : Nat → List AV → Option Res) (N : Nat) (k0 : Bool → Option Res) (k1 : Option Res) : Nat → List UInt8 → List UInt8 → Int → Int → Option Res
  | 0, _, _, _, _ => none
  | n + 1, s3, s4, i1, i2 => keepIntact_L1s R N (keepIntact_L1 R N k0 k1 n) k0 k1 s3 s4 i1 i2
def keepIntact_c0 : AC := .seq (.region [.op (some 28) none (.bin .lss (.t 27) (.t 26))]) (.seq (.cond (.t 28) (.skip) (.exit 0 [] [])) (.seq (.block 1 (.seq (.region [.op (some 29) none (.mv (.t 27)), .op (some 6) none (.mv (.t 29))]) (.seq (.regionD [1, 5, 26, 27, 57] [] [.op (some 30) none (.mv (.t 6)), .op (some 31) none (.mv (.t 1)), .op (some 32) none (.len (.t 31) false), .op (some 33) none (.bin .lss (.t 30) (.t 32)), .op (some 34) none (.mv (.t 33)), .split 34, .op (some 35) (some (34, true)) (.mv (.t 5)), .op (some 36) (some (34, true)) (.mv (.t 6)), .op (some 37) (some (34, true)) (.iaddr (.t 35) (.t 36) 1 (.int .u8)), .op (some 38) (some (34, true)) (.load (.t 37) none (.int .u8)), .op (some 39) (some (34, true)) (.mv (.t 1)), .op (some 40) (some (34, true)) (.mv (.t 6)), .op (some 41) (some (34, true)) (.iaddr (.t 39) (.t 40) 1 (.int .u8)), .op (some 42) (some (34, true)) (.load (.t 41) none (.int .u8)), .op (some 43) (some (34, true)) (.bin .neq (.t 38) (.t 42)), .op (some 44) none (.pick (.t 34) (.t 43) (.k (AV.bool false))), .op (some 45) none (.mv (.t 44)), .split 45, .op (some 46) (some (45, false)) (.mv (.t 6)), .op (some 47) (some (45, false)) (.mv (.t 1)), .op (some 48) (some (45, false)) (.len (.t 47) false), .op (some 49) (some (45, false)) (.bin .geq (.t 46) (.t 48)), .op (some 50) (some (45, false)) (.mv (.t 49)), .split 50, .op (some 51) (some (50, true)) (.mv (.t 5)), .op (some 52) (some (50, true)) (.mv (.t 6)), .op (some 53) (some (50, true)) (.iaddr (.t 51) (.t 52) 1 (.int .u8)), .op (some 54) (some (50, true)) (.load (.t 53) none (.int .u8)), .op (some 55) (some (50, true)) (.bin .neq (.t 54) (.k (AV.int .u8 85))), .op (some 56) (some (45, false)) (.pick (.t 50) (.t 55) (.k (AV.bool false))), .op (some 57) none (.pick (.t 45) (.k (AV.bool true)) (.t 56))] []) (.cond (.t 57) (.seq (.region [.op (some 4) none (.mv (.k (AV.bool false)))]) (.ret [4] [])) (.skip))))) (.region [.op (some 58) none (.bin .add (.t 27) (.k (AV.int .i64 1))), .op (some 27) none (.mv (.t 58))])))
theorem keepIntact_L1s_eq (R : Nat → List AV → Option Res) (N : Nat) (K : Ex → St → Option Res) (W : St → Option Res) (s3 : List UInt8) (s4 : List UInt8) (i1 : Int) (i2 : Int) :
    evC gl R N keepIntact_c0 (Kseq (fun st' => W (prune [1, 5, 26, 27] [] st')) K) ⟨[(1, .imm (AV.bytes s3)), (5, .imm (AV.bytes s4)), (26, .imm (AV.int .i64 i1)), (27, .imm (AV.int .i64 i2))], []⟩ =
    keepIntact_L1s R N (fun (s3 : List UInt8) (s4 : List UInt8) (i1 : Int) (i2 : Int) => W ⟨[(1, .imm (AV.bytes s3)), (5, .imm (AV.bytes s4)), (26, .imm (AV.int .i64 i1)), (27, .imm (AV.int .i64 i2))], []⟩) (fun (b1 : Bool) => K .ret ⟨[(4, .imm (AV.bool b1))], []⟩) (K (.exit 0) ⟨[], []⟩) s3 s4 i1 i2 := by
  kernel_rfl
theorem keepIntact_L1_eq (R : Nat → List AV → Option Res) (N : Nat) (K : Ex → St → Option Res) : ∀ (n : Nat) (s3 : List UInt8) (s4 : List UInt8) (i1 : Int) (i2 : Int),
    rounds [1, 5, 26, 27] [] (evC gl R N keepIntact_c0) K n ⟨[(1, .imm (AV.bytes s3)), (5, .imm (AV.bytes s4)), (26, .imm (AV.int .i64 i1)), (27, .imm (AV.int .i64 i2))], []⟩ = keepIntact_L1 R N (fun (b1 : Bool) => K .ret ⟨[(4, .imm (AV.bool b1))], []⟩) (K (.exit 0) ⟨[], []⟩) n s3 s4 i1 i2
  | 0, _, _, _, _ => rfl
  | n + 1, s3, s4, i1, i2 => (keepIntact_L1s_eq R N K (rounds [1, 5, 26, 27] [] (evC gl R N keepIntact_c0) K n) s3 s4 i1 i2).trans
      (congrArg (fun go => keepIntact_L1s R N go (fun (b1 : Bool) => K .ret ⟨[(4, .imm (AV.bool b1))], []⟩) (K (.exit 0) ⟨[], []⟩) s3 s4 i1 i2) (funext fun s3 => funext fun s4 => funext fun i1 => funext fun i2 => keepIntact_L1_eq R N K n s3 s4 i1 i2))
def keepIntact_c1 : AC := .seq (.region [.op (some 4) none (.mv (.k (AV.bool true)))]) (.ret [4] [])
def keepIntact_c2 : AC := .seq (.region [.op (some 4) none (.mv (.k (AV.bool false)))]) (.seq (.seq (.region [.op (some 7) none (.mv (.t 0)), .op (some 8) none (.len (.t 7) false), .op (some 9) none (.mv (.t 1)), .op (some 10) none (.len (.t 9) false), .op (some 11) none (.bin .neq (.t 8) (.t 10)), .op (some 12) none (.mv (.t 11)), .split 12, .op (some 13) (some (12, false)) (.mv (.t 0)), .op (some 14) (some (12, false)) (.capL (.t 13)), .op (some 15) (some (12, false)) (.mv (.t 1)), .op (some 16) (some (12, false)) (.len (.t 15) false), .op (some 17) (some (12, false)) (.bin .add (.t 16) (.k (AV.int .i64 3))), .op (some 18) (some (12, false)) (.bin .neq (.t 14) (.t 17)), .op (some 19) none (.pick (.t 12) (.k (AV.bool true)) (.t 18))]) (.cond (.t 19) (.seq (.region [.op (some 4) none (.mv (.k (AV.bool false)))]) (.ret [4] [])) (.skip))) (.seq (.region [.op (some 20) none (.mv (.t 0)), .op (some 21) none (.mv (.t 1)), .op (some 22) none (.len (.t 21) false), .op (some 23) none (.bin .add (.t 22) (.k (AV.int .i64 3))), .op (some 24) none (.sliceL (.t 20) (.t 23)), .op (some 5) none (.mv (.t 24))]) (.seq (.seq (.region [.op (some 25) none (.mv (.t 5)), .op (some 26) none (.len (.t 25) false), .op (some 27) none (.mv (.k (AV.int .i64 0)))]) (.block 0 (.loop [1, 5, 26, 27] [] (keepIntact_c0)))) (keepIntact_c1))))
def keepIntact : AFunc := ⟨2, 59, [.tmp 4], keepIntact_c2⟩
def keepIntactr (R : Nat → List AV → Option Res) (N : Nat) (s1 : List UInt8) (s2 : List UInt8) : Option Res :=
  bif (((s1.length : Nat) : Int) : Int) != ((s2.length : Nat) : Int) then
    (some ⟨AV.bool false, false, []⟩)
  else
    bif ((((s1.length : Nat) : Int) + 3) : Int) != (IntKind.i64.wrap (((s2.length : Nat) : Int) + 3)) then
      (some ⟨AV.bool false, false, []⟩)
    else
      need (decide (IntKind.i64.wrap (((s2.length : Nat) : Int) + 3) = ((s1.length : Nat) : Int) + 3)) <|
      keepIntact_L1 R N
        (fun b3 =>
          some ⟨AV.bool b3, false, []⟩)
        (
          some ⟨AV.bool true, false, []⟩)
        N s2 (s1 ++ [85, 85, 85]) (((s1 ++ [85, 85, 85]).length : Nat) : Int) 0
theorem keepIntact_eq (R : Nat → List AV → Option Res) (N : Nat) (s1 : List UInt8) (s2 : List UInt8) : runF gl R N keepIntact [AV.lent s1, AV.bytes s2] = keepIntactr R N s1 s2 := by
  refine Eq.trans (b :=
      bif (((s1.length : Nat) : Int) : Int) != ((s2.length : Nat) : Int) then
        (some ⟨AV.bool false, false, []⟩)
      else
        bif ((((s1.length : Nat) : Int) + 3) : Int) != (IntKind.i64.wrap (((s2.length : Nat) : Int) + 3)) then
          (some ⟨AV.bool false, false, []⟩)
        else
          need (decide (IntKind.i64.wrap (((s2.length : Nat) : Int) + 3) = ((s1.length : Nat) : Int) + 3)) <|
          rounds [1, 5, 26, 27] [] (evC gl R N keepIntact_c0) (Kblock 0 (Kthen gl R N keepIntact_c1 (Kret keepIntact.rets))) N ⟨[(1, .imm (AV.bytes s2)), (5, .imm (AV.bytes (s1 ++ [85, 85, 85]))), (26, .imm (AV.int .i64 (((s1 ++ [85, 85, 85]).length : Nat) : Int))), (27, .imm (AV.int .i64 0))], []⟩) (by kernel_rfl) ?_
  simp (config := { maxSteps := 100000000 }) only [keepIntact_L1_eq]
  kernel_rfl
theorem keepIntact_fit : fitF Try.prog keepIntact Try.f19 = true := by
  kernel_rfl

def law07FoldHeaders_c0 : AC := .seq (.region [.op (some 4) none (.mv (.k (AV.bool false)))]) (.seq (.region [.op (some 13) none (.mv (.t 0)), .op (some 14) none (.call id_keepText [.t 13, .k (AV.int .i64 8)] (.str)), .op (some 0) none (.mv (.t 14))]) (.seq (.seq (.region [.op (some 15) none (.mv (.t 1)), .op (some 16) none (.bin .rem (.t 15) (.k (AV.int .i64 2))), .op (some 17) none (.bin .eql (.t 16) (.k (AV.int .i64 0)))]) (.cond (.t 17) (.region [.op (some 18) none (.mv (.t 1)), .op (some 19) none (.bin .quo (.t 18) (.k (AV.int .i64 2))), .op (some 20) none (.call id_keepWithin [.t 19, .k (AV.int .i64 2)] (.int .i64)), .op (some 21) none (.sliceS (.k (AV.str ([124, 62] : List UInt8))) (some (.t 20)) none), .op (some 22) none (.sliceS (.t 21) none (some (.k (AV.int .i64 1)))), .op (some 23) none (.mv (.t 0)), .op (some 24) none (.bin .add (.t 22) (.t 23)), .op (some 0) none (.mv (.t 24))]) (.skip))) (.seq (.region [.op (some 25) none (.mv (.t 0)), .op (some 26) none (.cvBytes (.t 25)), .op (some 5) none (.mv (.t 26))]) (.seq (.region [.op (some 27) none (.mv (.t 5)), .op (some 28) none (.call id_keepLend [.t 27] (.lent)), .op (some 6) none (.mv (.t 28))]) (.seq (.region [.op (some 30) none (.weak (.t 6)), .op (some 31) none (.call id_foldTakeHeader [.t 30] (.tup [.agg [.bool, .bool, .bool, .int .i64], .int .i64, .bool])), .op (some 29) none (.mv (.t 31)), .op (some 32) none (.extract (.t 29) 0), .op (some 33) none (.extract (.t 29) 1), .op (some 34) none (.extract (.t 29) 2), .op (some 7) none (.alloc 1007 [AV.bool false, AV.bool false, AV.bool false, AV.int .i64 0]), .op none none (.store (.t 7) (.t 32) 4), .op (some 8) none (.mv (.t 33)), .op (some 9) none (.mv (.t 34))]) (.seq (.region [.op (some 36) none (.mv (.t 5)), .op (some 37) none (.call id_ref01TakeHeader [.t 36] (.tup [.agg [.bool, .bool, .bool, .int .i64], .int .i64, .bool])), .op (some 35) none (.mv (.t 37)), .op (some 38) none (.extract (.t 35) 0), .op (some 39) none (.extract (.t 35) 1), .op (some 40) none (.extract (.t 35) 2), .op (some 10) none (.alloc 1010 [AV.bool false, AV.bool false, AV.bool false, AV.int .i64 0]), .op none none (.store (.t 10) (.t 38) 4), .op (some 11) none (.mv (.t 39)), .op (some 12) none (.mv (.t 40))]) (.seq (.region [.op (some 41) none (.load (.t 7) (some 4) (.agg [.bool, .bool, .bool, .int .i64])), .op (some 42) none (.load (.t 10) (some 4) (.agg [.bool, .bool, .bool, .int .i64])), .op (some 43) none (.binA false (.t 41) (.t 42) [1, 1, 1, 0]), .op (some 44) none (.mv (.t 43)), .split 44, .op (some 45) (some (44, true)) (.mv (.t 8)), .op (some 46) (some (44, true)) (.mv (.t 11)), .op (some 47) (some (44, true)) (.bin .eql (.t 45) (.t 46)), .op (some 48) none (.pick (.t 44) (.t 47) (.k (AV.bool false))), .op (some 49) none (.mv (.t 48)), .split 49, .op (some 50) (some (49, true)) (.mv (.t 9)), .op (some 51) (some (49, true)) (.mv (.t 12)), .op (some 52) (some (49, true)) (.binB .eql (.t 50) (.t 51)), .op (some 53) none (.pick (.t 49) (.t 52) (.k (AV.bool false))), .op (some 54) none (.mv (.t 53)), .split 54, .op (some 55) (some (54, true)) (.mv (.t 6)), .op (some 56) (some (54, true)) (.mv (.t 5)), .op (some 57) (some (54, true)) (.call id_keepIntact [.t 55, .t 56] (.bool)), .op (some 58) none (.pick (.t 54) (.t 57) (.k (AV.bool false))), .op (some 59) none (.mv (.t 58)), .split 59, .op (some 60) (some (59, true)) (.call id_law07Wakes [] (.bool)), .op (some 61) none (.pick (.t 59) (.t 60) (.k (AV.bool false))), .op (some 4) none (.mv (.t 61))]) (.ret [4] []))))))))
def law07FoldHeaders : AFunc := ⟨2, 62, [.tmp 4], law07FoldHeaders_c0⟩
def law07FoldHeadersr (R : Nat → List AV → Option Res) (N : Nat) (s1 : List UInt8) (i1 : Int) : Option Res :=
  (R id_keepText [AV.str s1, AV.int .i64 8]).bind fun r1 =>
  asS r1.v fun s2 =>
  need (!decide (2 = 0)) <|
  bif ((Int.tmod i1 2) : Int) == 0 then
    (need (!decide (2 = 0)) <|
    (R id_keepWithin [AV.int .i64 (IntKind.i64.wrap (Int.tdiv i1 2)), AV.int .i64 2]).bind fun r2 =>
    asI .i64 r2.v fun i2 =>
    need (decide (0 ≤ (i2 : Int)) && decide ((i2 : Int) ≤ (((([124, 62] : List UInt8) : List UInt8).length : Nat) : Int))) <|
    need (decide (0 ≤ (1 : Int)) && decide ((1 : Int) ≤ ((((([124, 62] : List UInt8).take ((([124, 62] : List UInt8) : List UInt8).length)).drop (Int.toNat i2) : List UInt8).length : Nat) : Int))) <|
    need (decide (((((([124, 62] : List UInt8).take ((([124, 62] : List UInt8) : List UInt8).length)).drop (Int.toNat i2)).take (Int.toNat 1)).drop 0 : List UInt8).length + s2.length ≤ 9223372036854775807)) <|
    (R id_keepLend [AV.bytes (((((([124, 62] : List UInt8).take ((([124, 62] : List UInt8) : List UInt8).length)).drop (Int.toNat i2)).take (Int.toNat 1)).drop 0) ++ s2)]).bind fun r3 =>
    asL r3.v fun s3 =>
    (R id_foldTakeHeader [AV.bytes s3]).bind fun r4 =>
    asAIBT r4.v fun b1 b2 b3 i3 i4 b4 =>
    (R id_ref01TakeHeader [AV.bytes (((((([124, 62] : List UInt8).take ((([124, 62] : List UInt8) : List UInt8).length)).drop (Int.toNat i2)).take (Int.toNat 1)).drop 0) ++ s2)]).bind fun r5 =>
    asAIBT r5.v fun b5 b6 b7 i5 i6 b8 =>
    bif (b1 == b5) && ((b2 == b6) && ((b3 == b7) && (((i3 : Int) == i5) && (true)))) then
      (bif (i4 : Int) == i6 then
        (bif b4 == b8 then
          ((R id_keepIntact [AV.lent s3, AV.bytes (((((([124, 62] : List UInt8).take ((([124, 62] : List UInt8) : List UInt8).length)).drop (Int.toNat i2)).take (Int.toNat 1)).drop 0) ++ s2)]).bind fun r6 =>
          asB r6.v fun b9 =>
          bif b9 then
            ((R id_law07Wakes []).bind fun r7 =>
            asB r7.v fun b10 =>
            some ⟨AV.bool b10, false, []⟩)
          else
            some ⟨AV.bool false, false, []⟩)
        else
          some ⟨AV.bool false, false, []⟩)
      else
        some ⟨AV.bool false, false, []⟩)
    else
      some ⟨AV.bool false, false, []⟩)
  else
    (R id_keepLend [AV.bytes s2]).bind fun r8 =>
    asL r8.v fun s4 =>
    (R id_foldTakeHeader [AV.bytes s4]).bind fun r9 =>
    asAIBT r9.v fun b11 b12 b13 i7 i8 b14 =>
    (R id_ref01TakeHeader [AV.bytes s2]).bind fun r10 =>
    asAIBT r10.v fun b15 b16 b17 i9 i10 b18 =>
    bif (b11 == b15) && ((b12 == b16) && ((b13 == b17) && (((i7 : Int) == i9) && (true)))) then
      (bif (i8 : Int) == i10 then
        (bif b14 == b18 then
          ((R id_keepIntact [AV.lent s4, AV.bytes s2]).bind fun r11 =>
          asB r11.v fun b19 =>
          bif b19 then
            ((R id_law07Wakes []).bind fun r12 =>
            asB r12.v fun b20 =>
            some ⟨AV.bool b20, false, []⟩)
          else
            some ⟨AV.bool false, false, []⟩)
        else
          some ⟨AV.bool false, false, []⟩)
      else
        some ⟨AV.bool false, false, []⟩)
    else
      some ⟨AV.bool false, false, []⟩
theorem law07FoldHeaders_eq (R : Nat → List AV → Option Res) (N : Nat) (s1 : List UInt8) (i1 : Int) : runF gl R N law07FoldHeaders [AV.str s1, AV.int .i64 i1] = law07FoldHeadersr R N s1 i1 := by
  kernel_rfl
theorem law07FoldHeaders_fit : fitF Try.prog law07FoldHeaders Try.f9 = true := by
  kernel_rfl

def table : List (Nat × AFunc) := [(id_keepWithin, keepWithin), (id_internalStringsliteHasPrefix, internalStringsliteHasPrefix), (id_stringsHasPrefix, stringsHasPrefix), (id_foldInner, foldInner), (id_foldBetween, foldBetween), (id_foldValue, foldValue), (id_law07Wakes, law07Wakes), (id_law07FoldDeeper, law07FoldDeeper), (id_keepText, keepText), (id_keepCopyString, keepCopyString), (id_ref01Breaks, ref01Breaks), (id_ref01More, ref01More), (id_ref01Value, ref01Value), (id_law07FoldValues, law07FoldValues), (id_law07FoldLiteral, law07FoldLiteral), (id_law07FoldWords, law07FoldWords), (id_law07FoldChomps, law07FoldChomps), (id_charsDigit, charsDigit), (id_foldTakeHeader, foldTakeHeader), (id_law07FoldSigns, law07FoldSigns), (id_keepLend, keepLend), (id_ref01TakeHeader, ref01TakeHeader), (id_keepIntact, keepIntact), (id_law07FoldHeaders, law07FoldHeaders)]
theorem table_fits : Fits Try.prog table := ⟨⟨_, Try.func10, keepWithin_fit⟩, ⟨_, Try.func35, internalStringsliteHasPrefix_fit⟩, ⟨_, Try.func27, stringsHasPrefix_fit⟩, ⟨_, Try.func38, foldInner_fit⟩, ⟨_, Try.func32, foldBetween_fit⟩, ⟨_, Try.func11, foldValue_fit⟩, ⟨_, Try.func12, law07Wakes_fit⟩, ⟨_, Try.func3, law07FoldDeeper_fit⟩, ⟨_, Try.func13, keepText_fit⟩, ⟨_, Try.func14, keepCopyString_fit⟩, ⟨_, Try.func23, ref01Breaks_fit⟩, ⟨_, Try.func24, ref01More_fit⟩, ⟨_, Try.func15, ref01Value_fit⟩, ⟨_, Try.func4, law07FoldValues_fit⟩, ⟨_, Try.func5, law07FoldLiteral_fit⟩, ⟨_, Try.func6, law07FoldWords_fit⟩, ⟨_, Try.func7, law07FoldChomps_fit⟩, ⟨_, Try.func25, charsDigit_fit⟩, ⟨_, Try.func16, foldTakeHeader_fit⟩, ⟨_, Try.func8, law07FoldSigns_fit⟩, ⟨_, Try.func17, keepLend_fit⟩, ⟨_, Try.func18, ref01TakeHeader_fit⟩, ⟨_, Try.func19, keepIntact_fit⟩, ⟨_, Try.func9, law07FoldHeaders_fit⟩, trivial⟩
theorem table_fit : ∀ f F, get table f = some F → ∃ fn, Try.prog.funcs[f]? = some fn ∧ fitF Try.prog F fn = true := table_fits.get
end Go.Proofs.Ytpjpmfchcijikaa.Vf
