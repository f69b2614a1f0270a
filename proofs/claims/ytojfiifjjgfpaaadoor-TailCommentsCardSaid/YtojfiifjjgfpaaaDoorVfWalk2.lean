/- The code of the functions that the statements reach, as our evaluator takes it, and what each of them comes to, readably: printed by a program of ours. No condition. -/
import Derived.Test.YtojfiifjjgfpaaaDoorVfWalk1
namespace Go.Proofs.YtojfiifjjgfpaaaDoor.Vf
set_option linter.unusedVariables false
set_option linter.unusedSimpArgs false
set_option maxRecDepth 100000


def keepIntact_L1s (R : Nat → List AV → Option Res) (N : Nat) (go : List UInt8 → List UInt8 → Int → Int → Option Res) (k0 : Bool → Option Res) (k1 : Option Res) (s3 : List UInt8) (s4 : List UInt8) (i1 : Int) (i2 : Int) : Option Res :=
  bif decide ((i2 : Int) < i1) then
    (bif decide ((i2 : Int) < ((s3.length : Nat) : Int)) then
      (need (decide (0 ≤ (i2 : Int))) <|
      (s4[Int.toNat i2]?).bind fun c1 =>
      need (decide (0 ≤ (i2 : Int))) <|
      (s3[Int.toNat i2]?).bind fun c2 =>
      bif ((c1.toNat : Int) : Int) != (c2.toNat : Int) then
        (k0 false)
      else
        bif decide ((i2 : Int) ≥ ((s3.length : Nat) : Int)) then
          (need (decide (0 ≤ (i2 : Int))) <|
          (s4[Int.toNat i2]?).bind fun c3 =>
          bif ((c3.toNat : Int) : Int) != 85 then
            (k0 false)
          else
            go s3 s4 i1 (IntKind.i64.wrap (i2 + 1)))
        else
          go s3 s4 i1 (IntKind.i64.wrap (i2 + 1)))
    else
      bif decide ((i2 : Int) ≥ ((s3.length : Nat) : Int)) then
        (need (decide (0 ≤ (i2 : Int))) <|
        (s4[Int.toNat i2]?).bind fun c4 =>
        bif ((c4.toNat : Int) : Int) != 85 then
          (k0 false)
        else
          go s3 s4 i1 (IntKind.i64.wrap (i2 + 1)))
      else
        go s3 s4 i1 (IntKind.i64.wrap (i2 + 1)))
  else
    k1
def keepIntact_L1 (R : Nat → List AV → Option Res) (N : Nat) (k0 : Bool → Option Res) (k1 : Option Res) : Nat → List UInt8 → List UInt8 → Int → Int → Option Res
  | 0, _, _, _, _ => none
  | n + 1, s3, s4, i1, i2 => keepIntact_L1s R N (keepIntact_L1 R N k0 k1 n) k0 k1 s3 s4 i1 i2
def keepIntact_c0 : AC := .seq (.region [.op (some 28) none (.bin .lss (.t 27) (.t 26))]) (.seq (.cond (.t 28) (.skip) (.exit 0 [] [])) (.seq (.block 1 (.seq (.region [.op (some 29) none (.mv (.t 27)), .op (some 6) none (.mv (.t 29))]) (.seq (.regionD [1, 5, 26, 27, 57] [] [.op (some 30) none (.mv (.t 6)), .op (some 31) none (.mv (.t 1)), .op (some 32) none (.len (.t 31) false), .op (some 33) none (.bin .lss (.t 30) (.t 32)), .op (some 34) none (.mv (.t 33)), .split 34, .op (some 35) (some (34, true)) (.mv (.t 5)), .op (some 36) (some (34, true)) (.mv (.t 6)), .op (some 37) (some (34, true)) (.iaddr (.t 35) (.t 36) 1 (.int .u8)), .op (some 38) (some (34, true)) (.load (.t 37) none (.int .u8)), .op (some 39) (some (34, true)) (.mv (.t 1)), .op (some 40) (some (34, true)) (.mv (.t 6)), .op (some 41) (some (34, true)) (.iaddr (.t 39) (.t 40) 1 (.int .u8)), .op (some 42) (some (34, true)) (.load (.t 41) none (.int .u8)), .op (some 43) (some (34, true)) (.bin .neq (.t 38) (.t 42)), .op (some 44) none (.pick (.t 34) (.t 43) (.k (AV.bool false))), .op (some 45) none (.mv (.t 44)), .split 45, .op (some 46) (some (45, false)) (.mv (.t 6)), .op (some 47) (some (45, false)) (.mv (.t 1)), .op (some 48) (some (45, false)) (.len (.t 47) false), .op (some 49) (some (45, false)) (.bin .geq (.t 46) (.t 48)), .op (some 50) (some (45, false)) (.mv (.t 49)), .split 50, .op (some 51) (some (50, true)) (.mv (.t 5)), .op (some 52) (some (50, true)) (.mv (.t 6)), .op (some 53) (some (50, true)) (.iaddr (.t 51) (.t 52) 1 (.int .u8)), .op (some 54) (some (50, true)) (.load (.t 53) none (.int .u8)), .op (some 55) (some (50, true)) (.bin .neq (.t 54) (.k (AV.int .u8 85))), .op (some 56) (some (45, false)) (.pick (.t 50) (.t 55) (.k (AV.bool false))), .op (some 57) none (.pick (.t 45) (.k (AV.bool true)) (.t 56))] []) (.cond (.t 57) (.seq (.region [.op (some 4) none (.mv (.k (AV.bool false)))]) (.ret [4] [])) (.skip))))) (.region [.op (some 58) none (.bin .add (.t 27) (.k (AV.int .i64 1))), .op (some 27) none (.mv (.t 58))])))
theorem keepIntact_L1s_eq (R : Nat → List AV → Option Res) (N : Nat) (K : Ex → St → Option Res) (W : St → Option Res) (s3 : List UInt8) (s4 : List UInt8) (i1 : Int) (i2 : Int) :
    evC gl R N keepIntact_c0 (Kseq (fun st' => W (prune [1, 5, 26, 27] [] st')) K) ⟨[(1, .imm (AV.bytes s3)), (5, .imm (AV.bytes s4)), (26, .imm (AV.int .i64 i1)), (27, .imm (AV.int .i64 i2))], []⟩ =
    keepIntact_L1s R N (fun (s3 : List UInt8) (s4 : List UInt8) (i1 : Int) (i2 : Int) => W ⟨[(1, .imm (AV.bytes s3)), (5, .imm (AV.bytes s4)), (26, .imm (AV.int .i64 i1)), (27, .imm (AV.int .i64 i2))], []⟩) (fun (b1 : Bool) => K .ret ⟨[(4, .imm (AV.bool b1))], []⟩) (K (.exit 0) ⟨[], []⟩) s3 s4 i1 i2 := by
  kernel_rfl
theorem keepIntact_L1_eq (R : Nat → List AV → Option Res) (N : Nat) (K : Ex → St → Option Res) : ∀ (n : Nat) (s3 : List UInt8) (s4 : List UInt8) (i1 : Int) (i2 : Int),
    rounds [1, 5, 26, 27] [] (evC gl R N keepIntact_c0) K n ⟨[(1, .imm (AV.bytes s3)), (5, .imm (AV.bytes s4)), (26, .imm (AV.int .i64 i1)), (27, .imm (AV.int .i64 i2))], []⟩ = keepIntact_L1 R N (fun (b1 : Bool) => K .ret ⟨[(4, .imm (AV.bool b1))], []⟩) (K (.exit 0) ⟨[], []⟩) n s3 s4 i1 i2
  | 0, _, _, _, _ => rfl
  | n + 1, s3, s4, i1, i2 => (keepIntact_L1s_eq R N K (rounds [1, 5, 26, 27] [] (evC gl R N keepIntact_c0) K n) s3 s4 i1 i2).trans
      (congrArg (fun go => keepIntact_L1s R N go (fun (b1 : Bool) => K .ret ⟨[(4, .imm (AV.bool b1))], []⟩) (K (.exit 0) ⟨[], []⟩) s3 s4 i1 i2) (funext fun s3 => funext fun s4 => funext fun i1 => funext fun i2 => keepIntact_L1_eq R N K n s3 s4 i1 i2))
def keepIntact_c1 : AC := .seq (.region [.op (some 4) none (.mv (.k (AV.bool true)))]) (.ret [4] [])
def keepIntact_c2 : AC := .seq (.region [.op (some 4) none (.mv (.k (AV.bool false)))]) (.seq (.seq (.region [.op (some 7) none (.mv (.t 0)), .op (some 8) none (.len (.t 7) false), .op (some 9) none (.mv (.t 1)), .op (some 10) none (.len (.t 9) false), .op (some 11) none (.bin .neq (.t 8) (.t 10)), .op (some 12) none (.mv (.t 11)), .split 12, .op (some 13) (some (12, false)) (.mv (.t 0)), .op (some 14) (some (12, false)) (.capL (.t 13)), .op (some 15) (some (12, false)) (.mv (.t 1)), .op (some 16) (some (12, false)) (.len (.t 15) false), .op (some 17) (some (12, false)) (.bin .add (.t 16) (.k (AV.int .i64 3))), .op (some 18) (some (12, false)) (.bin .neq (.t 14) (.t 17)), .op (some 19) none (.pick (.t 12) (.k (AV.bool true)) (.t 18))]) (.cond (.t 19) (.seq (.region [.op (some 4) none (.mv (.k (AV.bool false)))]) (.ret [4] [])) (.skip))) (.seq (.region [.op (some 20) none (.mv (.t 0)), .op (some 21) none (.mv (.t 1)), .op (some 22) none (.len (.t 21) false), .op (some 23) none (.bin .add (.t 22) (.k (AV.int .i64 3))), .op (some 24) none (.sliceL (.t 20) (.t 23)), .op (some 5) none (.mv (.t 24))]) (.seq (.seq (.region [.op (some 25) none (.mv (.t 5)), .op (some 26) none (.len (.t 25) false), .op (some 27) none (.mv (.k (AV.int .i64 0)))]) (.block 0 (.loop [1, 5, 26, 27] [] (keepIntact_c0)))) (keepIntact_c1))))
def keepIntact : AFunc := ⟨2, 59, [.tmp 4], keepIntact_c2⟩
def keepIntactr (R : Nat → List AV → Option Res) (N : Nat) (s1 : List UInt8) (s2 : List UInt8) : Option Res :=
  bif (((s1.length : Nat) : Int) : Int) != ((s2.length : Nat) : Int) then
    (some ⟨AV.bool false, false, []⟩)
  else
    bif ((((s1.length : Nat) : Int) + 3) : Int) != (IntKind.i64.wrap (((s2.length : Nat) : Int) + 3)) then
      (some ⟨AV.bool false, false, []⟩)
    else
      need (decide (IntKind.i64.wrap (((s2.length : Nat) : Int) + 3) = ((s1.length : Nat) : Int) + 3)) <|
      keepIntact_L1 R N
        (fun b3 =>
          some ⟨AV.bool b3, false, []⟩)
        (
          some ⟨AV.bool true, false, []⟩)
        N s2 (s1 ++ [85, 85, 85]) (((s1 ++ [85, 85, 85]).length : Nat) : Int) 0
theorem keepIntact_eq (R : Nat → List AV → Option Res) (N : Nat) (s1 : List UInt8) (s2 : List UInt8) : runF gl R N keepIntact [AV.lent s1, AV.bytes s2] = keepIntactr R N s1 s2 := by
  refine Eq.trans (b :=
      bif (((s1.length : Nat) : Int) : Int) != ((s2.length : Nat) : Int) then
        (some ⟨AV.bool false, false, []⟩)
      else
        bif ((((s1.length : Nat) : Int) + 3) : Int) != (IntKind.i64.wrap (((s2.length : Nat) : Int) + 3)) then
          (some ⟨AV.bool false, false, []⟩)
        else
          need (decide (IntKind.i64.wrap (((s2.length : Nat) : Int) + 3) = ((s1.length : Nat) : Int) + 3)) <|
          rounds [1, 5, 26, 27] [] (evC gl R N keepIntact_c0) (Kblock 0 (Kthen gl R N keepIntact_c1 (Kret keepIntact.rets []))) N ⟨[(1, .imm (AV.bytes s2)), (5, .imm (AV.bytes (s1 ++ [85, 85, 85]))), (26, .imm (AV.int .i64 (((s1 ++ [85, 85, 85]).length : Nat) : Int))), (27, .imm (AV.int .i64 0))], []⟩) (by kernel_rfl) ?_
  simp (config := { maxSteps := 100000000 }) only [keepIntact_L1_eq]
  kernel_rfl
theorem keepIntact_fit : fitF Tryd.prog keepIntact Tryd.f21 = true := by
  kernel_rfl

def law04PlainTells_c0 : AC := .seq (.region [.op (some 4) none (.mv (.k (AV.bool false)))]) (.seq (.region [.op (some 7) none (.mv (.t 0)), .op (some 8) none (.call id_keepText [.t 7, .k (AV.int .i64 80)] (.str)), .op (some 0) none (.mv (.t 8))]) (.seq (.region [.op (some 9) none (.mv (.t 0)), .op (some 10) none (.cvBytes (.t 9)), .op (some 5) none (.mv (.t 10))]) (.seq (.region [.op (some 11) none (.mv (.t 5)), .op (some 12) none (.call id_keepLend [.t 11] (.lent)), .op (some 6) none (.mv (.t 12))]) (.seq (.region [.op (some 13) none (.weak (.t 6)), .op (some 14) none (.mv (.t 1)), .op (some 15) none (.call id_plainStarts [.t 13, .t 14] (.bool)), .op (some 16) none (.mv (.t 5)), .op (some 17) none (.mv (.t 1)), .op (some 18) none (.call id_ref01PlainStarts [.t 16, .t 17] (.bool)), .op (some 19) none (.binB .eql (.t 15) (.t 18)), .op (some 20) none (.mv (.t 19)), .split 20, .op (some 21) (some (20, true)) (.weak (.t 6)), .op (some 22) (some (20, true)) (.mv (.t 1)), .op (some 23) (some (20, true)) (.call id_plainLength [.t 21, .t 22] (.int .i64)), .op (some 24) (some (20, true)) (.mv (.t 5)), .op (some 25) (some (20, true)) (.mv (.t 1)), .op (some 26) (some (20, true)) (.call id_ref01PlainLength [.t 24, .t 25] (.int .i64)), .op (some 27) (some (20, true)) (.bin .eql (.t 23) (.t 26)), .op (some 28) none (.pick (.t 20) (.t 27) (.k (AV.bool false))), .op (some 29) none (.mv (.t 28)), .split 29, .op (some 30) (some (29, true)) (.mv (.t 0)), .op (some 31) (some (29, true)) (.mv (.t 1)), .op (some 32) (some (29, true)) (.call id_plainValid [.t 30, .t 31] (.bool)), .op (some 33) (some (29, true)) (.mv (.t 0)), .op (some 34) (some (29, true)) (.mv (.t 1)), .op (some 35) (some (29, true)) (.call id_ref01PlainValid [.t 33, .t 34] (.bool)), .op (some 36) (some (29, true)) (.binB .eql (.t 32) (.t 35)), .op (some 37) none (.pick (.t 29) (.t 36) (.k (AV.bool false))), .op (some 38) none (.mv (.t 37)), .split 38, .op (some 39) (some (38, true)) (.mv (.t 6)), .op (some 40) (some (38, true)) (.mv (.t 5)), .op (some 41) (some (38, true)) (.call id_keepIntact [.t 39, .t 40] (.bool)), .op (some 42) none (.pick (.t 38) (.t 41) (.k (AV.bool false))), .op (some 43) none (.mv (.t 42)), .split 43, .op (some 44) (some (43, true)) (.call id_law04Wakes [] (.bool)), .op (some 45) none (.pick (.t 43) (.t 44) (.k (AV.bool false))), .op (some 4) none (.mv (.t 45))]) (.ret [4] [])))))
def law04PlainTells : AFunc := ⟨2, 46, [.tmp 4], law04PlainTells_c0⟩
def law04PlainTellsr (R : Nat → List AV → Option Res) (N : Nat) (s1 : List UInt8) (b1 : Bool) : Option Res :=
  (R id_keepText [AV.str s1, AV.int .i64 80]).bind fun r1 =>
  asS r1.v fun s2 =>
  (R id_keepLend [AV.bytes s2]).bind fun r2 =>
  asL r2.v fun s3 =>
  (R id_plainStarts [AV.bytes s3, AV.bool b1]).bind fun r3 =>
  asB r3.v fun b2 =>
  (R id_ref01PlainStarts [AV.bytes s2, AV.bool b1]).bind fun r4 =>
  asB r4.v fun b3 =>
  bif b2 == b3 then
    ((R id_plainLength [AV.bytes s3, AV.bool b1]).bind fun r5 =>
    asI .i64 r5.v fun i1 =>
    (R id_ref01PlainLength [AV.bytes s2, AV.bool b1]).bind fun r6 =>
    asI .i64 r6.v fun i2 =>
    bif (i1 : Int) == i2 then
      ((R id_plainValid [AV.str s2, AV.bool b1]).bind fun r7 =>
      asB r7.v fun b4 =>
      (R id_ref01PlainValid [AV.str s2, AV.bool b1]).bind fun r8 =>
      asB r8.v fun b5 =>
      bif b4 == b5 then
        ((R id_keepIntact [AV.lent s3, AV.bytes s2]).bind fun r9 =>
        asB r9.v fun b6 =>
        bif b6 then
          ((R id_law04Wakes []).bind fun r10 =>
          asB r10.v fun b7 =>
          some ⟨AV.bool b7, false, []⟩)
        else
          some ⟨AV.bool false, false, []⟩)
      else
        some ⟨AV.bool false, false, []⟩)
    else
      some ⟨AV.bool false, false, []⟩)
  else
    some ⟨AV.bool false, false, []⟩
theorem law04PlainTells_eq (R : Nat → List AV → Option Res) (N : Nat) (s1 : List UInt8) (b1 : Bool) : runF gl R N law04PlainTells [AV.str s1, AV.bool b1] = law04PlainTellsr R N s1 b1 := by
  kernel_rfl
theorem law04PlainTells_fit : fitF Tryd.prog law04PlainTells Tryd.f5 = true := by
  kernel_rfl
end Go.Proofs.YtojfiifjjgfpaaaDoor.Vf
