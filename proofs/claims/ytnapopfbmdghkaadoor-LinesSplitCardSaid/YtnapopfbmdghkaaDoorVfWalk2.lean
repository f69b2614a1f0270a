/- The code of the functions that the statements reach, as our evaluator takes it, and what each of them comes to, readably: printed by a program of ours. No condition. -/
import Derived.Test.YtnapopfbmdghkaaDoorVfWalk1
namespace Go.Proofs.YtnapopfbmdghkaaDoor.Vf
set_option linter.unusedVariables false
set_option linter.unusedSimpArgs false
set_option maxRecDepth 100000


def ref01Check_L1s (R : Nat → List AV → Option Res) (N : Nat) (go : List UInt8 → Int → Option Res) (k0 : Int → Int → Option Res) (k1 : Option Res) (s2 : List UInt8) (i1 : Int) : Option Res :=
  bif decide ((i1 : Int) < ((s2.length : Nat) : Int)) then
    (need (decide (0 ≤ (i1 : Int)) && decide ((i1 : Int) ≤ ((s2.length : Nat) : Int))) <|
    (R id_ref01Rune [AV.bytes ((s2.take s2.length).drop (Int.toNat i1))]).bind fun r2 =>
    asJIBT r2.v fun i2 i3 b2 =>
    bif !b2 then
      (k0 i1 1)
    else
      (R id_ref01Printable [AV.int .i32 i2]).bind fun r3 =>
      asB r3.v fun b3 =>
      bif !b3 then
        (k0 i1 1)
      else
        bif (i2 : Int) == 13 then
          (bif decide (((IntKind.i64.wrap (i1 + 1)) : Int) ≥ ((s2.length : Nat) : Int)) then
            (k0 i1 1)
          else
            need (decide (0 ≤ (IntKind.i64.wrap (i1 + 1) : Int))) <|
            (s2[Int.toNat (IntKind.i64.wrap (i1 + 1))]?).bind fun c1 =>
            bif ((c1.toNat : Int) : Int) != 10 then
              (k0 i1 1)
            else
              go s2 (IntKind.i64.wrap (i1 + i3)))
        else
          go s2 (IntKind.i64.wrap (i1 + i3)))
  else
    k1
def ref01Check_L1 (R : Nat → List AV → Option Res) (N : Nat) (k0 : Int → Int → Option Res) (k1 : Option Res) : Nat → List UInt8 → Int → Option Res
  | 0, _, _ => none
  | n + 1, s2, i1 => ref01Check_L1s R N (ref01Check_L1 R N k0 k1 n) k0 k1 s2 i1
def ref01Check_c0 : AC := .seq (.seq (.region [.op (some 13) none (.mv (.t 4)), .op (some 14) none (.mv (.t 0)), .op (some 15) none (.len (.t 14) false), .op (some 16) none (.bin .lss (.t 13) (.t 15))]) (.cond (.t 16) (.skip) (.exit 0 [] []))) (.block 1 (.seq (.region [.op (some 18) none (.mv (.t 0)), .op (some 19) none (.mv (.t 4)), .op (some 20) none (.slice (.t 18) (some (.t 19)) none 1), .op (some 21) none (.call id_ref01Rune [.t 20] (.tup [.int .i32, .int .i64, .bool])), .op (some 17) none (.mv (.t 21)), .op (some 22) none (.extract (.t 17) 0), .op (some 23) none (.extract (.t 17) 1), .op (some 24) none (.extract (.t 17) 2), .op (some 5) none (.mv (.t 22)), .op (some 6) none (.mv (.t 23)), .op (some 7) none (.mv (.t 24))]) (.seq (.seq (.region [.op (some 25) none (.mv (.t 7)), .op (some 26) none (.un .not (.t 25)), .op (some 27) none (.mv (.t 26)), .split 27, .op (some 28) (some (27, false)) (.mv (.t 5)), .op (some 29) (some (27, false)) (.call id_ref01Printable [.t 28] (.bool)), .op (some 30) (some (27, false)) (.un .not (.t 29)), .op (some 31) none (.pick (.t 27) (.k (AV.bool true)) (.t 30)), .op (some 32) none (.mv (.t 31)), .split 32, .op (some 33) (some (32, false)) (.mv (.t 5)), .op (some 34) (some (32, false)) (.bin .eql (.t 33) (.k (AV.int .i32 13))), .op (some 35) (some (32, false)) (.mv (.t 34)), .split 35, .op (some 36) (some (35, true)) (.mv (.t 4)), .op (some 37) (some (35, true)) (.bin .add (.t 36) (.k (AV.int .i64 1))), .op (some 38) (some (35, true)) (.mv (.t 0)), .op (some 39) (some (35, true)) (.len (.t 38) false), .op (some 40) (some (35, true)) (.bin .geq (.t 37) (.t 39)), .op (some 41) (some (35, true)) (.mv (.t 40)), .split 41, .op (some 42) (some (41, false)) (.mv (.t 0)), .op (some 43) (some (41, false)) (.mv (.t 4)), .op (some 44) (some (41, false)) (.bin .add (.t 43) (.k (AV.int .i64 1))), .op (some 45) (some (41, false)) (.iaddr (.t 42) (.t 44) 1 (.int .u8)), .op (some 46) (some (41, false)) (.load (.t 45) none (.int .u8)), .op (some 47) (some (41, false)) (.bin .neq (.t 46) (.k (AV.int .u8 10))), .op (some 48) (some (35, true)) (.pick (.t 41) (.k (AV.bool true)) (.t 47)), .op (some 49) (some (32, false)) (.pick (.t 35) (.t 48) (.k (AV.bool false))), .op (some 50) none (.pick (.t 32) (.k (AV.bool true)) (.t 49))]) (.cond (.t 50) (.seq (.region [.op (some 51) none (.mv (.t 4)), .op (some 2) none (.mv (.t 51)), .op (some 3) none (.mv (.k (AV.int .i64 1)))]) (.ret [2, 3] [])) (.skip))) (.region [.op (some 52) none (.mv (.t 4)), .op (some 53) none (.mv (.t 6)), .op (some 54) none (.bin .add (.t 52) (.t 53)), .op (some 4) none (.mv (.t 54))]))))
theorem ref01Check_L1s_eq (R : Nat → List AV → Option Res) (N : Nat) (K : Ex → St → Option Res) (W : St → Option Res) (s2 : List UInt8) (i1 : Int) :
    evC gl R N ref01Check_c0 (Kseq (fun st' => W (prune [0, 4] [] st')) K) ⟨[(0, .imm (AV.bytes s2)), (4, .imm (AV.int .i64 i1))], []⟩ =
    ref01Check_L1s R N (fun (s2 : List UInt8) (i1 : Int) => W ⟨[(0, .imm (AV.bytes s2)), (4, .imm (AV.int .i64 i1))], []⟩) (fun (i4 : Int) (i5 : Int) => K .ret ⟨[(2, .imm (AV.int .i64 i4)), (3, .imm (AV.int .i64 i5))], []⟩) (K (.exit 0) ⟨[], []⟩) s2 i1 := by
  kernel_rfl
theorem ref01Check_L1_eq (R : Nat → List AV → Option Res) (N : Nat) (K : Ex → St → Option Res) : ∀ (n : Nat) (s2 : List UInt8) (i1 : Int),
    rounds [0, 4] [] (evC gl R N ref01Check_c0) K n ⟨[(0, .imm (AV.bytes s2)), (4, .imm (AV.int .i64 i1))], []⟩ = ref01Check_L1 R N (fun (i4 : Int) (i5 : Int) => K .ret ⟨[(2, .imm (AV.int .i64 i4)), (3, .imm (AV.int .i64 i5))], []⟩) (K (.exit 0) ⟨[], []⟩) n s2 i1
  | 0, _, _ => rfl
  | n + 1, s2, i1 => (ref01Check_L1s_eq R N K (rounds [0, 4] [] (evC gl R N ref01Check_c0) K n) s2 i1).trans
      (congrArg (fun go => ref01Check_L1s R N go (fun (i4 : Int) (i5 : Int) => K .ret ⟨[(2, .imm (AV.int .i64 i4)), (3, .imm (AV.int .i64 i5))], []⟩) (K (.exit 0) ⟨[], []⟩) s2 i1) (funext fun s2 => funext fun i1 => ref01Check_L1_eq R N K n s2 i1))
def ref01Check_c1 : AC := .seq (.region [.op (some 2) none (.mv (.k (AV.int .i64 0))), .op (some 3) none (.mv (.k (AV.int .i64 0)))]) (.ret [2, 3] [])
def ref01Check_c2 : AC := .seq (.region [.op (some 2) none (.mv (.k (AV.int .i64 0))), .op (some 3) none (.mv (.k (AV.int .i64 0)))]) (.seq (.seq (.region [.op (some 8) none (.mv (.t 0)), .op (some 9) none (.len (.t 8) false), .op (some 10) none (.bin .gtr (.t 9) (.k (AV.int .i64 65536)))]) (.cond (.t 10) (.seq (.region [.op (some 2) none (.mv (.k (AV.int .i64 65536))), .op (some 3) none (.mv (.k (AV.int .i64 10)))]) (.ret [2, 3] [])) (.skip))) (.seq (.region [.op (some 4) none (.mv (.k (AV.int .i64 0)))]) (.seq (.seq (.region [.op (some 11) none (.mv (.t 0)), .op (some 12) none (.call id_ref01Marked [.t 11] (.bool))]) (.cond (.t 12) (.region [.op (some 4) none (.mv (.k (AV.int .i64 3)))]) (.skip))) (.seq (.block 0 (.loop [0, 4] [] (ref01Check_c0))) (ref01Check_c1)))))
def ref01Check : AFunc := ⟨1, 55, [.tmp 2, .tmp 3], ref01Check_c2⟩
def ref01Checkr (R : Nat → List AV → Option Res) (N : Nat) (s1 : List UInt8) : Option Res :=
  bif decide ((((s1.length : Nat) : Int) : Int) > 65536) then
    (some ⟨AV.tup [AV.int .i64 65536, AV.int .i64 10], false, []⟩)
  else
    (R id_ref01Marked [AV.bytes s1]).bind fun r1 =>
    asB r1.v fun b1 =>
    bif b1 then
      (ref01Check_L1 R N
        (fun i8 i9 =>
          some ⟨AV.tup [AV.int .i64 i8, AV.int .i64 i9], false, []⟩)
        (
          some ⟨AV.tup [AV.int .i64 0, AV.int .i64 0], false, []⟩)
        N s1 3)
    else
      ref01Check_L1 R N
        (fun i10 i11 =>
          some ⟨AV.tup [AV.int .i64 i10, AV.int .i64 i11], false, []⟩)
        (
          some ⟨AV.tup [AV.int .i64 0, AV.int .i64 0], false, []⟩)
        N s1 0
theorem ref01Check_eq (R : Nat → List AV → Option Res) (N : Nat) (s1 : List UInt8) : runF gl R N ref01Check [AV.bytes s1] = ref01Checkr R N s1 := by
  refine Eq.trans (b :=
      bif decide ((((s1.length : Nat) : Int) : Int) > 65536) then
        (some ⟨AV.tup [AV.int .i64 65536, AV.int .i64 10], false, []⟩)
      else
        (R id_ref01Marked [AV.bytes s1]).bind fun r1 =>
        asB r1.v fun b1 =>
        bif b1 then
          (rounds [0, 4] [] (evC gl R N ref01Check_c0) (Kblock 0 (Kthen gl R N ref01Check_c1 (Kret ref01Check.rets))) N ⟨[(0, .imm (AV.bytes s1)), (4, .imm (AV.int .i64 3))], []⟩)
        else
          rounds [0, 4] [] (evC gl R N ref01Check_c0) (Kblock 0 (Kthen gl R N ref01Check_c1 (Kret ref01Check.rets))) N ⟨[(0, .imm (AV.bytes s1)), (4, .imm (AV.int .i64 0))], []⟩) (by kernel_rfl) ?_
  simp (config := { maxSteps := 100000000 }) only [ref01Check_L1_eq]
  kernel_rfl
theorem ref01Check_fit : fitF Tryd.prog ref01Check Tryd.f26 = true := by
  kernel_rfl

def keepIntact_L1s (R : Nat → List AV → Option Res) (N : Nat) (go : List UInt8 → List UInt8 → Int → Int → Option Res) (k0 : Bool → Option Res) (k1 : Option Res) (s3 : List UInt8) (s4 : List UInt8) (i1 : Int) (i2 : Int) : Option Res :=
  bif decide ((i2 : Int) < i1) then
    (bif decide ((i2 : Int) < ((s3.length : Nat) : Int)) then
      (need (decide (0 ≤ (i2 : Int))) <|
      (s4[Int.toNat i2]?).bind fun c1 =>
      need (decide (0 ≤ (i2 : Int))) <|
      (s3[Int.toNat i2]?).bind fun c2 =>
      bif ((c1.toNat : Int) : Int) != (c2.toNat : Int) then
        (k0 false)
      else
        bif decide ((i2 : Int) ≥ ((s3.length : Nat) : Int)) then
          (need (decide (0 ≤ (i2 : Int))) <|
          (s4[Int.toNat i2]?).bind fun c3 =>
          bif ((c3.toNat : Int) : Int) != 85 then
            (k0 false)
          else
            go s3 s4 i1 (IntKind.i64.wrap (i2 + 1)))
        else
          go s3 s4 i1 (IntKind.i64.wrap (i2 + 1)))
    else
      bif decide ((i2 : Int) ≥ ((s3.length : Nat) : Int)) then
        (need (decide (0 ≤ (i2 : Int))) <|
        (s4[Int.toNat i2]?).bind fun c4 =>
        bif ((c4.toNat : Int) : Int) != 85 then
          (k0 false)
        else
          go s3 s4 i1 (IntKind.i64.wrap (i2 + 1)))
      else
        go s3 s4 i1 (IntKind.i64.wrap (i2 + 1)))
  else
    k1
def keepIntact_L1 (R : Nat → List AV → Option Res) (N : Nat) (k0 : Bool → Option Res) (k1 : Option Res) : Nat → List UInt8 → List UInt8 → Int → Int → Option Res
  | 0, _, _, _, _ => none
  | n + 1, s3, s4, i1, i2 => keepIntact_L1s R N (keepIntact_L1 R N k0 k1 n) k0 k1 s3 s4 i1 i2
def keepIntact_c0 : AC := .seq (.region [.op (some 28) none (.bin .lss (.t 27) (.t 26))]) (.seq (.cond (.t 28) (.skip) (.exit 0 [] [])) (.seq (.block 1 (.seq (.region [.op (some 29) none (.mv (.t 27)), .op (some 6) none (.mv (.t 29))]) (.seq (.regionD [1, 5, 26, 27, 57] [] [.op (some 30) none (.mv (.t 6)), .op (some 31) none (.mv (.t 1)), .op (some 32) none (.len (.t 31) false), .op (some 33) none (.bin .lss (.t 30) (.t 32)), .op (some 34) none (.mv (.t 33)), .split 34, .op (some 35) (some (34, true)) (.mv (.t 5)), .op (some 36) (some (34, true)) (.mv (.t 6)), .op (some 37) (some (34, true)) (.iaddr (.t 35) (.t 36) 1 (.int .u8)), .op (some 38) (some (34, true)) (.load (.t 37) none (.int .u8)), .op (some 39) (some (34, true)) (.mv (.t 1)), .op (some 40) (some (34, true)) (.mv (.t 6)), .op (some 41) (some (34, true)) (.iaddr (.t 39) (.t 40) 1 (.int .u8)), .op (some 42) (some (34, true)) (.load (.t 41) none (.int .u8)), .op (some 43) (some (34, true)) (.bin .neq (.t 38) (.t 42)), .op (some 44) none (.pick (.t 34) (.t 43) (.k (AV.bool false))), .op (some 45) none (.mv (.t 44)), .split 45, .op (some 46) (some (45, false)) (.mv (.t 6)), .op (some 47) (some (45, false)) (.mv (.t 1)), .op (some 48) (some (45, false)) (.len (.t 47) false), .op (some 49) (some (45, false)) (.bin .geq (.t 46) (.t 48)), .op (some 50) (some (45, false)) (.mv (.t 49)), .split 50, .op (some 51) (some (50, true)) (.mv (.t 5)), .op (some 52) (some (50, true)) (.mv (.t 6)), .op (some 53) (some (50, true)) (.iaddr (.t 51) (.t 52) 1 (.int .u8)), .op (some 54) (some (50, true)) (.load (.t 53) none (.int .u8)), .op (some 55) (some (50, true)) (.bin .neq (.t 54) (.k (AV.int .u8 85))), .op (some 56) (some (45, false)) (.pick (.t 50) (.t 55) (.k (AV.bool false))), .op (some 57) none (.pick (.t 45) (.k (AV.bool true)) (.t 56))] []) (.cond (.t 57) (.seq (.region [.op (some 4) none (.mv (.k (AV.bool false)))]) (.ret [4] [])) (.skip))))) (.region [.op (some 58) none (.bin .add (.t 27) (.k (AV.int .i64 1))), .op (some 27) none (.mv (.t 58))])))
theorem keepIntact_L1s_eq (R : Nat → List AV → Option Res) (N : Nat) (K : Ex → St → Option Res) (W : St → Option Res) (s3 : List UInt8) (s4 : List UInt8) (i1 : Int) (i2 : Int) :
    evC gl R N keepIntact_c0 (Kseq (fun st' => W (prune [1, 5, 26, 27] [] st')) K) ⟨[(1, .imm (AV.bytes s3)), (5, .imm (AV.bytes s4)), (26, .imm (AV.int .i64 i1)), (27, .imm (AV.int .i64 i2))], []⟩ =
    keepIntact_L1s R N (fun (s3 : List UInt8) (s4 : List UInt8) (i1 : Int) (i2 : Int) => W ⟨[(1, .imm (AV.bytes s3)), (5, .imm (AV.bytes s4)), (26, .imm (AV.int .i64 i1)), (27, .imm (AV.int .i64 i2))], []⟩) (fun (b1 : Bool) => K .ret ⟨[(4, .imm (AV.bool b1))], []⟩) (K (.exit 0) ⟨[], []⟩) s3 s4 i1 i2 := by
  kernel_rfl
theorem keepIntact_L1_eq (R : Nat → List AV → Option Res) (N : Nat) (K : Ex → St → Option Res) : ∀ (n : Nat) (s3 : List UInt8) (s4 : List UInt8) (i1 : Int) (i2 : Int),
    rounds [1, 5, 26, 27] [] (evC gl R N keepIntact_c0) K n ⟨[(1, .imm (AV.bytes s3)), (5, .imm (AV.bytes s4)), (26, .imm (AV.int .i64 i1)), (27, .imm (AV.int .i64 i2))], []⟩ = keepIntact_L1 R N (fun (b1 : Bool) => K .ret ⟨[(4, .imm (AV.bool b1))], []⟩) (K (.exit 0) ⟨[], []⟩) n s3 s4 i1 i2
  | 0, _, _, _, _ => rfl
  | n + 1, s3, s4, i1, i2 => (keepIntact_L1s_eq R N K (rounds [1, 5, 26, 27] [] (evC gl R N keepIntact_c0) K n) s3 s4 i1 i2).trans
      (congrArg (fun go => keepIntact_L1s R N go (fun (b1 : Bool) => K .ret ⟨[(4, .imm (AV.bool b1))], []⟩) (K (.exit 0) ⟨[], []⟩) s3 s4 i1 i2) (funext fun s3 => funext fun s4 => funext fun i1 => funext fun i2 => keepIntact_L1_eq R N K n s3 s4 i1 i2))
def keepIntact_c1 : AC := .seq (.region [.op (some 4) none (.mv (.k (AV.bool true)))]) (.ret [4] [])
def keepIntact_c2 : AC := .seq (.region [.op (some 4) none (.mv (.k (AV.bool false)))]) (.seq (.seq (.region [.op (some 7) none (.mv (.t 0)), .op (some 8) none (.len (.t 7) false), .op (some 9) none (.mv (.t 1)), .op (some 10) none (.len (.t 9) false), .op (some 11) none (.bin .neq (.t 8) (.t 10)), .op (some 12) none (.mv (.t 11)), .split 12, .op (some 13) (some (12, false)) (.mv (.t 0)), .op (some 14) (some (12, false)) (.capL (.t 13)), .op (some 15) (some (12, false)) (.mv (.t 1)), .op (some 16) (some (12, false)) (.len (.t 15) false), .op (some 17) (some (12, false)) (.bin .add (.t 16) (.k (AV.int .i64 3))), .op (some 18) (some (12, false)) (.bin .neq (.t 14) (.t 17)), .op (some 19) none (.pick (.t 12) (.k (AV.bool true)) (.t 18))]) (.cond (.t 19) (.seq (.region [.op (some 4) none (.mv (.k (AV.bool false)))]) (.ret [4] [])) (.skip))) (.seq (.region [.op (some 20) none (.mv (.t 0)), .op (some 21) none (.mv (.t 1)), .op (some 22) none (.len (.t 21) false), .op (some 23) none (.bin .add (.t 22) (.k (AV.int .i64 3))), .op (some 24) none (.sliceL (.t 20) (.t 23)), .op (some 5) none (.mv (.t 24))]) (.seq (.seq (.region [.op (some 25) none (.mv (.t 5)), .op (some 26) none (.len (.t 25) false), .op (some 27) none (.mv (.k (AV.int .i64 0)))]) (.block 0 (.loop [1, 5, 26, 27] [] (keepIntact_c0)))) (keepIntact_c1))))
def keepIntact : AFunc := ⟨2, 59, [.tmp 4], keepIntact_c2⟩
def keepIntactr (R : Nat → List AV → Option Res) (N : Nat) (s1 : List UInt8) (s2 : List UInt8) : Option Res :=
  bif (((s1.length : Nat) : Int) : Int) != ((s2.length : Nat) : Int) then
    (some ⟨AV.bool false, false, []⟩)
  else
    bif ((((s1.length : Nat) : Int) + 3) : Int) != (IntKind.i64.wrap (((s2.length : Nat) : Int) + 3)) then
      (some ⟨AV.bool false, false, []⟩)
    else
      need (decide (IntKind.i64.wrap (((s2.length : Nat) : Int) + 3) = ((s1.length : Nat) : Int) + 3)) <|
      keepIntact_L1 R N
        (fun b3 =>
          some ⟨AV.bool b3, false, []⟩)
        (
          some ⟨AV.bool true, false, []⟩)
        N s2 (s1 ++ [85, 85, 85]) (((s1 ++ [85, 85, 85]).length : Nat) : Int) 0
theorem keepIntact_eq (R : Nat → List AV → Option Res) (N : Nat) (s1 : List UInt8) (s2 : List UInt8) : runF gl R N keepIntact [AV.lent s1, AV.bytes s2] = keepIntactr R N s1 s2 := by
  refine Eq.trans (b :=
      bif (((s1.length : Nat) : Int) : Int) != ((s2.length : Nat) : Int) then
        (some ⟨AV.bool false, false, []⟩)
      else
        bif ((((s1.length : Nat) : Int) + 3) : Int) != (IntKind.i64.wrap (((s2.length : Nat) : Int) + 3)) then
          (some ⟨AV.bool false, false, []⟩)
        else
          need (decide (IntKind.i64.wrap (((s2.length : Nat) : Int) + 3) = ((s1.length : Nat) : Int) + 3)) <|
          rounds [1, 5, 26, 27] [] (evC gl R N keepIntact_c0) (Kblock 0 (Kthen gl R N keepIntact_c1 (Kret keepIntact.rets))) N ⟨[(1, .imm (AV.bytes s2)), (5, .imm (AV.bytes (s1 ++ [85, 85, 85]))), (26, .imm (AV.int .i64 (((s1 ++ [85, 85, 85]).length : Nat) : Int))), (27, .imm (AV.int .i64 0))], []⟩) (by kernel_rfl) ?_
  simp (config := { maxSteps := 100000000 }) only [keepIntact_L1_eq]
  kernel_rfl
theorem keepIntact_fit : fitF Tryd.prog keepIntact Tryd.f27 = true := by
  kernel_rfl

def ref01Letter_c0 : AC := .seq (.region [.op (some 2) none (.mv (.k (AV.bool false)))]) (.seq (.region [.op (some 3) none (.mv (.t 0)), .op (some 4) none (.bin .geq (.t 3) (.k (AV.int .u8 65))), .op (some 5) none (.mv (.t 4)), .split 5, .op (some 6) (some (5, true)) (.mv (.t 0)), .op (some 7) (some (5, true)) (.bin .leq (.t 6) (.k (AV.int .u8 90))), .op (some 8) none (.pick (.t 5) (.t 7) (.k (AV.bool false))), .op (some 9) none (.mv (.t 8)), .split 9, .op (some 10) (some (9, false)) (.mv (.t 0)), .op (some 11) (some (9, false)) (.bin .geq (.t 10) (.k (AV.int .u8 97))), .op (some 12) (some (9, false)) (.mv (.t 11)), .split 12, .op (some 13) (some (12, true)) (.mv (.t 0)), .op (some 14) (some (12, true)) (.bin .leq (.t 13) (.k (AV.int .u8 122))), .op (some 15) (some (9, false)) (.pick (.t 12) (.t 14) (.k (AV.bool false))), .op (some 16) none (.pick (.t 9) (.k (AV.bool true)) (.t 15)), .op (some 17) none (.mv (.t 16)), .split 17, .op (some 18) (some (17, false)) (.mv (.t 0)), .op (some 19) (some (17, false)) (.bin .geq (.t 18) (.k (AV.int .u8 48))), .op (some 20) (some (17, false)) (.mv (.t 19)), .split 20, .op (some 21) (some (20, true)) (.mv (.t 0)), .op (some 22) (some (20, true)) (.bin .leq (.t 21) (.k (AV.int .u8 57))), .op (some 23) (some (17, false)) (.pick (.t 20) (.t 22) (.k (AV.bool false))), .op (some 24) none (.pick (.t 17) (.k (AV.bool true)) (.t 23)), .op (some 25) none (.mv (.t 24)), .split 25, .op (some 26) (some (25, false)) (.mv (.t 0)), .op (some 27) (some (25, false)) (.bin .eql (.t 26) (.k (AV.int .u8 45))), .op (some 28) none (.pick (.t 25) (.k (AV.bool true)) (.t 27)), .op (some 29) none (.mv (.t 28)), .split 29, .op (some 30) (some (29, false)) (.mv (.t 0)), .op (some 31) (some (29, false)) (.bin .eql (.t 30) (.k (AV.int .u8 95))), .op (some 32) none (.pick (.t 29) (.k (AV.bool true)) (.t 31)), .op (some 2) none (.mv (.t 32))]) (.ret [2] []))
def ref01Letter : AFunc := ⟨1, 33, [.tmp 2], ref01Letter_c0⟩
def ref01Letterr (R : Nat → List AV → Option Res) (N : Nat) (i1 : Int) : Option Res :=
  bif decide ((i1 : Int) ≥ 65) then
    (bif decide ((i1 : Int) ≤ 90) then
      (some ⟨AV.bool true, false, []⟩)
    else
      bif decide ((i1 : Int) ≥ 97) then
        (bif decide ((i1 : Int) ≤ 122) then
          (some ⟨AV.bool true, false, []⟩)
        else
          bif decide ((i1 : Int) ≥ 48) then
            (bif decide ((i1 : Int) ≤ 57) then
              (some ⟨AV.bool true, false, []⟩)
            else
              bif (i1 : Int) == 45 then
                (some ⟨AV.bool true, false, []⟩)
              else
                some ⟨AV.bool ((i1 : Int) == 95), false, []⟩)
          else
            bif (i1 : Int) == 45 then
              (some ⟨AV.bool true, false, []⟩)
            else
              some ⟨AV.bool ((i1 : Int) == 95), false, []⟩)
      else
        bif decide ((i1 : Int) ≥ 48) then
          (bif decide ((i1 : Int) ≤ 57) then
            (some ⟨AV.bool true, false, []⟩)
          else
            bif (i1 : Int) == 45 then
              (some ⟨AV.bool true, false, []⟩)
            else
              some ⟨AV.bool ((i1 : Int) == 95), false, []⟩)
        else
          bif (i1 : Int) == 45 then
            (some ⟨AV.bool true, false, []⟩)
          else
            some ⟨AV.bool ((i1 : Int) == 95), false, []⟩)
  else
    bif decide ((i1 : Int) ≥ 97) then
      (bif decide ((i1 : Int) ≤ 122) then
        (some ⟨AV.bool true, false, []⟩)
      else
        bif decide ((i1 : Int) ≥ 48) then
          (bif decide ((i1 : Int) ≤ 57) then
            (some ⟨AV.bool true, false, []⟩)
          else
            bif (i1 : Int) == 45 then
              (some ⟨AV.bool true, false, []⟩)
            else
              some ⟨AV.bool ((i1 : Int) == 95), false, []⟩)
        else
          bif (i1 : Int) == 45 then
            (some ⟨AV.bool true, false, []⟩)
          else
            some ⟨AV.bool ((i1 : Int) == 95), false, []⟩)
    else
      bif decide ((i1 : Int) ≥ 48) then
        (bif decide ((i1 : Int) ≤ 57) then
          (some ⟨AV.bool true, false, []⟩)
        else
          bif (i1 : Int) == 45 then
            (some ⟨AV.bool true, false, []⟩)
          else
            some ⟨AV.bool ((i1 : Int) == 95), false, []⟩)
      else
        bif (i1 : Int) == 45 then
          (some ⟨AV.bool true, false, []⟩)
        else
          some ⟨AV.bool ((i1 : Int) == 95), false, []⟩
theorem ref01Letter_eq (R : Nat → List AV → Option Res) (N : Nat) (i1 : Int) : runF gl R N ref01Letter [AV.int .u8 i1] = ref01Letterr R N i1 := by
  kernel_rfl
theorem ref01Letter_fit : fitF Tryd.prog ref01Letter Tryd.f44 = true := by
  kernel_rfl

def ref01Name_L1s (R : Nat → List AV → Option Res) (N : Nat) (go : List UInt8 → Int → Option Res) (k0 : Bool → Option Res) (k1 : List UInt8 → Option Res) (s2 : List UInt8) (i1 : Int) : Option Res :=
  bif decide ((i1 : Int) < ((s2.length : Nat) : Int)) then
    (need (decide (0 ≤ (i1 : Int))) <|
    (s2[Int.toNat i1]?).bind fun c1 =>
    (R id_ref01Letter [AV.int .u8 (c1.toNat : Int)]).bind fun r1 =>
    asB r1.v fun b1 =>
    bif !b1 then
      (k0 false)
    else
      go s2 (IntKind.i64.wrap (i1 + 1)))
  else
    k1 s2
def ref01Name_L1 (R : Nat → List AV → Option Res) (N : Nat) (k0 : Bool → Option Res) (k1 : List UInt8 → Option Res) : Nat → List UInt8 → Int → Option Res
  | 0, _, _ => none
  | n + 1, s2, i1 => ref01Name_L1s R N (ref01Name_L1 R N k0 k1 n) k0 k1 s2 i1
def ref01Name_c0 : AC := .seq (.seq (.region [.op (some 4) none (.mv (.t 3)), .op (some 5) none (.mv (.t 0)), .op (some 6) none (.len (.t 5) true), .op (some 7) none (.bin .lss (.t 4) (.t 6))]) (.cond (.t 7) (.skip) (.exit 0 [0] []))) (.seq (.block 1 (.seq (.region [.op (some 10) none (.mv (.t 0)), .op (some 11) none (.mv (.t 3)), .op (some 12) none (.index (.t 10) (.t 11)), .op (some 13) none (.call id_ref01Letter [.t 12] (.bool)), .op (some 14) none (.un .not (.t 13))]) (.cond (.t 14) (.seq (.region [.op (some 2) none (.mv (.k (AV.bool false)))]) (.ret [2] [])) (.skip)))) (.region [.op (some 8) none (.mv (.t 3)), .op (some 9) none (.bin .add (.t 8) (.k (AV.int .i64 1))), .op (some 3) none (.mv (.t 9))]))
theorem ref01Name_L1s_eq (R : Nat → List AV → Option Res) (N : Nat) (K : Ex → St → Option Res) (W : St → Option Res) (s2 : List UInt8) (i1 : Int) :
    evC gl R N ref01Name_c0 (Kseq (fun st' => W (prune [0, 3] [] st')) K) ⟨[(0, .imm (AV.str s2)), (3, .imm (AV.int .i64 i1))], []⟩ =
    ref01Name_L1s R N (fun (s2 : List UInt8) (i1 : Int) => W ⟨[(0, .imm (AV.str s2)), (3, .imm (AV.int .i64 i1))], []⟩) (fun (b2 : Bool) => K .ret ⟨[(2, .imm (AV.bool b2))], []⟩) (fun (s3 : List UInt8) => K (.exit 0) ⟨[(0, .imm (AV.str s3))], []⟩) s2 i1 := by
  kernel_rfl
theorem ref01Name_L1_eq (R : Nat → List AV → Option Res) (N : Nat) (K : Ex → St → Option Res) : ∀ (n : Nat) (s2 : List UInt8) (i1 : Int),
    rounds [0, 3] [] (evC gl R N ref01Name_c0) K n ⟨[(0, .imm (AV.str s2)), (3, .imm (AV.int .i64 i1))], []⟩ = ref01Name_L1 R N (fun (b2 : Bool) => K .ret ⟨[(2, .imm (AV.bool b2))], []⟩) (fun (s3 : List UInt8) => K (.exit 0) ⟨[(0, .imm (AV.str s3))], []⟩) n s2 i1
  | 0, _, _ => rfl
  | n + 1, s2, i1 => (ref01Name_L1s_eq R N K (rounds [0, 3] [] (evC gl R N ref01Name_c0) K n) s2 i1).trans
      (congrArg (fun go => ref01Name_L1s R N go (fun (b2 : Bool) => K .ret ⟨[(2, .imm (AV.bool b2))], []⟩) (fun (s3 : List UInt8) => K (.exit 0) ⟨[(0, .imm (AV.str s3))], []⟩) s2 i1) (funext fun s2 => funext fun i1 => ref01Name_L1_eq R N K n s2 i1))
def ref01Name_c1 : AC := .seq (.region [.op (some 15) none (.mv (.t 0)), .op (some 16) none (.len (.t 15) true), .op (some 17) none (.bin .geq (.t 16) (.k (AV.int .i64 1))), .op (some 18) none (.mv (.t 17)), .split 18, .op (some 19) (some (18, true)) (.mv (.t 0)), .op (some 20) (some (18, true)) (.len (.t 19) true), .op (some 21) (some (18, true)) (.bin .leq (.t 20) (.k (AV.int .i64 32))), .op (some 22) none (.pick (.t 18) (.t 21) (.k (AV.bool false))), .op (some 2) none (.mv (.t 22))]) (.ret [2] [])
def ref01Name_c2 : AC := .seq (.region [.op (some 2) none (.mv (.k (AV.bool false)))]) (.seq (.seq (.region [.op (some 3) none (.mv (.k (AV.int .i64 0)))]) (.block 0 (.loop [0, 3] [] (ref01Name_c0)))) (ref01Name_c1))
def ref01Name : AFunc := ⟨1, 23, [.tmp 2], ref01Name_c2⟩
def ref01Namer (R : Nat → List AV → Option Res) (N : Nat) (s1 : List UInt8) : Option Res :=
  ref01Name_L1 R N
    (fun b4 =>
      some ⟨AV.bool b4, false, []⟩)
    (fun s5 =>
      bif decide ((((s5.length : Nat) : Int) : Int) ≥ 1) then
        (some ⟨AV.bool (decide ((((s5.length : Nat) : Int) : Int) ≤ 32)), false, []⟩)
      else
        some ⟨AV.bool false, false, []⟩)
    N s1 0
theorem ref01Name_eq (R : Nat → List AV → Option Res) (N : Nat) (s1 : List UInt8) : runF gl R N ref01Name [AV.str s1] = ref01Namer R N s1 := by
  refine Eq.trans (b :=
      rounds [0, 3] [] (evC gl R N ref01Name_c0) (Kblock 0 (Kthen gl R N ref01Name_c1 (Kret ref01Name.rets))) N ⟨[(0, .imm (AV.str s1)), (3, .imm (AV.int .i64 0))], []⟩) (by kernel_rfl) ?_
  simp (config := { maxSteps := 100000000 }) only [ref01Name_L1_eq]
  kernel_rfl
theorem ref01Name_fit : fitF Tryd.prog ref01Name Tryd.f28 = true := by
  kernel_rfl

def law01CharsChecks_c0 : AC := .seq (.region [.op (some 8) none (.mv (.k (AV.bool false)))]) (.seq (.region [.op (some 15) none (.mv (.t 0)), .op (some 16) none (.call id_keepCutByte [.t 15, .k (AV.int .i64 200)] (.bytes)), .op (some 0) none (.mv (.t 16))]) (.seq (.seq (.region [.op (some 17) none (.mv (.t 1)), .op (some 18) none (.len (.t 17) true), .op (some 19) none (.bin .gtr (.t 18) (.k (AV.int .i64 0)))]) (.cond (.t 19) (.region [.op (some 20) none (.mv (.t 1)), .op (some 21) none (.call id_keepText [.t 20, .k (AV.int .i64 200)] (.str)), .op (some 22) none (.cvBytes (.t 21)), .op (some 0) none (.mv (.t 22))]) (.skip))) (.seq (.seq (.region [.op (some 23) none (.mv (.t 2))]) (.cond (.t 23) (.region [.op (some 24) none (.bsliceOwn 24 [.k (AV.int .u8 239), .k (AV.int .u8 187), .k (AV.int .u8 191)] 1 .any true), .op (some 25) none (.mv (.t 0)), .op (some 26) none (.app 24 (.t 24) (.t 25) 1 .any true), .op (some 0) none (.mv (.t 26))]) (.skip))) (.seq (.region [.op (some 27) none (.mv (.t 0)), .op (some 28) none (.call id_keepLend [.t 27] (.lent)), .op (some 9) none (.mv (.t 28))]) (.seq (.region [.op (some 30) none (.weak (.t 9)), .op (some 31) none (.call id_charsCheck [.t 30] (.tup [.int .i64, .int .i64])), .op (some 29) none (.mv (.t 31)), .op (some 32) none (.extract (.t 29) 0), .op (some 33) none (.extract (.t 29) 1), .op (some 10) none (.mv (.t 32)), .op (some 11) none (.mv (.t 33))]) (.seq (.region [.op (some 35) none (.mv (.t 0)), .op (some 36) none (.call id_ref01Check [.t 35] (.tup [.int .i64, .int .i64])), .op (some 34) none (.mv (.t 36)), .op (some 37) none (.extract (.t 34) 0), .op (some 38) none (.extract (.t 34) 1), .op (some 12) none (.mv (.t 37)), .op (some 13) none (.mv (.t 38))]) (.seq (.region [.op (some 39) none (.mv (.t 1)), .op (some 40) none (.call id_keepText [.t 39, .k (AV.int .i64 40)] (.str)), .op (some 14) none (.mv (.t 40))]) (.seq (.region [.op (some 41) none (.mv (.t 10)), .op (some 42) none (.mv (.t 12)), .op (some 43) none (.bin .eql (.t 41) (.t 42)), .op (some 44) none (.mv (.t 43)), .split 44, .op (some 45) (some (44, true)) (.mv (.t 11)), .op (some 46) (some (44, true)) (.mv (.t 13)), .op (some 47) (some (44, true)) (.bin .eql (.t 45) (.t 46)), .op (some 48) none (.pick (.t 44) (.t 47) (.k (AV.bool false))), .op (some 49) none (.mv (.t 48)), .split 49, .op (some 50) (some (49, true)) (.mv (.t 9)), .op (some 51) (some (49, true)) (.mv (.t 0)), .op (some 52) (some (49, true)) (.call id_keepIntact [.t 50, .t 51] (.bool)), .op (some 53) none (.pick (.t 49) (.t 52) (.k (AV.bool false))), .op (some 54) none (.mv (.t 53)), .split 54, .op (some 55) (some (54, true)) (.mv (.t 3)), .op (some 56) (some (54, true)) (.call id_charsSpace [.t 55] (.bool)), .op (some 57) (some (54, true)) (.mv (.t 3)), .op (some 58) (some (54, true)) (.bin .eql (.t 57) (.k (AV.int .u8 32))), .op (some 59) (some (54, true)) (.binB .eql (.t 56) (.t 58)), .op (some 60) none (.pick (.t 54) (.t 59) (.k (AV.bool false))), .op (some 61) none (.mv (.t 60)), .split 61, .op (some 62) (some (61, true)) (.mv (.t 3)), .op (some 63) (some (61, true)) (.call id_charsDigit [.t 62] (.bool)), .op (some 64) (some (61, true)) (.mv (.t 3)), .op (some 65) (some (61, true)) (.bin .geq (.t 64) (.k (AV.int .u8 48))), .op (some 66) (some (61, true)) (.mv (.t 65)), .split 66, .op (some 67) (some (66, true)) (.mv (.t 3)), .op (some 68) (some (66, true)) (.bin .leq (.t 67) (.k (AV.int .u8 57))), .op (some 69) (some (61, true)) (.pick (.t 66) (.t 68) (.k (AV.bool false))), .op (some 70) (some (61, true)) (.binB .eql (.t 63) (.t 69)), .op (some 71) none (.pick (.t 61) (.t 70) (.k (AV.bool false))), .op (some 72) none (.mv (.t 71)), .split 72, .op (some 73) (some (72, true)) (.mv (.t 14)), .op (some 74) (some (72, true)) (.call id_charsName [.t 73] (.bool)), .op (some 75) (some (72, true)) (.mv (.t 14)), .op (some 76) (some (72, true)) (.call id_ref01Name [.t 75] (.bool)), .op (some 77) (some (72, true)) (.binB .eql (.t 74) (.t 76)), .op (some 78) none (.pick (.t 72) (.t 77) (.k (AV.bool false))), .op (some 79) none (.mv (.t 78)), .split 79, .op (some 80) (some (79, true)) (.call id_law01Wakes [] (.bool)), .op (some 81) none (.pick (.t 79) (.t 80) (.k (AV.bool false))), .op (some 8) none (.mv (.t 81))]) (.ret [8] [])))))))))
def law01CharsChecks : AFunc := ⟨4, 82, [.tmp 8], law01CharsChecks_c0⟩
def law01CharsChecksr (R : Nat → List AV → Option Res) (N : Nat) (s1 : List UInt8) (s2 : List UInt8) (b1 : Bool) (i1 : Int) : Option Res :=
  (R id_keepCutByte [AV.bytes s1, AV.int .i64 200]).bind fun r1 =>
  asY r1.v fun s3 =>
  bif decide ((((s2.length : Nat) : Int) : Int) > 0) then
    ((R id_keepText [AV.str s2, AV.int .i64 200]).bind fun r2 =>
    asS r2.v fun s4 =>
    bif b1 then
      (need (decide ((([239, 187, 191].drop 0).take 3).length + s4.length ≤ 1099511627776)) <|
      (R id_keepLend [AV.bytes ((((([239, 187, 191].drop 0).take 3) ++ s4).drop 0).take (((([239, 187, 191].drop 0).take 3) ++ s4).length))]).bind fun r3 =>
      asL r3.v fun s5 =>
      (R id_charsCheck [AV.bytes s5]).bind fun r4 =>
      asIIT r4.v fun i2 i3 =>
      (R id_ref01Check [AV.bytes ((((([239, 187, 191].drop 0).take 3) ++ s4).drop 0).take (((([239, 187, 191].drop 0).take 3) ++ s4).length))]).bind fun r5 =>
      asIIT r5.v fun i4 i5 =>
      (R id_keepText [AV.str s2, AV.int .i64 40]).bind fun r6 =>
      asS r6.v fun s6 =>
      bif (i2 : Int) == i4 then
        (bif (i3 : Int) == i5 then
          ((R id_keepIntact [AV.lent s5, AV.bytes ((((([239, 187, 191].drop 0).take 3) ++ s4).drop 0).take (((([239, 187, 191].drop 0).take 3) ++ s4).length))]).bind fun r7 =>
          asB r7.v fun b2 =>
          bif b2 then
            ((R id_charsSpace [AV.int .u8 i1]).bind fun r8 =>
            asB r8.v fun b3 =>
            bif b3 == ((i1 : Int) == 32) then
              ((R id_charsDigit [AV.int .u8 i1]).bind fun r9 =>
              asB r9.v fun b4 =>
              bif decide ((i1 : Int) ≥ 48) then
                (bif b4 == (decide ((i1 : Int) ≤ 57)) then
                  ((R id_charsName [AV.str s6]).bind fun r10 =>
                  asB r10.v fun b5 =>
                  (R id_ref01Name [AV.str s6]).bind fun r11 =>
                  asB r11.v fun b6 =>
                  bif b5 == b6 then
                    ((R id_law01Wakes []).bind fun r12 =>
                    asB r12.v fun b7 =>
                    some ⟨AV.bool b7, false, []⟩)
                  else
                    some ⟨AV.bool false, false, []⟩)
                else
                  some ⟨AV.bool false, false, []⟩)
              else
                bif b4 == false then
                  ((R id_charsName [AV.str s6]).bind fun r13 =>
                  asB r13.v fun b8 =>
                  (R id_ref01Name [AV.str s6]).bind fun r14 =>
                  asB r14.v fun b9 =>
                  bif b8 == b9 then
                    ((R id_law01Wakes []).bind fun r15 =>
                    asB r15.v fun b10 =>
                    some ⟨AV.bool b10, false, []⟩)
                  else
                    some ⟨AV.bool false, false, []⟩)
                else
                  some ⟨AV.bool false, false, []⟩)
            else
              some ⟨AV.bool false, false, []⟩)
          else
            some ⟨AV.bool false, false, []⟩)
        else
          some ⟨AV.bool false, false, []⟩)
      else
        some ⟨AV.bool false, false, []⟩)
    else
      (R id_keepLend [AV.bytes s4]).bind fun r16 =>
      asL r16.v fun s7 =>
      (R id_charsCheck [AV.bytes s7]).bind fun r17 =>
      asIIT r17.v fun i6 i7 =>
      (R id_ref01Check [AV.bytes s4]).bind fun r18 =>
      asIIT r18.v fun i8 i9 =>
      (R id_keepText [AV.str s2, AV.int .i64 40]).bind fun r19 =>
      asS r19.v fun s8 =>
      bif (i6 : Int) == i8 then
        (bif (i7 : Int) == i9 then
          ((R id_keepIntact [AV.lent s7, AV.bytes s4]).bind fun r20 =>
          asB r20.v fun b11 =>
          bif b11 then
            ((R id_charsSpace [AV.int .u8 i1]).bind fun r21 =>
            asB r21.v fun b12 =>
            bif b12 == ((i1 : Int) == 32) then
              ((R id_charsDigit [AV.int .u8 i1]).bind fun r22 =>
              asB r22.v fun b13 =>
              bif decide ((i1 : Int) ≥ 48) then
                (bif b13 == (decide ((i1 : Int) ≤ 57)) then
                  ((R id_charsName [AV.str s8]).bind fun r23 =>
                  asB r23.v fun b14 =>
                  (R id_ref01Name [AV.str s8]).bind fun r24 =>
                  asB r24.v fun b15 =>
                  bif b14 == b15 then
                    ((R id_law01Wakes []).bind fun r25 =>
                    asB r25.v fun b16 =>
                    some ⟨AV.bool b16, false, []⟩)
                  else
                    some ⟨AV.bool false, false, []⟩)
                else
                  some ⟨AV.bool false, false, []⟩)
              else
                bif b13 == false then
                  ((R id_charsName [AV.str s8]).bind fun r26 =>
                  asB r26.v fun b17 =>
                  (R id_ref01Name [AV.str s8]).bind fun r27 =>
                  asB r27.v fun b18 =>
                  bif b17 == b18 then
                    ((R id_law01Wakes []).bind fun r28 =>
                    asB r28.v fun b19 =>
                    some ⟨AV.bool b19, false, []⟩)
                  else
                    some ⟨AV.bool false, false, []⟩)
                else
                  some ⟨AV.bool false, false, []⟩)
            else
              some ⟨AV.bool false, false, []⟩)
          else
            some ⟨AV.bool false, false, []⟩)
        else
          some ⟨AV.bool false, false, []⟩)
      else
        some ⟨AV.bool false, false, []⟩)
  else
    bif b1 then
      (need (decide ((([239, 187, 191].drop 0).take 3).length + s3.length ≤ 1099511627776)) <|
      (R id_keepLend [AV.bytes ((((([239, 187, 191].drop 0).take 3) ++ s3).drop 0).take (((([239, 187, 191].drop 0).take 3) ++ s3).length))]).bind fun r29 =>
      asL r29.v fun s9 =>
      (R id_charsCheck [AV.bytes s9]).bind fun r30 =>
      asIIT r30.v fun i10 i11 =>
      (R id_ref01Check [AV.bytes ((((([239, 187, 191].drop 0).take 3) ++ s3).drop 0).take (((([239, 187, 191].drop 0).take 3) ++ s3).length))]).bind fun r31 =>
      asIIT r31.v fun i12 i13 =>
      (R id_keepText [AV.str s2, AV.int .i64 40]).bind fun r32 =>
      asS r32.v fun s10 =>
      bif (i10 : Int) == i12 then
        (bif (i11 : Int) == i13 then
          ((R id_keepIntact [AV.lent s9, AV.bytes ((((([239, 187, 191].drop 0).take 3) ++ s3).drop 0).take (((([239, 187, 191].drop 0).take 3) ++ s3).length))]).bind fun r33 =>
          asB r33.v fun b20 =>
          bif b20 then
            ((R id_charsSpace [AV.int .u8 i1]).bind fun r34 =>
            asB r34.v fun b21 =>
            bif b21 == ((i1 : Int) == 32) then
              ((R id_charsDigit [AV.int .u8 i1]).bind fun r35 =>
              asB r35.v fun b22 =>
              bif decide ((i1 : Int) ≥ 48) then
                (bif b22 == (decide ((i1 : Int) ≤ 57)) then
                  ((R id_charsName [AV.str s10]).bind fun r36 =>
                  asB r36.v fun b23 =>
                  (R id_ref01Name [AV.str s10]).bind fun r37 =>
                  asB r37.v fun b24 =>
                  bif b23 == b24 then
                    ((R id_law01Wakes []).bind fun r38 =>
                    asB r38.v fun b25 =>
                    some ⟨AV.bool b25, false, []⟩)
                  else
                    some ⟨AV.bool false, false, []⟩)
                else
                  some ⟨AV.bool false, false, []⟩)
              else
                bif b22 == false then
                  ((R id_charsName [AV.str s10]).bind fun r39 =>
                  asB r39.v fun b26 =>
                  (R id_ref01Name [AV.str s10]).bind fun r40 =>
                  asB r40.v fun b27 =>
                  bif b26 == b27 then
                    ((R id_law01Wakes []).bind fun r41 =>
                    asB r41.v fun b28 =>
                    some ⟨AV.bool b28, false, []⟩)
                  else
                    some ⟨AV.bool false, false, []⟩)
                else
                  some ⟨AV.bool false, false, []⟩)
            else
              some ⟨AV.bool false, false, []⟩)
          else
            some ⟨AV.bool false, false, []⟩)
        else
          some ⟨AV.bool false, false, []⟩)
      else
        some ⟨AV.bool false, false, []⟩)
    else
      (R id_keepLend [AV.bytes s3]).bind fun r42 =>
      asL r42.v fun s11 =>
      (R id_charsCheck [AV.bytes s11]).bind fun r43 =>
      asIIT r43.v fun i14 i15 =>
      (R id_ref01Check [AV.bytes s3]).bind fun r44 =>
      asIIT r44.v fun i16 i17 =>
      (R id_keepText [AV.str s2, AV.int .i64 40]).bind fun r45 =>
      asS r45.v fun s12 =>
      bif (i14 : Int) == i16 then
        (bif (i15 : Int) == i17 then
          ((R id_keepIntact [AV.lent s11, AV.bytes s3]).bind fun r46 =>
          asB r46.v fun b29 =>
          bif b29 then
            ((R id_charsSpace [AV.int .u8 i1]).bind fun r47 =>
            asB r47.v fun b30 =>
            bif b30 == ((i1 : Int) == 32) then
              ((R id_charsDigit [AV.int .u8 i1]).bind fun r48 =>
              asB r48.v fun b31 =>
              bif decide ((i1 : Int) ≥ 48) then
                (bif b31 == (decide ((i1 : Int) ≤ 57)) then
                  ((R id_charsName [AV.str s12]).bind fun r49 =>
                  asB r49.v fun b32 =>
                  (R id_ref01Name [AV.str s12]).bind fun r50 =>
                  asB r50.v fun b33 =>
                  bif b32 == b33 then
                    ((R id_law01Wakes []).bind fun r51 =>
                    asB r51.v fun b34 =>
                    some ⟨AV.bool b34, false, []⟩)
                  else
                    some ⟨AV.bool false, false, []⟩)
                else
                  some ⟨AV.bool false, false, []⟩)
              else
                bif b31 == false then
                  ((R id_charsName [AV.str s12]).bind fun r52 =>
                  asB r52.v fun b35 =>
                  (R id_ref01Name [AV.str s12]).bind fun r53 =>
                  asB r53.v fun b36 =>
                  bif b35 == b36 then
                    ((R id_law01Wakes []).bind fun r54 =>
                    asB r54.v fun b37 =>
                    some ⟨AV.bool b37, false, []⟩)
                  else
                    some ⟨AV.bool false, false, []⟩)
                else
                  some ⟨AV.bool false, false, []⟩)
            else
              some ⟨AV.bool false, false, []⟩)
          else
            some ⟨AV.bool false, false, []⟩)
        else
          some ⟨AV.bool false, false, []⟩)
      else
        some ⟨AV.bool false, false, []⟩
theorem law01CharsChecks_eq (R : Nat → List AV → Option Res) (N : Nat) (s1 : List UInt8) (s2 : List UInt8) (b1 : Bool) (i1 : Int) : runF gl R N law01CharsChecks [AV.bytes s1, AV.str s2, AV.bool b1, AV.int .u8 i1] = law01CharsChecksr R N s1 s2 b1 i1 := by
  kernel_rfl
theorem law01CharsChecks_fit : fitF Tryd.prog law01CharsChecks Tryd.f10 = true := by
  kernel_rfl

def bytesEqual_c0 : AC := .seq (.region [.op (some 4) none (.mv (.k (AV.bool false)))]) (.seq (.region [.op (some 5) none (.mv (.t 0)), .op (some 6) none (.cvStr (.t 5)), .op (some 7) none (.mv (.t 1)), .op (some 8) none (.cvStr (.t 7)), .op (some 9) none (.bin .eql (.t 6) (.t 8)), .op (some 4) none (.mv (.t 9))]) (.ret [4] []))
def bytesEqual : AFunc := ⟨2, 10, [.tmp 4], bytesEqual_c0⟩
def bytesEqualr (R : Nat → List AV → Option Res) (N : Nat) (s1 : List UInt8) (s2 : List UInt8) : Option Res :=
  some ⟨AV.bool (s1 == s2), false, []⟩
theorem bytesEqual_eq (R : Nat → List AV → Option Res) (N : Nat) (s1 : List UInt8) (s2 : List UInt8) : runF gl R N bytesEqual [AV.bytes s1, AV.bytes s2] = bytesEqualr R N s1 s2 := by
  kernel_rfl
theorem bytesEqual_fit : fitF Tryd.prog bytesEqual Tryd.f50 = true := by
  kernel_rfl

def bytesHasPrefix_c0 : AC := .seq (.region [.op (some 4) none (.mv (.k (AV.bool false)))]) (.seq (.region [.op (some 5) none (.mv (.t 0)), .op (some 6) none (.len (.t 5) false), .op (some 7) none (.mv (.t 1)), .op (some 8) none (.len (.t 7) false), .op (some 9) none (.bin .geq (.t 6) (.t 8)), .op (some 10) none (.mv (.t 9)), .split 10, .op (some 11) (some (10, true)) (.mv (.t 0)), .op (some 12) (some (10, true)) (.mv (.t 1)), .op (some 13) (some (10, true)) (.len (.t 12) false), .op (some 14) (some (10, true)) (.slice (.t 11) none (some (.t 13)) 1), .op (some 15) (some (10, true)) (.mv (.t 1)), .op (some 16) (some (10, true)) (.call id_bytesEqual [.t 14, .t 15] (.bool)), .op (some 17) none (.pick (.t 10) (.t 16) (.k (AV.bool false))), .op (some 4) none (.mv (.t 17))]) (.ret [4] []))
def bytesHasPrefix : AFunc := ⟨2, 18, [.tmp 4], bytesHasPrefix_c0⟩
def bytesHasPrefixr (R : Nat → List AV → Option Res) (N : Nat) (s1 : List UInt8) (s2 : List UInt8) : Option Res :=
  bif decide ((((s1.length : Nat) : Int) : Int) ≥ ((s2.length : Nat) : Int)) then
    (need (decide (0 ≤ (((s2.length : Nat) : Int) : Int)) && decide ((((s2.length : Nat) : Int) : Int) ≤ ((s1.length : Nat) : Int))) <|
    (R id_bytesEqual [AV.bytes ((s1.take (Int.toNat ((s2.length : Nat) : Int))).drop 0), AV.bytes s2]).bind fun r1 =>
    asB r1.v fun b1 =>
    some ⟨AV.bool b1, false, []⟩)
  else
    some ⟨AV.bool false, false, []⟩
theorem bytesHasPrefix_eq (R : Nat → List AV → Option Res) (N : Nat) (s1 : List UInt8) (s2 : List UInt8) : runF gl R N bytesHasPrefix [AV.bytes s1, AV.bytes s2] = bytesHasPrefixr R N s1 s2 := by
  kernel_rfl
theorem bytesHasPrefix_fit : fitF Tryd.prog bytesHasPrefix Tryd.f45 = true := by
  kernel_rfl

def bytesIndexByte_c0 : AC := .seq (.region [.op (some 4) none (.mv (.k (AV.int .i64 0)))]) (.seq (.region [.op (some 5) none (.mv (.t 0)), .op (some 6) none (.mv (.t 1)), .op (some 7) none (.call id_internalBytealgIndexByte [.t 5, .t 6] (.int .i64)), .op (some 4) none (.mv (.t 7))]) (.ret [4] []))
def bytesIndexByte : AFunc := ⟨2, 8, [.tmp 4], bytesIndexByte_c0⟩
def bytesIndexByter (R : Nat → List AV → Option Res) (N : Nat) (s1 : List UInt8) (i1 : Int) : Option Res :=
  (R id_internalBytealgIndexByte [AV.bytes s1, AV.int .u8 i1]).bind fun r1 =>
  asI .i64 r1.v fun i2 =>
  some ⟨AV.int .i64 i2, false, []⟩
theorem bytesIndexByte_eq (R : Nat → List AV → Option Res) (N : Nat) (s1 : List UInt8) (i1 : Int) : runF gl R N bytesIndexByte [AV.bytes s1, AV.int .u8 i1] = bytesIndexByter R N s1 i1 := by
  kernel_rfl
theorem bytesIndexByte_fit : fitF Tryd.prog bytesIndexByte Tryd.f46 = true := by
  kernel_rfl

def linesSplit_L1s (R : Nat → List AV → Option Res) (N : Nat) (go : List UInt8 → Int → List AV → Option Res) (k0 : List AV → Option Res) (k1 : List AV → Option Res) (s2 : List UInt8) (i1 : Int) (l1 : List AV) : Option Res :=
  bif decide ((i1 : Int) < ((s2.length : Nat) : Int)) then
    (need (decide (0 ≤ (i1 : Int)) && decide ((i1 : Int) ≤ ((s2.length : Nat) : Int))) <|
    (R id_bytesIndexByte [AV.bytes ((s2.take s2.length).drop (Int.toNat i1)), AV.int .u8 10]).bind fun r2 =>
    asI .i64 r2.v fun i2 =>
    bif decide ((i2 : Int) < 0) then
      (need (decide (((l1.drop 0).take l1.length).length + [AV.agg [AV.int .i64 i1, AV.int .i64 ((s2.length : Nat) : Int), AV.int .i64 ((s2.length : Nat) : Int)]].length ≤ 1099511627776)) <|
      k0 (((l1.drop 0).take l1.length) ++ [AV.agg [AV.int .i64 i1, AV.int .i64 ((s2.length : Nat) : Int), AV.int .i64 ((s2.length : Nat) : Int)]]))
    else
      bif decide ((i2 : Int) > 0) then
        (need (decide (0 ≤ (IntKind.i64.wrap ((IntKind.i64.wrap (i1 + i2)) - 1) : Int))) <|
        (s2[Int.toNat (IntKind.i64.wrap ((IntKind.i64.wrap (i1 + i2)) - 1))]?).bind fun c1 =>
        bif ((c1.toNat : Int) : Int) == 13 then
          (need (decide (((l1.drop 0).take l1.length).length + [AV.agg [AV.int .i64 i1, AV.int .i64 (IntKind.i64.wrap ((IntKind.i64.wrap (i1 + i2)) - 1)), AV.int .i64 (IntKind.i64.wrap ((IntKind.i64.wrap (i1 + i2)) + 1))]].length ≤ 1099511627776)) <|
          go s2 (IntKind.i64.wrap ((IntKind.i64.wrap (i1 + i2)) + 1)) (((l1.drop 0).take l1.length) ++ [AV.agg [AV.int .i64 i1, AV.int .i64 (IntKind.i64.wrap ((IntKind.i64.wrap (i1 + i2)) - 1)), AV.int .i64 (IntKind.i64.wrap ((IntKind.i64.wrap (i1 + i2)) + 1))]]))
        else
          need (decide (((l1.drop 0).take l1.length).length + [AV.agg [AV.int .i64 i1, AV.int .i64 (IntKind.i64.wrap (i1 + i2)), AV.int .i64 (IntKind.i64.wrap ((IntKind.i64.wrap (i1 + i2)) + 1))]].length ≤ 1099511627776)) <|
          go s2 (IntKind.i64.wrap ((IntKind.i64.wrap (i1 + i2)) + 1)) (((l1.drop 0).take l1.length) ++ [AV.agg [AV.int .i64 i1, AV.int .i64 (IntKind.i64.wrap (i1 + i2)), AV.int .i64 (IntKind.i64.wrap ((IntKind.i64.wrap (i1 + i2)) + 1))]]))
      else
        need (decide (((l1.drop 0).take l1.length).length + [AV.agg [AV.int .i64 i1, AV.int .i64 (IntKind.i64.wrap (i1 + i2)), AV.int .i64 (IntKind.i64.wrap ((IntKind.i64.wrap (i1 + i2)) + 1))]].length ≤ 1099511627776)) <|
        go s2 (IntKind.i64.wrap ((IntKind.i64.wrap (i1 + i2)) + 1)) (((l1.drop 0).take l1.length) ++ [AV.agg [AV.int .i64 i1, AV.int .i64 (IntKind.i64.wrap (i1 + i2)), AV.int .i64 (IntKind.i64.wrap ((IntKind.i64.wrap (i1 + i2)) + 1))]]))
  else
    k1 l1
def linesSplit_L1 (R : Nat → List AV → Option Res) (N : Nat) (k0 : List AV → Option Res) (k1 : List AV → Option Res) : Nat → List UInt8 → Int → List AV → Option Res
  | 0, _, _, _ => none
  | n + 1, s2, i1, l1 => linesSplit_L1s R N (linesSplit_L1 R N k0 k1 n) k0 k1 s2 i1 l1
def linesSplit_c0 : AC := .seq (.seq (.region [.op (some 11) none (.mv (.t 4)), .op (some 12) none (.mv (.t 0)), .op (some 13) none (.len (.t 12) false), .op (some 14) none (.bin .lss (.t 11) (.t 13))]) (.cond (.t 14) (.skip) (.exit 0 [3] [3]))) (.block 1 (.seq (.region [.op (some 15) none (.mv (.t 0)), .op (some 16) none (.mv (.t 4)), .op (some 17) none (.slice (.t 15) (some (.t 16)) none 1), .op (some 18) none (.call id_bytesIndexByte [.t 17, .k (AV.int .u8 10)] (.int .i64)), .op (some 5) none (.mv (.t 18))]) (.seq (.seq (.region [.op (some 19) none (.mv (.t 5)), .op (some 20) none (.bin .lss (.t 19) (.k (AV.int .i64 0)))]) (.cond (.t 20) (.seq (.region [.op (some 21) none (.mv (.t 3)), .op (some 22) none (.mv (.t 4)), .op (some 23) none (.mv (.t 0)), .op (some 24) none (.len (.t 23) false), .op (some 25) none (.mv (.t 0)), .op (some 26) none (.len (.t 25) false), .op (some 27) none (.build [AV.int .i64 0, AV.int .i64 0, AV.int .i64 0] [(0, 1, .t 22), (1, 1, .t 24), (2, 1, .t 26)]), .op (some 28) none (.bslice [.t 27] 3 false), .op (some 29) none (.app 3 (.t 21) (.t 28) 3 .any false), .op (some 2) none (.mv (.t 29))]) (.ret [2] [3])) (.skip))) (.seq (.region [.op (some 30) none (.mv (.t 4)), .op (some 31) none (.mv (.t 4)), .op (some 32) none (.mv (.t 5)), .op (some 33) none (.bin .add (.t 31) (.t 32)), .op (some 34) none (.mv (.t 4)), .op (some 35) none (.mv (.t 5)), .op (some 36) none (.bin .add (.t 34) (.t 35)), .op (some 37) none (.bin .add (.t 36) (.k (AV.int .i64 1))), .op (some 38) none (.build [AV.int .i64 0, AV.int .i64 0, AV.int .i64 0] [(0, 1, .t 30), (1, 1, .t 33), (2, 1, .t 37)]), .op (some 6) none (.alloc 1006 [AV.int .i64 0, AV.int .i64 0, AV.int .i64 0]), .op none none (.store (.t 6) (.t 38) 3)]) (.seq (.seq (.region [.op (some 39) none (.mv (.t 5)), .op (some 40) none (.bin .gtr (.t 39) (.k (AV.int .i64 0))), .op (some 41) none (.mv (.t 40)), .split 41, .op (some 42) (some (41, true)) (.mv (.t 0)), .op (some 43) (some (41, true)) (.faddr (.t 6) 1), .op (some 44) (some (41, true)) (.load (.t 43) none (.int .i64)), .op (some 45) (some (41, true)) (.bin .sub (.t 44) (.k (AV.int .i64 1))), .op (some 46) (some (41, true)) (.iaddr (.t 42) (.t 45) 1 (.int .u8)), .op (some 47) (some (41, true)) (.load (.t 46) none (.int .u8)), .op (some 48) (some (41, true)) (.bin .eql (.t 47) (.k (AV.int .u8 13))), .op (some 49) none (.pick (.t 41) (.t 48) (.k (AV.bool false)))]) (.cond (.t 49) (.region [.op (some 50) none (.faddr (.t 6) 1), .op (some 51) none (.load (.t 50) none (.int .i64)), .op (some 52) none (.bin .sub (.t 51) (.k (AV.int .i64 1))), .op (some 53) none (.faddr (.t 6) 1), .op none none (.store (.t 53) (.t 52) 1)]) (.skip))) (.seq (.region [.op (some 54) none (.mv (.t 3)), .op (some 55) none (.load (.t 6) (some 3) (.agg [.int .i64, .int .i64, .int .i64])), .op (some 56) none (.bslice [.t 55] 3 false), .op (some 57) none (.app 3 (.t 54) (.t 56) 3 .any false), .op (some 3) none (.mv (.t 57))]) (.region [.op (some 58) none (.faddr (.t 6) 2), .op (some 59) none (.load (.t 58) none (.int .i64)), .op (some 4) none (.mv (.t 59))])))))))
theorem linesSplit_L1s_eq (R : Nat → List AV → Option Res) (N : Nat) (K : Ex → St → Option Res) (W : St → Option Res) (s2 : List UInt8) (i1 : Int) (l1 : List AV) :
    evC gl R N linesSplit_c0 (Kseq (fun st' => W (prune [0, 3, 4] [3] st')) K) ⟨[(0, .imm (AV.bytes s2)), (3, .own 3 0 l1.length none), (4, .imm (AV.int .i64 i1))], [(3, .row 3 l1 false)]⟩ =
    linesSplit_L1s R N (fun (s2 : List UInt8) (i1 : Int) (l1 : List AV) => W ⟨[(0, .imm (AV.bytes s2)), (3, .own 3 0 l1.length none), (4, .imm (AV.int .i64 i1))], [(3, .row 3 l1 false)]⟩) (fun (l2 : List AV) => K .ret ⟨[(2, .own 3 0 l2.length none)], [(3, .row 3 l2 false)]⟩) (fun (l3 : List AV) => K (.exit 0) ⟨[(3, .own 3 0 l3.length none)], [(3, .row 3 l3 false)]⟩) s2 i1 l1 := by
  kernel_rfl
theorem linesSplit_L1_eq (R : Nat → List AV → Option Res) (N : Nat) (K : Ex → St → Option Res) : ∀ (n : Nat) (s2 : List UInt8) (i1 : Int) (l1 : List AV),
    rounds [0, 3, 4] [3] (evC gl R N linesSplit_c0) K n ⟨[(0, .imm (AV.bytes s2)), (3, .own 3 0 l1.length none), (4, .imm (AV.int .i64 i1))], [(3, .row 3 l1 false)]⟩ = linesSplit_L1 R N (fun (l2 : List AV) => K .ret ⟨[(2, .own 3 0 l2.length none)], [(3, .row 3 l2 false)]⟩) (fun (l3 : List AV) => K (.exit 0) ⟨[(3, .own 3 0 l3.length none)], [(3, .row 3 l3 false)]⟩) n s2 i1 l1
  | 0, _, _, _ => rfl
  | n + 1, s2, i1, l1 => (linesSplit_L1s_eq R N K (rounds [0, 3, 4] [3] (evC gl R N linesSplit_c0) K n) s2 i1 l1).trans
      (congrArg (fun go => linesSplit_L1s R N go (fun (l2 : List AV) => K .ret ⟨[(2, .own 3 0 l2.length none)], [(3, .row 3 l2 false)]⟩) (fun (l3 : List AV) => K (.exit 0) ⟨[(3, .own 3 0 l3.length none)], [(3, .row 3 l3 false)]⟩) s2 i1 l1) (funext fun s2 => funext fun i1 => funext fun l1 => linesSplit_L1_eq R N K n s2 i1 l1))
def linesSplit_c1 : AC := .seq (.region [.op (some 60) none (.mv (.t 3)), .op (some 2) none (.mv (.t 60))]) (.ret [2] [3])
def linesSplit_c2 : AC := .seq (.region [.op (some 2) none (.nilOwn 3 (some (3, .any)))]) (.seq (.region [.op (some 3) none (.nilOwn 3 (some (3, .any)))]) (.seq (.region [.op (some 4) none (.mv (.k (AV.int .i64 0)))]) (.seq (.seq (.region [.op (some 7) none (.mv (.t 0)), .op (some 8) none (.bsliceOwn 8 [.k (AV.int .u8 239), .k (AV.int .u8 187), .k (AV.int .u8 191)] 1 .any true), .op (some 9) none (.cvSame (.t 8)), .op (some 10) none (.call id_bytesHasPrefix [.t 7, .t 9] (.bool))]) (.cond (.t 10) (.region [.op (some 4) none (.mv (.k (AV.int .i64 3)))]) (.skip))) (.seq (.block 0 (.loop [0, 3, 4] [3] (linesSplit_c0))) (linesSplit_c1)))))
def linesSplit : AFunc := ⟨1, 61, [.tmp 2], linesSplit_c2⟩
def linesSplitr (R : Nat → List AV → Option Res) (N : Nat) (s1 : List UInt8) : Option Res :=
  (R id_bytesHasPrefix [AV.bytes s1, AV.bytes (([239, 187, 191].drop 0).take 3)]).bind fun r1 =>
  asB r1.v fun b1 =>
  bif b1 then
    (linesSplit_L1 R N
      (fun l6 =>
        some ⟨AV.row 3 ((l6.drop 0).take l6.length), true, []⟩)
      (fun l7 =>
        some ⟨AV.row 3 ((l7.drop 0).take l7.length), true, []⟩)
      N s1 3 [])
  else
    linesSplit_L1 R N
      (fun l8 =>
        some ⟨AV.row 3 ((l8.drop 0).take l8.length), true, []⟩)
      (fun l9 =>
        some ⟨AV.row 3 ((l9.drop 0).take l9.length), true, []⟩)
      N s1 0 []
theorem linesSplit_eq (R : Nat → List AV → Option Res) (N : Nat) (s1 : List UInt8) : runF gl R N linesSplit [AV.bytes s1] = linesSplitr R N s1 := by
  refine Eq.trans (b :=
      (R id_bytesHasPrefix [AV.bytes s1, AV.bytes (([239, 187, 191].drop 0).take 3)]).bind fun r1 =>
      asB r1.v fun b1 =>
      bif b1 then
        (rounds [0, 3, 4] [3] (evC gl R N linesSplit_c0) (Kblock 0 (Kthen gl R N linesSplit_c1 (Kret linesSplit.rets))) N ⟨[(0, .imm (AV.bytes s1)), (3, .own 3 0 (([] : List AV).length) none), (4, .imm (AV.int .i64 3))], [(3, .row 3 [] false)]⟩)
      else
        rounds [0, 3, 4] [3] (evC gl R N linesSplit_c0) (Kblock 0 (Kthen gl R N linesSplit_c1 (Kret linesSplit.rets))) N ⟨[(0, .imm (AV.bytes s1)), (3, .own 3 0 (([] : List AV).length) none), (4, .imm (AV.int .i64 0))], [(3, .row 3 [] false)]⟩) (by kernel_rfl) ?_
  simp (config := { maxSteps := 100000000 }) only [linesSplit_L1_eq]
  kernel_rfl
theorem linesSplit_fit : fitF Tryd.prog linesSplit Tryd.f29 = true := by
  kernel_rfl

def linesText_c0 : AC := .seq (.region [.op (some 3) none (.box 1003 (.t 1) 3), .op (some 4) none (.mv (.k (AV.bytes [])))]) (.seq (.region [.op (some 7) none (.faddr (.t 3) 1), .op (some 8) none (.load (.t 7) none (.int .i64)), .op (some 9) none (.mv (.t 0)), .op (some 10) none (.len (.t 9) false), .op (some 11) none (.mn [.t 8, .t 10]), .op (some 5) none (.mv (.t 11))]) (.seq (.region [.op (some 12) none (.faddr (.t 3) 0), .op (some 13) none (.load (.t 12) none (.int .i64)), .op (some 14) none (.mx [.k (AV.int .i64 0), .t 13]), .op (some 15) none (.mv (.t 5)), .op (some 16) none (.mx [.k (AV.int .i64 0), .t 15]), .op (some 17) none (.mn [.t 14, .t 16]), .op (some 6) none (.mv (.t 17))]) (.seq (.region [.op (some 18) none (.mv (.t 0)), .op (some 19) none (.mv (.t 6)), .op (some 20) none (.mv (.t 6)), .op (some 21) none (.mv (.t 5)), .op (some 22) none (.mx [.t 20, .t 21]), .op (some 23) none (.slice (.t 18) (some (.t 19)) (some (.t 22)) 1), .op (some 4) none (.mv (.t 23))]) (.ret [4] []))))
def linesText : AFunc := ⟨2, 24, [.tmp 4], linesText_c0⟩
def linesTextr (R : Nat → List AV → Option Res) (N : Nat) (s1 : List UInt8) (i1 : Int) (i2 : Int) (i3 : Int) : Option Res :=
  need (decide (0 ≤ (if (if ((s1.length : Nat) : Int) < i2 then ((s1.length : Nat) : Int) else i2) > (if (if (if ((s1.length : Nat) : Int) < i2 then ((s1.length : Nat) : Int) else i2) > 0 then (if ((s1.length : Nat) : Int) < i2 then ((s1.length : Nat) : Int) else i2) else 0) < (if i1 > 0 then i1 else 0) then (if (if ((s1.length : Nat) : Int) < i2 then ((s1.length : Nat) : Int) else i2) > 0 then (if ((s1.length : Nat) : Int) < i2 then ((s1.length : Nat) : Int) else i2) else 0) else (if i1 > 0 then i1 else 0)) then (if ((s1.length : Nat) : Int) < i2 then ((s1.length : Nat) : Int) else i2) else (if (if (if ((s1.length : Nat) : Int) < i2 then ((s1.length : Nat) : Int) else i2) > 0 then (if ((s1.length : Nat) : Int) < i2 then ((s1.length : Nat) : Int) else i2) else 0) < (if i1 > 0 then i1 else 0) then (if (if ((s1.length : Nat) : Int) < i2 then ((s1.length : Nat) : Int) else i2) > 0 then (if ((s1.length : Nat) : Int) < i2 then ((s1.length : Nat) : Int) else i2) else 0) else (if i1 > 0 then i1 else 0)) : Int)) && decide ((if (if ((s1.length : Nat) : Int) < i2 then ((s1.length : Nat) : Int) else i2) > (if (if (if ((s1.length : Nat) : Int) < i2 then ((s1.length : Nat) : Int) else i2) > 0 then (if ((s1.length : Nat) : Int) < i2 then ((s1.length : Nat) : Int) else i2) else 0) < (if i1 > 0 then i1 else 0) then (if (if ((s1.length : Nat) : Int) < i2 then ((s1.length : Nat) : Int) else i2) > 0 then (if ((s1.length : Nat) : Int) < i2 then ((s1.length : Nat) : Int) else i2) else 0) else (if i1 > 0 then i1 else 0)) then (if ((s1.length : Nat) : Int) < i2 then ((s1.length : Nat) : Int) else i2) else (if (if (if ((s1.length : Nat) : Int) < i2 then ((s1.length : Nat) : Int) else i2) > 0 then (if ((s1.length : Nat) : Int) < i2 then ((s1.length : Nat) : Int) else i2) else 0) < (if i1 > 0 then i1 else 0) then (if (if ((s1.length : Nat) : Int) < i2 then ((s1.length : Nat) : Int) else i2) > 0 then (if ((s1.length : Nat) : Int) < i2 then ((s1.length : Nat) : Int) else i2) else 0) else (if i1 > 0 then i1 else 0)) : Int) ≤ ((s1.length : Nat) : Int))) <|
  need (decide (0 ≤ (if (if (if ((s1.length : Nat) : Int) < i2 then ((s1.length : Nat) : Int) else i2) > 0 then (if ((s1.length : Nat) : Int) < i2 then ((s1.length : Nat) : Int) else i2) else 0) < (if i1 > 0 then i1 else 0) then (if (if ((s1.length : Nat) : Int) < i2 then ((s1.length : Nat) : Int) else i2) > 0 then (if ((s1.length : Nat) : Int) < i2 then ((s1.length : Nat) : Int) else i2) else 0) else (if i1 > 0 then i1 else 0) : Int)) && decide ((if (if (if ((s1.length : Nat) : Int) < i2 then ((s1.length : Nat) : Int) else i2) > 0 then (if ((s1.length : Nat) : Int) < i2 then ((s1.length : Nat) : Int) else i2) else 0) < (if i1 > 0 then i1 else 0) then (if (if ((s1.length : Nat) : Int) < i2 then ((s1.length : Nat) : Int) else i2) > 0 then (if ((s1.length : Nat) : Int) < i2 then ((s1.length : Nat) : Int) else i2) else 0) else (if i1 > 0 then i1 else 0) : Int) ≤ ((Int.toNat (if (if ((s1.length : Nat) : Int) < i2 then ((s1.length : Nat) : Int) else i2) > (if (if (if ((s1.length : Nat) : Int) < i2 then ((s1.length : Nat) : Int) else i2) > 0 then (if ((s1.length : Nat) : Int) < i2 then ((s1.length : Nat) : Int) else i2) else 0) < (if i1 > 0 then i1 else 0) then (if (if ((s1.length : Nat) : Int) < i2 then ((s1.length : Nat) : Int) else i2) > 0 then (if ((s1.length : Nat) : Int) < i2 then ((s1.length : Nat) : Int) else i2) else 0) else (if i1 > 0 then i1 else 0)) then (if ((s1.length : Nat) : Int) < i2 then ((s1.length : Nat) : Int) else i2) else (if (if (if ((s1.length : Nat) : Int) < i2 then ((s1.length : Nat) : Int) else i2) > 0 then (if ((s1.length : Nat) : Int) < i2 then ((s1.length : Nat) : Int) else i2) else 0) < (if i1 > 0 then i1 else 0) then (if (if ((s1.length : Nat) : Int) < i2 then ((s1.length : Nat) : Int) else i2) > 0 then (if ((s1.length : Nat) : Int) < i2 then ((s1.length : Nat) : Int) else i2) else 0) else (if i1 > 0 then i1 else 0))) : Nat) : Int))) <|
  some ⟨AV.bytes ((s1.take (Int.toNat (if (if ((s1.length : Nat) : Int) < i2 then ((s1.length : Nat) : Int) else i2) > (if (if (if ((s1.length : Nat) : Int) < i2 then ((s1.length : Nat) : Int) else i2) > 0 then (if ((s1.length : Nat) : Int) < i2 then ((s1.length : Nat) : Int) else i2) else 0) < (if i1 > 0 then i1 else 0) then (if (if ((s1.length : Nat) : Int) < i2 then ((s1.length : Nat) : Int) else i2) > 0 then (if ((s1.length : Nat) : Int) < i2 then ((s1.length : Nat) : Int) else i2) else 0) else (if i1 > 0 then i1 else 0)) then (if ((s1.length : Nat) : Int) < i2 then ((s1.length : Nat) : Int) else i2) else (if (if (if ((s1.length : Nat) : Int) < i2 then ((s1.length : Nat) : Int) else i2) > 0 then (if ((s1.length : Nat) : Int) < i2 then ((s1.length : Nat) : Int) else i2) else 0) < (if i1 > 0 then i1 else 0) then (if (if ((s1.length : Nat) : Int) < i2 then ((s1.length : Nat) : Int) else i2) > 0 then (if ((s1.length : Nat) : Int) < i2 then ((s1.length : Nat) : Int) else i2) else 0) else (if i1 > 0 then i1 else 0))))).drop (Int.toNat (if (if (if ((s1.length : Nat) : Int) < i2 then ((s1.length : Nat) : Int) else i2) > 0 then (if ((s1.length : Nat) : Int) < i2 then ((s1.length : Nat) : Int) else i2) else 0) < (if i1 > 0 then i1 else 0) then (if (if ((s1.length : Nat) : Int) < i2 then ((s1.length : Nat) : Int) else i2) > 0 then (if ((s1.length : Nat) : Int) < i2 then ((s1.length : Nat) : Int) else i2) else 0) else (if i1 > 0 then i1 else 0)))), false, []⟩
theorem linesText_eq (R : Nat → List AV → Option Res) (N : Nat) (s1 : List UInt8) (i1 : Int) (i2 : Int) (i3 : Int) : runF gl R N linesText [AV.bytes s1, AV.agg [AV.int .i64 i1, AV.int .i64 i2, AV.int .i64 i3]] = linesTextr R N s1 i1 i2 i3 := by
  kernel_rfl
theorem linesText_fit : fitF Tryd.prog linesText Tryd.f47 = true := by
  kernel_rfl

def bytesTrimLeftByte_L1s (R : Nat → List AV → Option Res) (N : Nat) (go : List UInt8 → Int → Option Res) (k0 : List UInt8 → Option Res) (s2 : List UInt8) (i2 : Int) : Option Res :=
  bif decide ((((s2.length : Nat) : Int) : Int) > 0) then
    (need (decide (0 ≤ (0 : Int))) <|
    (s2[Int.toNat 0]?).bind fun c1 =>
    bif ((c1.toNat : Int) : Int) == i2 then
      (need (decide (0 ≤ (1 : Int)) && decide ((1 : Int) ≤ ((s2.length : Nat) : Int))) <|
      go ((s2.take s2.length).drop (Int.toNat 1)) i2)
    else
      k0 s2)
  else
    k0 s2
def bytesTrimLeftByte_L1 (R : Nat → List AV → Option Res) (N : Nat) (k0 : List UInt8 → Option Res) : Nat → List UInt8 → Int → Option Res
  | 0, _, _ => none
  | n + 1, s2, i2 => bytesTrimLeftByte_L1s R N (bytesTrimLeftByte_L1 R N k0 n) k0 s2 i2
def bytesTrimLeftByte_c0 : AC := .seq (.seq (.region [.op (some 5) none (.mv (.t 0)), .op (some 6) none (.len (.t 5) false), .op (some 7) none (.bin .gtr (.t 6) (.k (AV.int .i64 0))), .op (some 8) none (.mv (.t 7)), .split 8, .op (some 9) (some (8, true)) (.mv (.t 0)), .op (some 10) (some (8, true)) (.iaddr (.t 9) (.k (AV.int .i64 0)) 1 (.int .u8)), .op (some 11) (some (8, true)) (.load (.t 10) none (.int .u8)), .op (some 12) (some (8, true)) (.mv (.t 1)), .op (some 13) (some (8, true)) (.bin .eql (.t 11) (.t 12)), .op (some 14) none (.pick (.t 8) (.t 13) (.k (AV.bool false)))]) (.cond (.t 14) (.skip) (.exit 0 [0] []))) (.block 1 (.region [.op (some 15) none (.mv (.t 0)), .op (some 16) none (.slice (.t 15) (some (.k (AV.int .i64 1))) none 1), .op (some 0) none (.mv (.t 16))]))
theorem bytesTrimLeftByte_L1s_eq (R : Nat → List AV → Option Res) (N : Nat) (K : Ex → St → Option Res) (W : St → Option Res) (s2 : List UInt8) (i2 : Int) :
    evC gl R N bytesTrimLeftByte_c0 (Kseq (fun st' => W (prune [0, 1] [] st')) K) ⟨[(0, .imm (AV.bytes s2)), (1, .imm (AV.int .u8 i2))], []⟩ =
    bytesTrimLeftByte_L1s R N (fun (s2 : List UInt8) (i2 : Int) => W ⟨[(0, .imm (AV.bytes s2)), (1, .imm (AV.int .u8 i2))], []⟩) (fun (s3 : List UInt8) => K (.exit 0) ⟨[(0, .imm (AV.bytes s3))], []⟩) s2 i2 := by
  kernel_rfl
theorem bytesTrimLeftByte_L1_eq (R : Nat → List AV → Option Res) (N : Nat) (K : Ex → St → Option Res) : ∀ (n : Nat) (s2 : List UInt8) (i2 : Int),
    rounds [0, 1] [] (evC gl R N bytesTrimLeftByte_c0) K n ⟨[(0, .imm (AV.bytes s2)), (1, .imm (AV.int .u8 i2))], []⟩ = bytesTrimLeftByte_L1 R N (fun (s3 : List UInt8) => K (.exit 0) ⟨[(0, .imm (AV.bytes s3))], []⟩) n s2 i2
  | 0, _, _ => rfl
  | n + 1, s2, i2 => (bytesTrimLeftByte_L1s_eq R N K (rounds [0, 1] [] (evC gl R N bytesTrimLeftByte_c0) K n) s2 i2).trans
      (congrArg (fun go => bytesTrimLeftByte_L1s R N go (fun (s3 : List UInt8) => K (.exit 0) ⟨[(0, .imm (AV.bytes s3))], []⟩) s2 i2) (funext fun s2 => funext fun i2 => bytesTrimLeftByte_L1_eq R N K n s2 i2))
def bytesTrimLeftByte_c1 : AC := .seq (.seq (.region [.op (some 17) none (.mv (.t 0)), .op (some 18) none (.len (.t 17) false), .op (some 19) none (.bin .eql (.t 18) (.k (AV.int .i64 0)))]) (.cond (.t 19) (.seq (.region [.op (some 4) none (.mv (.k (AV.bytes [])))]) (.ret [4] [])) (.skip))) (.seq (.region [.op (some 20) none (.mv (.t 0)), .op (some 4) none (.mv (.t 20))]) (.ret [4] []))
def bytesTrimLeftByte_c2 : AC := .seq (.region [.op (some 4) none (.mv (.k (AV.bytes [])))]) (.seq (.block 0 (.loop [0, 1] [] (bytesTrimLeftByte_c0))) (bytesTrimLeftByte_c1))
def bytesTrimLeftByte : AFunc := ⟨2, 21, [.tmp 4], bytesTrimLeftByte_c2⟩
def bytesTrimLeftByter (R : Nat → List AV → Option Res) (N : Nat) (s1 : List UInt8) (i1 : Int) : Option Res :=
  bytesTrimLeftByte_L1 R N
    (fun s5 =>
      bif (((s5.length : Nat) : Int) : Int) == 0 then
        (some ⟨AV.bytes [], false, []⟩)
      else
        some ⟨AV.bytes s5, false, []⟩)
    N s1 i1
theorem bytesTrimLeftByte_eq (R : Nat → List AV → Option Res) (N : Nat) (s1 : List UInt8) (i1 : Int) : runF gl R N bytesTrimLeftByte [AV.bytes s1, AV.int .u8 i1] = bytesTrimLeftByter R N s1 i1 := by
  refine Eq.trans (b :=
      rounds [0, 1] [] (evC gl R N bytesTrimLeftByte_c0) (Kblock 0 (Kthen gl R N bytesTrimLeftByte_c1 (Kret bytesTrimLeftByte.rets))) N ⟨[(0, .imm (AV.bytes s1)), (1, .imm (AV.int .u8 i1))], []⟩) (by kernel_rfl) ?_
  simp (config := { maxSteps := 100000000 }) only [bytesTrimLeftByte_L1_eq]
  kernel_rfl
theorem bytesTrimLeftByte_fit : fitF Tryd.prog bytesTrimLeftByte Tryd.f52 = true := by
  kernel_rfl

def bytesMakeASCIISet : AFunc := ⟨1, 21, [.cell 2 256, .tmp 3], .stuck⟩
def bytesMakeASCIISetr (R : Nat → List AV → Option Res) (N : Nat) (s1 : List UInt8) : Option Res :=
  none
theorem bytesMakeASCIISet_eq (R : Nat → List AV → Option Res) (N : Nat) (s1 : List UInt8) : runF gl R N bytesMakeASCIISet [AV.str s1] = bytesMakeASCIISetr R N s1 := by
  kernel_rfl
theorem bytesMakeASCIISet_fit : fitF Tryd.prog bytesMakeASCIISet Tryd.f53 = true := by
  kernel_rfl

def bytesAsciiSetContains_c1 : AC := .seq (.region [.op (some 4) none (.mv (.k (AV.bool false)))]) (.stuck)
def bytesAsciiSetContains : AFunc := ⟨2, 10, [.tmp 4], bytesAsciiSetContains_c1⟩
def bytesAsciiSetContainsr (R : Nat → List AV → Option Res) (N : Nat) (v1 : AV) (i1 : Int) : Option Res :=
  none
theorem bytesAsciiSetContains_eq (R : Nat → List AV → Option Res) (N : Nat) (v1 : AV) (i1 : Int) : runF gl R N bytesAsciiSetContains [v1, AV.int .u8 i1] = bytesAsciiSetContainsr R N v1 i1 := by
  kernel_rfl
theorem bytesAsciiSetContains_fit : fitF Tryd.prog bytesAsciiSetContains Tryd.f56 = true := by
  kernel_rfl

def bytesTrimLeftASCII_L1s (R : Nat → List AV → Option Res) (N : Nat) (go : List UInt8 → AV → Option Res) (k0 : List UInt8 → Option Res) (s2 : List UInt8) (v2 : AV) : Option Res :=
  bif decide ((((s2.length : Nat) : Int) : Int) > 0) then
    (need (decide (0 ≤ (0 : Int))) <|
    (s2[Int.toNat 0]?).bind fun c1 =>
    (R id_bytesAsciiSetContains [v2, AV.int .u8 (c1.toNat : Int)]).bind fun r1 =>
    asB r1.v fun b1 =>
    bif !b1 then
      (k0 s2)
    else
      need (decide (0 ≤ (1 : Int)) && decide ((1 : Int) ≤ ((s2.length : Nat) : Int))) <|
      go ((s2.take s2.length).drop (Int.toNat 1)) v2)
  else
    k0 s2
def bytesTrimLeftASCII_L1 (R : Nat → List AV → Option Res) (N : Nat) (k0 : List UInt8 → Option Res) : Nat → List UInt8 → AV → Option Res
  | 0, _, _ => none
  | n + 1, s2, v2 => bytesTrimLeftASCII_L1s R N (bytesTrimLeftASCII_L1 R N k0 n) k0 s2 v2
def bytesTrimLeftASCII_c0 : AC := .seq (.seq (.region [.op (some 5) none (.mv (.t 0)), .op (some 6) none (.len (.t 5) false), .op (some 7) none (.bin .gtr (.t 6) (.k (AV.int .i64 0)))]) (.cond (.t 7) (.skip) (.exit 0 [0] []))) (.block 1 (.seq (.seq (.region [.op (some 8) none (.mv (.t 1)), .op (some 9) none (.mv (.t 0)), .op (some 10) none (.iaddr (.t 9) (.k (AV.int .i64 0)) 1 (.int .u8)), .op (some 11) none (.load (.t 10) none (.int .u8)), .op (some 12) none (.call id_bytesAsciiSetContains [.t 8, .t 11] (.bool)), .op (some 13) none (.un .not (.t 12))]) (.cond (.t 13) (.exit 0 [0] []) (.skip))) (.region [.op (some 14) none (.mv (.t 0)), .op (some 15) none (.slice (.t 14) (some (.k (AV.int .i64 1))) none 1), .op (some 0) none (.mv (.t 15))])))
theorem bytesTrimLeftASCII_L1s_eq (R : Nat → List AV → Option Res) (N : Nat) (K : Ex → St → Option Res) (W : St → Option Res) (s2 : List UInt8) (v2 : AV) :
    evC gl R N bytesTrimLeftASCII_c0 (Kseq (fun st' => W (prune [0, 1] [] st')) K) ⟨[(0, .imm (AV.bytes s2)), (1, .imm v2)], []⟩ =
    bytesTrimLeftASCII_L1s R N (fun (s2 : List UInt8) (v2 : AV) => W ⟨[(0, .imm (AV.bytes s2)), (1, .imm v2)], []⟩) (fun (s3 : List UInt8) => K (.exit 0) ⟨[(0, .imm (AV.bytes s3))], []⟩) s2 v2 := by
  kernel_rfl
theorem bytesTrimLeftASCII_L1_eq (R : Nat → List AV → Option Res) (N : Nat) (K : Ex → St → Option Res) : ∀ (n : Nat) (s2 : List UInt8) (v2 : AV),
    rounds [0, 1] [] (evC gl R N bytesTrimLeftASCII_c0) K n ⟨[(0, .imm (AV.bytes s2)), (1, .imm v2)], []⟩ = bytesTrimLeftASCII_L1 R N (fun (s3 : List UInt8) => K (.exit 0) ⟨[(0, .imm (AV.bytes s3))], []⟩) n s2 v2
  | 0, _, _ => rfl
  | n + 1, s2, v2 => (bytesTrimLeftASCII_L1s_eq R N K (rounds [0, 1] [] (evC gl R N bytesTrimLeftASCII_c0) K n) s2 v2).trans
      (congrArg (fun go => bytesTrimLeftASCII_L1s R N go (fun (s3 : List UInt8) => K (.exit 0) ⟨[(0, .imm (AV.bytes s3))], []⟩) s2 v2) (funext fun s2 => funext fun v2 => bytesTrimLeftASCII_L1_eq R N K n s2 v2))
def bytesTrimLeftASCII_c1 : AC := .seq (.seq (.region [.op (some 16) none (.mv (.t 0)), .op (some 17) none (.len (.t 16) false), .op (some 18) none (.bin .eql (.t 17) (.k (AV.int .i64 0)))]) (.cond (.t 18) (.seq (.region [.op (some 4) none (.mv (.k (AV.bytes [])))]) (.ret [4] [])) (.skip))) (.seq (.region [.op (some 19) none (.mv (.t 0)), .op (some 4) none (.mv (.t 19))]) (.ret [4] []))
def bytesTrimLeftASCII_c2 : AC := .seq (.region [.op (some 4) none (.mv (.k (AV.bytes [])))]) (.seq (.block 0 (.loop [0, 1] [] (bytesTrimLeftASCII_c0))) (bytesTrimLeftASCII_c1))
def bytesTrimLeftASCII : AFunc := ⟨2, 20, [.tmp 4], bytesTrimLeftASCII_c2⟩
def bytesTrimLeftASCIIr (R : Nat → List AV → Option Res) (N : Nat) (s1 : List UInt8) (v1 : AV) : Option Res :=
  bytesTrimLeftASCII_L1 R N
    (fun s5 =>
      bif (((s5.length : Nat) : Int) : Int) == 0 then
        (some ⟨AV.bytes [], false, []⟩)
      else
        some ⟨AV.bytes s5, false, []⟩)
    N s1 v1
theorem bytesTrimLeftASCII_eq (R : Nat → List AV → Option Res) (N : Nat) (s1 : List UInt8) (v1 : AV) : runF gl R N bytesTrimLeftASCII [AV.bytes s1, v1] = bytesTrimLeftASCIIr R N s1 v1 := by
  refine Eq.trans (b :=
      rounds [0, 1] [] (evC gl R N bytesTrimLeftASCII_c0) (Kblock 0 (Kthen gl R N bytesTrimLeftASCII_c1 (Kret bytesTrimLeftASCII.rets))) N ⟨[(0, .imm (AV.bytes s1)), (1, .imm v1)], []⟩) (by kernel_rfl) ?_
  simp (config := { maxSteps := 100000000 }) only [bytesTrimLeftASCII_L1_eq]
  kernel_rfl
theorem bytesTrimLeftASCII_fit : fitF Tryd.prog bytesTrimLeftASCII Tryd.f54 = true := by
  kernel_rfl

def bytesContainsRune_c1 : AC := .seq (.region [.op (some 4) none (.mv (.k (AV.bool false)))]) (.stuck)
def bytesContainsRune : AFunc := ⟨2, 15, [.tmp 4], bytesContainsRune_c1⟩
def bytesContainsRuner (R : Nat → List AV → Option Res) (N : Nat) (s1 : List UInt8) (i1 : Int) : Option Res :=
  none
theorem bytesContainsRune_eq (R : Nat → List AV → Option Res) (N : Nat) (s1 : List UInt8) (i1 : Int) : runF gl R N bytesContainsRune [AV.str s1, AV.int .i32 i1] = bytesContainsRuner R N s1 i1 := by
  kernel_rfl
theorem bytesContainsRune_fit : fitF Tryd.prog bytesContainsRune Tryd.f57 = true := by
  kernel_rfl

def bytesTrimLeftUnicode_L1s (R : Nat → List AV → Option Res) (N : Nat) (go : List UInt8 → List UInt8 → Option Res) (k0 : List UInt8 → Option Res) (s3 : List UInt8) (s4 : List UInt8) : Option Res :=
  bif decide ((((s3.length : Nat) : Int) : Int) > 0) then
    ((R id_unicodeUtf8DecodeRune [AV.bytes s3]).bind fun r1 =>
    asJIT r1.v fun i1 i2 =>
    none)
  else
    k0 s3
def bytesTrimLeftUnicode_L1 (R : Nat → List AV → Option Res) (N : Nat) (k0 : List UInt8 → Option Res) : Nat → List UInt8 → List UInt8 → Option Res
  | 0, _, _ => none
  | n + 1, s3, s4 => bytesTrimLeftUnicode_L1s R N (bytesTrimLeftUnicode_L1 R N k0 n) k0 s3 s4
def bytesTrimLeftUnicode_c1 : AC := .seq (.seq (.region [.op (some 7) none (.mv (.t 0)), .op (some 8) none (.len (.t 7) false), .op (some 9) none (.bin .gtr (.t 8) (.k (AV.int .i64 0)))]) (.cond (.t 9) (.skip) (.exit 0 [0] []))) (.block 1 (.seq (.region [.op (some 11) none (.mv (.t 0)), .op (some 12) none (.call id_unicodeUtf8DecodeRune [.t 11] (.tup [.int .i32, .int .i64])), .op (some 10) none (.mv (.t 12)), .op (some 13) none (.extract (.t 10) 0), .op (some 14) none (.extract (.t 10) 1), .op (some 5) none (.mv (.t 13)), .op (some 6) none (.mv (.t 14))]) (.stuck)))
theorem bytesTrimLeftUnicode_L1s_eq (R : Nat → List AV → Option Res) (N : Nat) (K : Ex → St → Option Res) (W : St → Option Res) (s3 : List UInt8) (s4 : List UInt8) :
    evC gl R N bytesTrimLeftUnicode_c1 (Kseq (fun st' => W (prune [0, 1] [] st')) K) ⟨[(0, .imm (AV.bytes s3)), (1, .imm (AV.str s4))], []⟩ =
    bytesTrimLeftUnicode_L1s R N (fun (s3 : List UInt8) (s4 : List UInt8) => W ⟨[(0, .imm (AV.bytes s3)), (1, .imm (AV.str s4))], []⟩) (fun (s5 : List UInt8) => K (.exit 0) ⟨[(0, .imm (AV.bytes s5))], []⟩) s3 s4 := by
  kernel_rfl
theorem bytesTrimLeftUnicode_L1_eq (R : Nat → List AV → Option Res) (N : Nat) (K : Ex → St → Option Res) : ∀ (n : Nat) (s3 : List UInt8) (s4 : List UInt8),
    rounds [0, 1] [] (evC gl R N bytesTrimLeftUnicode_c1) K n ⟨[(0, .imm (AV.bytes s3)), (1, .imm (AV.str s4))], []⟩ = bytesTrimLeftUnicode_L1 R N (fun (s5 : List UInt8) => K (.exit 0) ⟨[(0, .imm (AV.bytes s5))], []⟩) n s3 s4
  | 0, _, _ => rfl
  | n + 1, s3, s4 => (bytesTrimLeftUnicode_L1s_eq R N K (rounds [0, 1] [] (evC gl R N bytesTrimLeftUnicode_c1) K n) s3 s4).trans
      (congrArg (fun go => bytesTrimLeftUnicode_L1s R N go (fun (s5 : List UInt8) => K (.exit 0) ⟨[(0, .imm (AV.bytes s5))], []⟩) s3 s4) (funext fun s3 => funext fun s4 => bytesTrimLeftUnicode_L1_eq R N K n s3 s4))
def bytesTrimLeftUnicode_c2 : AC := .seq (.seq (.region [.op (some 22) none (.mv (.t 0)), .op (some 23) none (.len (.t 22) false), .op (some 24) none (.bin .eql (.t 23) (.k (AV.int .i64 0)))]) (.cond (.t 24) (.seq (.region [.op (some 4) none (.mv (.k (AV.bytes [])))]) (.ret [4] [])) (.skip))) (.seq (.region [.op (some 25) none (.mv (.t 0)), .op (some 4) none (.mv (.t 25))]) (.ret [4] []))
def bytesTrimLeftUnicode_c3 : AC := .seq (.region [.op (some 4) none (.mv (.k (AV.bytes [])))]) (.seq (.block 0 (.loop [0, 1] [] (bytesTrimLeftUnicode_c1))) (bytesTrimLeftUnicode_c2))
def bytesTrimLeftUnicode : AFunc := ⟨2, 26, [.tmp 4], bytesTrimLeftUnicode_c3⟩
def bytesTrimLeftUnicoder (R : Nat → List AV → Option Res) (N : Nat) (s1 : List UInt8) (s2 : List UInt8) : Option Res :=
  bytesTrimLeftUnicode_L1 R N
    (fun s7 =>
      bif (((s7.length : Nat) : Int) : Int) == 0 then
        (some ⟨AV.bytes [], false, []⟩)
      else
        some ⟨AV.bytes s7, false, []⟩)
    N s1 s2
theorem bytesTrimLeftUnicode_eq (R : Nat → List AV → Option Res) (N : Nat) (s1 : List UInt8) (s2 : List UInt8) : runF gl R N bytesTrimLeftUnicode [AV.bytes s1, AV.str s2] = bytesTrimLeftUnicoder R N s1 s2 := by
  refine Eq.trans (b :=
      rounds [0, 1] [] (evC gl R N bytesTrimLeftUnicode_c1) (Kblock 0 (Kthen gl R N bytesTrimLeftUnicode_c2 (Kret bytesTrimLeftUnicode.rets))) N ⟨[(0, .imm (AV.bytes s1)), (1, .imm (AV.str s2))], []⟩) (by kernel_rfl) ?_
  simp (config := { maxSteps := 100000000 }) only [bytesTrimLeftUnicode_L1_eq]
  kernel_rfl
theorem bytesTrimLeftUnicode_fit : fitF Tryd.prog bytesTrimLeftUnicode Tryd.f55 = true := by
  kernel_rfl

def bytesTrimLeft_c1 : AC := .seq (.region [.op (some 4) none (.mv (.k (AV.bytes [])))]) (.seq (.seq (.region [.op (some 7) none (.mv (.t 0)), .op (some 8) none (.len (.t 7) false), .op (some 9) none (.bin .eql (.t 8) (.k (AV.int .i64 0)))]) (.cond (.t 9) (.seq (.region [.op (some 4) none (.mv (.k (AV.bytes [])))]) (.ret [4] [])) (.skip))) (.seq (.seq (.region [.op (some 10) none (.mv (.t 1)), .op (some 11) none (.bin .eql (.t 10) (.k (AV.str [])))]) (.cond (.t 11) (.seq (.region [.op (some 12) none (.mv (.t 0)), .op (some 4) none (.mv (.t 12))]) (.ret [4] [])) (.skip))) (.seq (.seq (.region [.op (some 13) none (.mv (.t 1)), .op (some 14) none (.len (.t 13) true), .op (some 15) none (.bin .eql (.t 14) (.k (AV.int .i64 1))), .op (some 16) none (.mv (.t 15)), .split 16, .op (some 17) (some (16, true)) (.mv (.t 1)), .op (some 18) (some (16, true)) (.index (.t 17) (.k (AV.int .i64 0))), .op (some 19) (some (16, true)) (.bin .lss (.t 18) (.k (AV.int .u8 128))), .op (some 20) none (.pick (.t 16) (.t 19) (.k (AV.bool false)))]) (.cond (.t 20) (.seq (.region [.op (some 21) none (.mv (.t 0)), .op (some 22) none (.mv (.t 1)), .op (some 23) none (.index (.t 22) (.k (AV.int .i64 0))), .op (some 24) none (.call id_bytesTrimLeftByte [.t 21, .t 23] (.bytes)), .op (some 4) none (.mv (.t 24))]) (.ret [4] [])) (.skip))) (.stuck))))
def bytesTrimLeft : AFunc := ⟨2, 36, [.tmp 4], bytesTrimLeft_c1⟩
def bytesTrimLeftr (R : Nat → List AV → Option Res) (N : Nat) (s1 : List UInt8) (s2 : List UInt8) : Option Res :=
  bif (((s1.length : Nat) : Int) : Int) == 0 then
    (some ⟨AV.bytes [], false, []⟩)
  else
    bif s2 == [] then
      (some ⟨AV.bytes s1, false, []⟩)
    else
      bif (((s2.length : Nat) : Int) : Int) == 1 then
        (need (decide (0 ≤ (0 : Int))) <|
        (s2[Int.toNat 0]?).bind fun c1 =>
        bif decide (((c1.toNat : Int) : Int) < 128) then
          (need (decide (0 ≤ (0 : Int))) <|
          (s2[Int.toNat 0]?).bind fun c2 =>
          (R id_bytesTrimLeftByte [AV.bytes s1, AV.int .u8 (c2.toNat : Int)]).bind fun r1 =>
          asY r1.v fun s3 =>
          some ⟨AV.bytes s3, false, []⟩)
        else
          none)
      else
        none
theorem bytesTrimLeft_eq (R : Nat → List AV → Option Res) (N : Nat) (s1 : List UInt8) (s2 : List UInt8) : runF gl R N bytesTrimLeft [AV.bytes s1, AV.str s2] = bytesTrimLeftr R N s1 s2 := by
  kernel_rfl
theorem bytesTrimLeft_fit : fitF Tryd.prog bytesTrimLeft Tryd.f48 = true := by
  kernel_rfl

def linesIndent_c0 : AC := .seq (.region [.op (some 3) none (.box 1003 (.t 1) 3), .op (some 4) none (.mv (.k (AV.int .i64 0)))]) (.seq (.region [.op (some 6) none (.mv (.t 0)), .op (some 7) none (.load (.t 3) (some 3) (.agg [.int .i64, .int .i64, .int .i64])), .op (some 8) none (.call id_linesText [.t 6, .t 7] (.bytes)), .op (some 5) none (.mv (.t 8))]) (.seq (.region [.op (some 9) none (.mv (.t 5)), .op (some 10) none (.len (.t 9) false), .op (some 11) none (.mv (.t 5)), .op (some 12) none (.call id_bytesTrimLeft [.t 11, .k (AV.str [32])] (.bytes)), .op (some 13) none (.len (.t 12) false), .op (some 14) none (.bin .sub (.t 10) (.t 13)), .op (some 4) none (.mv (.t 14))]) (.ret [4] [])))
def linesIndent : AFunc := ⟨2, 15, [.tmp 4], linesIndent_c0⟩
def linesIndentr (R : Nat → List AV → Option Res) (N : Nat) (s1 : List UInt8) (i1 : Int) (i2 : Int) (i3 : Int) : Option Res :=
  (R id_linesText [AV.bytes s1, AV.agg [AV.int .i64 i1, AV.int .i64 i2, AV.int .i64 i3]]).bind fun r1 =>
  asY r1.v fun s2 =>
  (R id_bytesTrimLeft [AV.bytes s2, AV.str [32]]).bind fun r2 =>
  asY r2.v fun s3 =>
  some ⟨AV.int .i64 (IntKind.i64.wrap (((s2.length : Nat) : Int) - ((s3.length : Nat) : Int))), false, []⟩
theorem linesIndent_eq (R : Nat → List AV → Option Res) (N : Nat) (s1 : List UInt8) (i1 : Int) (i2 : Int) (i3 : Int) : runF gl R N linesIndent [AV.bytes s1, AV.agg [AV.int .i64 i1, AV.int .i64 i2, AV.int .i64 i3]] = linesIndentr R N s1 i1 i2 i3 := by
  kernel_rfl
theorem linesIndent_fit : fitF Tryd.prog linesIndent Tryd.f30 = true := by
  kernel_rfl

def linesBlank_c0 : AC := .seq (.region [.op (some 3) none (.box 1003 (.t 1) 3), .op (some 4) none (.mv (.k (AV.bool false)))]) (.seq (.regionD [4] [] [.op (some 5) none (.mv (.t 0)), .op (some 6) none (.load (.t 3) (some 3) (.agg [.int .i64, .int .i64, .int .i64])), .op (some 7) none (.call id_linesIndent [.t 5, .t 6] (.int .i64)), .op (some 8) none (.mv (.t 0)), .op (some 9) none (.load (.t 3) (some 3) (.agg [.int .i64, .int .i64, .int .i64])), .op (some 10) none (.call id_linesText [.t 8, .t 9] (.bytes)), .op (some 11) none (.len (.t 10) false), .op (some 12) none (.bin .eql (.t 7) (.t 11)), .op (some 4) none (.mv (.t 12))] []) (.ret [4] []))
def linesBlank : AFunc := ⟨2, 13, [.tmp 4], linesBlank_c0⟩
def linesBlankr (R : Nat → List AV → Option Res) (N : Nat) (s1 : List UInt8) (i1 : Int) (i2 : Int) (i3 : Int) : Option Res :=
  (R id_linesIndent [AV.bytes s1, AV.agg [AV.int .i64 i1, AV.int .i64 i2, AV.int .i64 i3]]).bind fun r1 =>
  asI .i64 r1.v fun i4 =>
  (R id_linesText [AV.bytes s1, AV.agg [AV.int .i64 i1, AV.int .i64 i2, AV.int .i64 i3]]).bind fun r2 =>
  asY r2.v fun s2 =>
  some ⟨AV.bool ((i4 : Int) == ((s2.length : Nat) : Int)), false, []⟩
theorem linesBlank_eq (R : Nat → List AV → Option Res) (N : Nat) (s1 : List UInt8) (i1 : Int) (i2 : Int) (i3 : Int) : runF gl R N linesBlank [AV.bytes s1, AV.agg [AV.int .i64 i1, AV.int .i64 i2, AV.int .i64 i3]] = linesBlankr R N s1 i1 i2 i3 := by
  kernel_rfl
theorem linesBlank_fit : fitF Tryd.prog linesBlank Tryd.f31 = true := by
  kernel_rfl

def linesBreak_L1s (R : Nat → List AV → Option Res) (N : Nat) (go : List UInt8 → List AV → Int → Int → Option Res) (k0 : List UInt8 → Option Res) (k1 : Option Res) (s2 : List UInt8) (l2 : List AV) (i1 : Int) (i2 : Int) : Option Res :=
  bif decide ((i2 : Int) < i1) then
    (need (decide (0 ≤ (i2 : Int))) <|
    (l2[Int.toNat i2]?).bind fun e1 =>
    asIIIA e1 fun i3 i4 i5 =>
    bif decide ((i5 : Int) > i4) then
      (need (decide (0 ≤ (i5 : Int)) && decide ((i5 : Int) ≤ ((s2.length : Nat) : Int))) <|
      need (decide (0 ≤ (i4 : Int)) && decide ((i4 : Int) ≤ ((Int.toNat i5 : Nat) : Int))) <|
      k0 ((s2.take (Int.toNat i5)).drop (Int.toNat i4)))
    else
      k1)
  else
    k1
def linesBreak_L1 (R : Nat → List AV → Option Res) (N : Nat) (k0 : List UInt8 → Option Res) (k1 : Option Res) : Nat → List UInt8 → List AV → Int → Int → Option Res
  | 0, _, _, _, _ => none
  | n + 1, s2, l2, i1, i2 => linesBreak_L1s R N (linesBreak_L1 R N k0 k1 n) k0 k1 s2 l2 i1 i2
def linesBreak_c0 : AC := .seq (.region [.op (some 9) none (.bin .lss (.t 8) (.t 7))]) (.seq (.cond (.t 9) (.skip) (.exit 0 [] [])) (.seq (.block 1 (.seq (.region [.op (some 10) none (.iaddr (.t 6) (.t 8) 3 (.agg [.int .i64, .int .i64, .int .i64])), .op (some 11) none (.load (.t 10) (some 3) (.agg [.int .i64, .int .i64, .int .i64])), .op (some 4) none (.alloc 1004 [AV.int .i64 0, AV.int .i64 0, AV.int .i64 0]), .op none none (.store (.t 4) (.t 11) 3)]) (.seq (.seq (.region [.op (some 12) none (.faddr (.t 4) 2), .op (some 13) none (.load (.t 12) none (.int .i64)), .op (some 14) none (.faddr (.t 4) 1), .op (some 15) none (.load (.t 14) none (.int .i64)), .op (some 16) none (.bin .gtr (.t 13) (.t 15))]) (.cond (.t 16) (.seq (.region [.op (some 17) none (.mv (.t 0)), .op (some 18) none (.faddr (.t 4) 1), .op (some 19) none (.load (.t 18) none (.int .i64)), .op (some 20) none (.faddr (.t 4) 2), .op (some 21) none (.load (.t 20) none (.int .i64)), .op (some 22) none (.slice (.t 17) (some (.t 19)) (some (.t 21)) 1), .op (some 23) none (.cvStr (.t 22)), .op (some 2) none (.mv (.t 23))]) (.ret [2] [])) (.skip))) (.exit 0 [] [])))) (.region [.op (some 24) none (.bin .add (.t 8) (.k (AV.int .i64 1))), .op (some 8) none (.mv (.t 24))])))
theorem linesBreak_L1s_eq (R : Nat → List AV → Option Res) (N : Nat) (K : Ex → St → Option Res) (W : St → Option Res) (s2 : List UInt8) (l2 : List AV) (i1 : Int) (i2 : Int) :
    evC gl R N linesBreak_c0 (Kseq (fun st' => W (prune [0, 6, 7, 8] [] st')) K) ⟨[(0, .imm (AV.bytes s2)), (6, .imm (AV.row 3 l2)), (7, .imm (AV.int .i64 i1)), (8, .imm (AV.int .i64 i2))], []⟩ =
    linesBreak_L1s R N (fun (s2 : List UInt8) (l2 : List AV) (i1 : Int) (i2 : Int) => W ⟨[(0, .imm (AV.bytes s2)), (6, .imm (AV.row 3 l2)), (7, .imm (AV.int .i64 i1)), (8, .imm (AV.int .i64 i2))], []⟩) (fun (s3 : List UInt8) => K .ret ⟨[(2, .imm (AV.str s3))], []⟩) (K (.exit 0) ⟨[], []⟩) s2 l2 i1 i2 := by
  kernel_rfl
theorem linesBreak_L1_eq (R : Nat → List AV → Option Res) (N : Nat) (K : Ex → St → Option Res) : ∀ (n : Nat) (s2 : List UInt8) (l2 : List AV) (i1 : Int) (i2 : Int),
    rounds [0, 6, 7, 8] [] (evC gl R N linesBreak_c0) K n ⟨[(0, .imm (AV.bytes s2)), (6, .imm (AV.row 3 l2)), (7, .imm (AV.int .i64 i1)), (8, .imm (AV.int .i64 i2))], []⟩ = linesBreak_L1 R N (fun (s3 : List UInt8) => K .ret ⟨[(2, .imm (AV.str s3))], []⟩) (K (.exit 0) ⟨[], []⟩) n s2 l2 i1 i2
  | 0, _, _, _, _ => rfl
  | n + 1, s2, l2, i1, i2 => (linesBreak_L1s_eq R N K (rounds [0, 6, 7, 8] [] (evC gl R N linesBreak_c0) K n) s2 l2 i1 i2).trans
      (congrArg (fun go => linesBreak_L1s R N go (fun (s3 : List UInt8) => K .ret ⟨[(2, .imm (AV.str s3))], []⟩) (K (.exit 0) ⟨[], []⟩) s2 l2 i1 i2) (funext fun s2 => funext fun l2 => funext fun i1 => funext fun i2 => linesBreak_L1_eq R N K n s2 l2 i1 i2))
def linesBreak_c1 : AC := .seq (.region [.op (some 2) none (.mv (.k (AV.str [10])))]) (.ret [2] [])
def linesBreak_c2 : AC := .seq (.region [.op (some 2) none (.mv (.k (AV.str [])))]) (.seq (.seq (.region [.op (some 5) none (.mv (.t 0)), .op (some 6) none (.call id_linesSplit [.t 5] (.row 3)), .op (some 7) none (.len (.t 6) false), .op (some 8) none (.mv (.k (AV.int .i64 0)))]) (.block 0 (.loop [0, 6, 7, 8] [] (linesBreak_c0)))) (linesBreak_c1))
def linesBreak : AFunc := ⟨1, 25, [.tmp 2], linesBreak_c2⟩
def linesBreakr (R : Nat → List AV → Option Res) (N : Nat) (s1 : List UInt8) : Option Res :=
  (R id_linesSplit [AV.bytes s1]).bind fun r1 =>
  asR 3 r1.v fun l1 =>
  linesBreak_L1 R N
    (fun s5 =>
      some ⟨AV.str s5, false, []⟩)
    (
      some ⟨AV.str [10], false, []⟩)
    N s1 l1 ((l1.length : Nat) : Int) 0
theorem linesBreak_eq (R : Nat → List AV → Option Res) (N : Nat) (s1 : List UInt8) : runF gl R N linesBreak [AV.bytes s1] = linesBreakr R N s1 := by
  refine Eq.trans (b :=
      (R id_linesSplit [AV.bytes s1]).bind fun r1 =>
      asR 3 r1.v fun l1 =>
      rounds [0, 6, 7, 8] [] (evC gl R N linesBreak_c0) (Kblock 0 (Kthen gl R N linesBreak_c1 (Kret linesBreak.rets))) N ⟨[(0, .imm (AV.bytes s1)), (6, .imm (AV.row 3 l1)), (7, .imm (AV.int .i64 ((l1.length : Nat) : Int))), (8, .imm (AV.int .i64 0))], []⟩) (by kernel_rfl) ?_
  simp (config := { maxSteps := 100000000 }) only [linesBreak_L1_eq]
  kernel_rfl
theorem linesBreak_fit : fitF Tryd.prog linesBreak Tryd.f32 = true := by
  kernel_rfl

def law02Wakes_c0 : AC := .seq (.region [.op (some 0) none (.mv (.k (AV.bool false)))]) (.seq (.region [.op (some 1) none (.bsliceOwn 1 [.k (AV.int .u8 97), .k (AV.int .u8 13), .k (AV.int .u8 10)] 1 .any true), .op (some 2) none (.cvSame (.t 1)), .op (some 3) none (.call id_linesSplit [.t 2] (.row 3)), .op (some 4) none (.len (.t 3) false), .op (some 5) none (.bin .eql (.t 4) (.k (AV.int .i64 1))), .op (some 0) none (.mv (.t 5))]) (.ret [0] []))
def law02Wakes : AFunc := ⟨0, 6, [.tmp 0], law02Wakes_c0⟩
def law02Wakesr (R : Nat → List AV → Option Res) (N : Nat) : Option Res :=
  (R id_linesSplit [AV.bytes (([97, 13, 10].drop 0).take 3)]).bind fun r1 =>
  asR 3 r1.v fun l1 =>
  some ⟨AV.bool ((((l1.length : Nat) : Int) : Int) == 1), false, []⟩
theorem law02Wakes_eq (R : Nat → List AV → Option Res) (N : Nat) : runF gl R N law02Wakes [] = law02Wakesr R N := by
  kernel_rfl
theorem law02Wakes_fit : fitF Tryd.prog law02Wakes Tryd.f33 = true := by
  kernel_rfl

def law02LinesBlanks_L1s (R : Nat → List AV → Option Res) (N : Nat) (go : Int → List UInt8 → Bool → List UInt8 → Int → Option Res) (k0 : Int → List UInt8 → Bool → List UInt8 → Option Res) (i3 : Int) (s2 : List UInt8) (b2 : Bool) (s3 : List UInt8) (i4 : Int) : Option Res :=
  bif decide ((i4 : Int) < i3) then
    (need (decide (s3.length + [32].length ≤ 9223372036854775807)) <|
    go i3 s2 b2 (s3 ++ [32]) (IntKind.i64.wrap (i4 + 1)))
  else
    k0 i3 s2 b2 s3
def law02LinesBlanks_L1 (R : Nat → List AV → Option Res) (N : Nat) (k0 : Int → List UInt8 → Bool → List UInt8 → Option Res) : Nat → Int → List UInt8 → Bool → List UInt8 → Int → Option Res
  | 0, _, _, _, _, _ => none
  | n + 1, i3, s2, b2, s3, i4 => law02LinesBlanks_L1s R N (law02LinesBlanks_L1 R N k0 n) k0 i3 s2 b2 s3 i4
def law02LinesBlanks_c0 : AC := .seq (.seq (.region [.op (some 17) none (.mv (.t 8)), .op (some 18) none (.mv (.t 0)), .op (some 19) none (.bin .lss (.t 17) (.t 18))]) (.cond (.t 19) (.skip) (.exit 0 [0, 1, 2, 7] []))) (.seq (.block 1 (.region [.op (some 22) none (.mv (.t 7)), .op (some 23) none (.bin .add (.t 22) (.k (AV.str [32]))), .op (some 7) none (.mv (.t 23))])) (.region [.op (some 20) none (.mv (.t 8)), .op (some 21) none (.bin .add (.t 20) (.k (AV.int .i64 1))), .op (some 8) none (.mv (.t 21))]))
theorem law02LinesBlanks_L1s_eq (R : Nat → List AV → Option Res) (N : Nat) (K : Ex → St → Option Res) (W : St → Option Res) (i3 : Int) (s2 : List UInt8) (b2 : Bool) (s3 : List UInt8) (i4 : Int) :
    evC gl R N law02LinesBlanks_c0 (Kseq (fun st' => W (prune [0, 1, 2, 7, 8] [] st')) K) ⟨[(0, .imm (AV.int .i64 i3)), (1, .imm (AV.str s2)), (2, .imm (AV.bool b2)), (7, .imm (AV.str s3)), (8, .imm (AV.int .i64 i4))], []⟩ =
    law02LinesBlanks_L1s R N (fun (i3 : Int) (s2 : List UInt8) (b2 : Bool) (s3 : List UInt8) (i4 : Int) => W ⟨[(0, .imm (AV.int .i64 i3)), (1, .imm (AV.str s2)), (2, .imm (AV.bool b2)), (7, .imm (AV.str s3)), (8, .imm (AV.int .i64 i4))], []⟩) (fun (i5 : Int) (s4 : List UInt8) (b3 : Bool) (s5 : List UInt8) => K (.exit 0) ⟨[(0, .imm (AV.int .i64 i5)), (1, .imm (AV.str s4)), (2, .imm (AV.bool b3)), (7, .imm (AV.str s5))], []⟩) i3 s2 b2 s3 i4 := by
  kernel_rfl
theorem law02LinesBlanks_L1_eq (R : Nat → List AV → Option Res) (N : Nat) (K : Ex → St → Option Res) : ∀ (n : Nat) (i3 : Int) (s2 : List UInt8) (b2 : Bool) (s3 : List UInt8) (i4 : Int),
    rounds [0, 1, 2, 7, 8] [] (evC gl R N law02LinesBlanks_c0) K n ⟨[(0, .imm (AV.int .i64 i3)), (1, .imm (AV.str s2)), (2, .imm (AV.bool b2)), (7, .imm (AV.str s3)), (8, .imm (AV.int .i64 i4))], []⟩ = law02LinesBlanks_L1 R N (fun (i5 : Int) (s4 : List UInt8) (b3 : Bool) (s5 : List UInt8) => K (.exit 0) ⟨[(0, .imm (AV.int .i64 i5)), (1, .imm (AV.str s4)), (2, .imm (AV.bool b3)), (7, .imm (AV.str s5))], []⟩) n i3 s2 b2 s3 i4
  | 0, _, _, _, _, _ => rfl
  | n + 1, i3, s2, b2, s3, i4 => (law02LinesBlanks_L1s_eq R N K (rounds [0, 1, 2, 7, 8] [] (evC gl R N law02LinesBlanks_c0) K n) i3 s2 b2 s3 i4).trans
      (congrArg (fun go => law02LinesBlanks_L1s R N go (fun (i5 : Int) (s4 : List UInt8) (b3 : Bool) (s5 : List UInt8) => K (.exit 0) ⟨[(0, .imm (AV.int .i64 i5)), (1, .imm (AV.str s4)), (2, .imm (AV.bool b3)), (7, .imm (AV.str s5))], []⟩) i3 s2 b2 s3 i4) (funext fun i3 => funext fun s2 => funext fun b2 => funext fun s3 => funext fun i4 => law02LinesBlanks_L1_eq R N K n i3 s2 b2 s3 i4))
def law02LinesBlanks_L2s (R : Nat → List AV → Option Res) (N : Nat) (go : Int → Bool → List UInt8 → List UInt8 → Int → Int → Option Res) (k0 : Int → Bool → List UInt8 → Option Res) (i8 : Int) (b6 : Bool) (s11 : List UInt8) (s12 : List UInt8) (i9 : Int) (i10 : Int) : Option Res :=
  bif decide ((i10 : Int) < i9) then
    (need (decide (0 ≤ (i10 : Int))) <|
    (s12[Int.toNat i10]?).bind fun c1 =>
    bif ((c1.toNat : Int) : Int) != 10 then
      (bif ((c1.toNat : Int) : Int) != 13 then
        (bif ((c1.toNat : Int) : Int) != 32 then
          (need (decide (0 ≤ ((c1.toNat : Int) : Int)) && decide (((c1.toNat : Int) : Int) < 256)) <|
          need (decide (s11.length + [UInt8.ofNat (Int.toNat (c1.toNat : Int))].length ≤ 9223372036854775807)) <|
          go i8 b6 (s11 ++ [UInt8.ofNat (Int.toNat (c1.toNat : Int))]) s12 i9 (IntKind.i64.wrap (i10 + 1)))
        else
          go i8 b6 s11 s12 i9 (IntKind.i64.wrap (i10 + 1)))
      else
        go i8 b6 s11 s12 i9 (IntKind.i64.wrap (i10 + 1)))
    else
      go i8 b6 s11 s12 i9 (IntKind.i64.wrap (i10 + 1)))
  else
    k0 i8 b6 s11
def law02LinesBlanks_L2 (R : Nat → List AV → Option Res) (N : Nat) (k0 : Int → Bool → List UInt8 → Option Res) : Nat → Int → Bool → List UInt8 → List UInt8 → Int → Int → Option Res
  | 0, _, _, _, _, _, _ => none
  | n + 1, i8, b6, s11, s12, i9, i10 => law02LinesBlanks_L2s R N (law02LinesBlanks_L2 R N k0 n) k0 i8 b6 s11 s12 i9 i10
def law02LinesBlanks_c1 : AC := .seq (.region [.op (some 29) none (.bin .lss (.t 28) (.t 27))]) (.seq (.cond (.t 29) (.skip) (.exit 2 [0, 2, 7] [])) (.seq (.block 3 (.seq (.region [.op (some 30) none (.iaddr (.t 26) (.t 28) 1 (.int .u8)), .op (some 31) none (.load (.t 30) none (.int .u8)), .op (some 10) none (.mv (.t 31))]) (.seq (.region [.op (some 32) none (.mv (.t 10)), .op (some 33) none (.bin .neq (.t 32) (.k (AV.int .u8 10))), .op (some 34) none (.mv (.t 33)), .split 34, .op (some 35) (some (34, true)) (.mv (.t 10)), .op (some 36) (some (34, true)) (.bin .neq (.t 35) (.k (AV.int .u8 13))), .op (some 37) none (.pick (.t 34) (.t 36) (.k (AV.bool false))), .op (some 38) none (.mv (.t 37)), .split 38, .op (some 39) (some (38, true)) (.mv (.t 10)), .op (some 40) (some (38, true)) (.bin .neq (.t 39) (.k (AV.int .u8 32))), .op (some 41) none (.pick (.t 38) (.t 40) (.k (AV.bool false)))]) (.cond (.t 41) (.region [.op (some 42) none (.mv (.t 7)), .op (some 43) none (.mv (.t 10)), .op (some 44) none (.bslice [.t 43] 1 true), .op (some 45) none (.cvStr (.t 44)), .op (some 46) none (.bin .add (.t 42) (.t 45)), .op (some 7) none (.mv (.t 46))]) (.skip))))) (.region [.op (some 47) none (.bin .add (.t 28) (.k (AV.int .i64 1))), .op (some 28) none (.mv (.t 47))])))
theorem law02LinesBlanks_L2s_eq (R : Nat → List AV → Option Res) (N : Nat) (K : Ex → St → Option Res) (W : St → Option Res) (i8 : Int) (b6 : Bool) (s11 : List UInt8) (s12 : List UInt8) (i9 : Int) (i10 : Int) :
    evC gl R N law02LinesBlanks_c1 (Kseq (fun st' => W (prune [0, 2, 7, 26, 27, 28] [] st')) K) ⟨[(0, .imm (AV.int .i64 i8)), (2, .imm (AV.bool b6)), (7, .imm (AV.str s11)), (26, .imm (AV.bytes s12)), (27, .imm (AV.int .i64 i9)), (28, .imm (AV.int .i64 i10))], []⟩ =
    law02LinesBlanks_L2s R N (fun (i8 : Int) (b6 : Bool) (s11 : List UInt8) (s12 : List UInt8) (i9 : Int) (i10 : Int) => W ⟨[(0, .imm (AV.int .i64 i8)), (2, .imm (AV.bool b6)), (7, .imm (AV.str s11)), (26, .imm (AV.bytes s12)), (27, .imm (AV.int .i64 i9)), (28, .imm (AV.int .i64 i10))], []⟩) (fun (i11 : Int) (b7 : Bool) (s13 : List UInt8) => K (.exit 2) ⟨[(0, .imm (AV.int .i64 i11)), (2, .imm (AV.bool b7)), (7, .imm (AV.str s13))], []⟩) i8 b6 s11 s12 i9 i10 := by
  kernel_rfl
theorem law02LinesBlanks_L2_eq (R : Nat → List AV → Option Res) (N : Nat) (K : Ex → St → Option Res) : ∀ (n : Nat) (i8 : Int) (b6 : Bool) (s11 : List UInt8) (s12 : List UInt8) (i9 : Int) (i10 : Int),
    rounds [0, 2, 7, 26, 27, 28] [] (evC gl R N law02LinesBlanks_c1) K n ⟨[(0, .imm (AV.int .i64 i8)), (2, .imm (AV.bool b6)), (7, .imm (AV.str s11)), (26, .imm (AV.bytes s12)), (27, .imm (AV.int .i64 i9)), (28, .imm (AV.int .i64 i10))], []⟩ = law02LinesBlanks_L2 R N (fun (i11 : Int) (b7 : Bool) (s13 : List UInt8) => K (.exit 2) ⟨[(0, .imm (AV.int .i64 i11)), (2, .imm (AV.bool b7)), (7, .imm (AV.str s13))], []⟩) n i8 b6 s11 s12 i9 i10
  | 0, _, _, _, _, _, _ => rfl
  | n + 1, i8, b6, s11, s12, i9, i10 => (law02LinesBlanks_L2s_eq R N K (rounds [0, 2, 7, 26, 27, 28] [] (evC gl R N law02LinesBlanks_c1) K n) i8 b6 s11 s12 i9 i10).trans
      (congrArg (fun go => law02LinesBlanks_L2s R N go (fun (i11 : Int) (b7 : Bool) (s13 : List UInt8) => K (.exit 2) ⟨[(0, .imm (AV.int .i64 i11)), (2, .imm (AV.bool b7)), (7, .imm (AV.str s13))], []⟩) i8 b6 s11 s12 i9 i10) (funext fun i8 => funext fun b6 => funext fun s11 => funext fun s12 => funext fun i9 => funext fun i10 => law02LinesBlanks_L2_eq R N K n i8 b6 s11 s12 i9 i10))
def law02LinesBlanks_c2 : AC := .seq (.region [.op (some 11) none (.mv (.k (AV.str [10])))]) (.seq (.seq (.region [.op (some 48) none (.mv (.t 2))]) (.cond (.t 48) (.region [.op (some 11) none (.mv (.k (AV.str [13, 10])))]) (.skip))) (.seq (.region [.op (some 49) none (.mv (.t 7)), .op (some 50) none (.mv (.t 11)), .op (some 51) none (.bin .add (.t 49) (.t 50)), .op (some 52) none (.cvBytes (.t 51)), .op (some 12) none (.mv (.t 52))]) (.seq (.region [.op (some 53) none (.mv (.t 12)), .op (some 54) none (.call id_linesSplit [.t 53] (.row 3)), .op (some 13) none (.mv (.t 54))]) (.seq (.seq (.region [.op (some 55) none (.mv (.t 13)), .op (some 56) none (.len (.t 55) false), .op (some 57) none (.bin .eql (.t 56) (.k (AV.int .i64 0)))]) (.cond (.t 57) (.seq (.region [.op (some 6) none (.mv (.k (AV.bool false)))]) (.ret [6] [])) (.skip))) (.seq (.region [.op (some 58) none (.mv (.t 0)), .op (some 59) none (.bin .eql (.t 58) (.k (AV.int .i64 0))), .op (some 60) none (.mv (.t 59)), .split 60, .op (some 61) (some (60, true)) (.mv (.t 13)), .op (some 62) (some (60, true)) (.iaddr (.t 61) (.k (AV.int .i64 0)) 3 (.agg [.int .i64, .int .i64, .int .i64])), .op (some 63) (some (60, true)) (.faddr (.t 62) 0), .op (some 64) (some (60, true)) (.load (.t 63) none (.int .i64)), .op (some 65) (some (60, true)) (.bin .eql (.t 64) (.k (AV.int .i64 3))), .op (some 66) none (.pick (.t 60) (.t 65) (.k (AV.bool false))), .op (some 14) none (.mv (.t 66))]) (.seq (.region [.op (some 67) none (.mv (.t 13)), .op (some 68) none (.len (.t 67) false), .op (some 69) none (.bin .eql (.t 68) (.k (AV.int .i64 1))), .op (some 70) none (.mv (.t 69)), .split 70, .op (some 71) (some (70, true)) (.mv (.t 14)), .op (some 72) (some (70, true)) (.mv (.t 71)), .split 72, .op (some 73) (some (72, false)) (.mv (.t 12)), .op (some 74) (some (72, false)) (.mv (.t 13)), .op (some 75) (some (72, false)) (.iaddr (.t 74) (.k (AV.int .i64 0)) 3 (.agg [.int .i64, .int .i64, .int .i64])), .op (some 76) (some (72, false)) (.load (.t 75) (some 3) (.agg [.int .i64, .int .i64, .int .i64])), .op (some 77) (some (72, false)) (.call id_linesIndent [.t 73, .t 76] (.int .i64)), .op (some 78) (some (72, false)) (.mv (.t 0)), .op (some 79) (some (72, false)) (.bin .eql (.t 77) (.t 78)), .op (some 80) (some (70, true)) (.pick (.t 72) (.k (AV.bool true)) (.t 79)), .op (some 81) none (.pick (.t 70) (.t 80) (.k (AV.bool false))), .op (some 82) none (.mv (.t 81)), .split 82, .op (some 83) (some (82, true)) (.mv (.t 14)), .op (some 84) (some (82, true)) (.mv (.t 83)), .split 84, .op (some 85) (some (84, false)) (.mv (.t 12)), .op (some 86) (some (84, false)) (.mv (.t 13)), .op (some 87) (some (84, false)) (.iaddr (.t 86) (.k (AV.int .i64 0)) 3 (.agg [.int .i64, .int .i64, .int .i64])), .op (some 88) (some (84, false)) (.load (.t 87) (some 3) (.agg [.int .i64, .int .i64, .int .i64])), .op (some 89) (some (84, false)) (.call id_linesBlank [.t 85, .t 88] (.bool)), .op (some 90) (some (84, false)) (.mv (.t 7)), .op (some 91) (some (84, false)) (.len (.t 90) true), .op (some 92) (some (84, false)) (.mv (.t 0)), .op (some 93) (some (84, false)) (.bin .eql (.t 91) (.t 92)), .op (some 94) (some (84, false)) (.binB .eql (.t 89) (.t 93)), .op (some 95) (some (82, true)) (.pick (.t 84) (.k (AV.bool true)) (.t 94)), .op (some 96) none (.pick (.t 82) (.t 95) (.k (AV.bool false))), .op (some 97) none (.mv (.t 96)), .split 97, .op (some 98) (some (97, true)) (.mv (.t 12)), .op (some 99) (some (97, true)) (.call id_linesBreak [.t 98] (.str)), .op (some 100) (some (97, true)) (.mv (.t 11)), .op (some 101) (some (97, true)) (.bin .eql (.t 99) (.t 100)), .op (some 102) none (.pick (.t 97) (.t 101) (.k (AV.bool false))), .op (some 103) none (.mv (.t 102)), .split 103, .op (some 104) (some (103, true)) (.mv (.t 13)), .op (some 105) (some (103, true)) (.iaddr (.t 104) (.k (AV.int .i64 0)) 3 (.agg [.int .i64, .int .i64, .int .i64])), .op (some 106) (some (103, true)) (.faddr (.t 105) 2), .op (some 107) (some (103, true)) (.load (.t 106) none (.int .i64)), .op (some 108) (some (103, true)) (.mv (.t 12)), .op (some 109) (some (103, true)) (.len (.t 108) false), .op (some 110) (some (103, true)) (.bin .eql (.t 107) (.t 109)), .op (some 111) none (.pick (.t 103) (.t 110) (.k (AV.bool false))), .op (some 112) none (.mv (.t 111)), .split 112, .op (some 113) (some (112, true)) (.call id_law02Wakes [] (.bool)), .op (some 114) none (.pick (.t 112) (.t 113) (.k (AV.bool false))), .op (some 6) none (.mv (.t 114))]) (.ret [6] [])))))))
def law02LinesBlanks_c3 : AC := .seq (.seq (.region [.op (some 24) none (.mv (.t 1)), .op (some 25) none (.call id_keepText [.t 24, .k (AV.int .i64 20)] (.str)), .op (some 26) none (.cvBytes (.t 25)), .op (some 27) none (.len (.t 26) false), .op (some 28) none (.mv (.k (AV.int .i64 0)))]) (.block 2 (.loop [0, 2, 7, 26, 27, 28] [] (law02LinesBlanks_c1)))) (law02LinesBlanks_c2)
def law02LinesBlanks_c4 : AC := .seq (.region [.op (some 6) none (.mv (.k (AV.bool false)))]) (.seq (.region [.op (some 15) none (.mv (.t 0)), .op (some 16) none (.call id_keepWithin [.t 15, .k (AV.int .i64 20)] (.int .i64)), .op (some 0) none (.mv (.t 16))]) (.seq (.region [.op (some 7) none (.mv (.k (AV.str [])))]) (.seq (.seq (.region [.op (some 8) none (.mv (.k (AV.int .i64 0)))]) (.block 0 (.loop [0, 1, 2, 7, 8] [] (law02LinesBlanks_c0)))) (law02LinesBlanks_c3))))
def law02LinesBlanks : AFunc := ⟨3, 115, [.tmp 6], law02LinesBlanks_c4⟩
def law02LinesBlanksr (R : Nat → List AV → Option Res) (N : Nat) (i1 : Int) (s1 : List UInt8) (b1 : Bool) : Option Res :=
  (R id_keepWithin [AV.int .i64 i1, AV.int .i64 20]).bind fun r1 =>
  asI .i64 r1.v fun i2 =>
  law02LinesBlanks_L1 R N
    (fun i7 s8 b5 s9 =>
      (R id_keepText [AV.str s8, AV.int .i64 20]).bind fun r2 =>
      asS r2.v fun s10 =>
      law02LinesBlanks_L2 R N
        (fun i13 b9 s15 =>
          bif b9 then
            (need (decide (s15.length + [13, 10].length ≤ 9223372036854775807)) <|
            (R id_linesSplit [AV.bytes (s15 ++ [13, 10])]).bind fun r3 =>
            asR 3 r3.v fun l1 =>
            bif (((l1.length : Nat) : Int) : Int) == 0 then
              (some ⟨AV.bool false, false, []⟩)
            else
              bif (i13 : Int) == 0 then
                (need (decide (0 ≤ (0 : Int))) <|
                (l1[Int.toNat 0]?).bind fun e1 =>
                asIIIA e1 fun i14 i15 i16 =>
                bif (((l1.length : Nat) : Int) : Int) == 1 then
                  (bif (i14 : Int) == 3 then
                    (bif (i14 : Int) == 3 then
                      ((R id_linesBreak [AV.bytes (s15 ++ [13, 10])]).bind fun r4 =>
                      asS r4.v fun s16 =>
                      bif s16 == [13, 10] then
                        (need (decide (0 ≤ (0 : Int))) <|
                        (l1[Int.toNat 0]?).bind fun e2 =>
                        asIIIA e2 fun i17 i18 i19 =>
                        bif (i19 : Int) == (((s15 ++ [13, 10]).length : Nat) : Int) then
                          ((R id_law02Wakes []).bind fun r5 =>
                          asB r5.v fun b10 =>
                          some ⟨AV.bool b10, false, []⟩)
                        else
                          some ⟨AV.bool false, false, []⟩)
                      else
                        some ⟨AV.bool false, false, []⟩)
                    else
                      need (decide (0 ≤ (0 : Int))) <|
                      (l1[Int.toNat 0]?).bind fun e3 =>
                      asIIIA e3 fun i20 i21 i22 =>
                      (R id_linesBlank [AV.bytes (s15 ++ [13, 10]), AV.agg [AV.int .i64 i20, AV.int .i64 i21, AV.int .i64 i22]]).bind fun r6 =>
                      asB r6.v fun b11 =>
                      bif b11 == ((((s15.length : Nat) : Int) : Int) == i13) then
                        ((R id_linesBreak [AV.bytes (s15 ++ [13, 10])]).bind fun r7 =>
                        asS r7.v fun s17 =>
                        bif s17 == [13, 10] then
                          (need (decide (0 ≤ (0 : Int))) <|
                          (l1[Int.toNat 0]?).bind fun e4 =>
                          asIIIA e4 fun i23 i24 i25 =>
                          bif (i25 : Int) == (((s15 ++ [13, 10]).length : Nat) : Int) then
                            ((R id_law02Wakes []).bind fun r8 =>
                            asB r8.v fun b12 =>
                            some ⟨AV.bool b12, false, []⟩)
                          else
                            some ⟨AV.bool false, false, []⟩)
                        else
                          some ⟨AV.bool false, false, []⟩)
                      else
                        some ⟨AV.bool false, false, []⟩)
                  else
                    need (decide (0 ≤ (0 : Int))) <|
                    (l1[Int.toNat 0]?).bind fun e5 =>
                    asIIIA e5 fun i26 i27 i28 =>
                    (R id_linesIndent [AV.bytes (s15 ++ [13, 10]), AV.agg [AV.int .i64 i26, AV.int .i64 i27, AV.int .i64 i28]]).bind fun r9 =>
                    asI .i64 r9.v fun i29 =>
                    bif (i29 : Int) == i13 then
                      (bif (i14 : Int) == 3 then
                        ((R id_linesBreak [AV.bytes (s15 ++ [13, 10])]).bind fun r10 =>
                        asS r10.v fun s18 =>
                        bif s18 == [13, 10] then
                          (need (decide (0 ≤ (0 : Int))) <|
                          (l1[Int.toNat 0]?).bind fun e6 =>
                          asIIIA e6 fun i30 i31 i32 =>
                          bif (i32 : Int) == (((s15 ++ [13, 10]).length : Nat) : Int) then
                            ((R id_law02Wakes []).bind fun r11 =>
                            asB r11.v fun b13 =>
                            some ⟨AV.bool b13, false, []⟩)
                          else
                            some ⟨AV.bool false, false, []⟩)
                        else
                          some ⟨AV.bool false, false, []⟩)
                      else
                        need (decide (0 ≤ (0 : Int))) <|
                        (l1[Int.toNat 0]?).bind fun e7 =>
                        asIIIA e7 fun i33 i34 i35 =>
                        (R id_linesBlank [AV.bytes (s15 ++ [13, 10]), AV.agg [AV.int .i64 i33, AV.int .i64 i34, AV.int .i64 i35]]).bind fun r12 =>
                        asB r12.v fun b14 =>
                        bif b14 == ((((s15.length : Nat) : Int) : Int) == i13) then
                          ((R id_linesBreak [AV.bytes (s15 ++ [13, 10])]).bind fun r13 =>
                          asS r13.v fun s19 =>
                          bif s19 == [13, 10] then
                            (need (decide (0 ≤ (0 : Int))) <|
                            (l1[Int.toNat 0]?).bind fun e8 =>
                            asIIIA e8 fun i36 i37 i38 =>
                            bif (i38 : Int) == (((s15 ++ [13, 10]).length : Nat) : Int) then
                              ((R id_law02Wakes []).bind fun r14 =>
                              asB r14.v fun b15 =>
                              some ⟨AV.bool b15, false, []⟩)
                            else
                              some ⟨AV.bool false, false, []⟩)
                          else
                            some ⟨AV.bool false, false, []⟩)
                        else
                          some ⟨AV.bool false, false, []⟩)
                    else
                      some ⟨AV.bool false, false, []⟩)
                else
                  some ⟨AV.bool false, false, []⟩)
              else
                bif (((l1.length : Nat) : Int) : Int) == 1 then
                  (need (decide (0 ≤ (0 : Int))) <|
                  (l1[Int.toNat 0]?).bind fun e9 =>
                  asIIIA e9 fun i39 i40 i41 =>
                  (R id_linesIndent [AV.bytes (s15 ++ [13, 10]), AV.agg [AV.int .i64 i39, AV.int .i64 i40, AV.int .i64 i41]]).bind fun r15 =>
                  asI .i64 r15.v fun i42 =>
                  bif (i42 : Int) == i13 then
                    (need (decide (0 ≤ (0 : Int))) <|
                    (l1[Int.toNat 0]?).bind fun e10 =>
                    asIIIA e10 fun i43 i44 i45 =>
                    (R id_linesBlank [AV.bytes (s15 ++ [13, 10]), AV.agg [AV.int .i64 i43, AV.int .i64 i44, AV.int .i64 i45]]).bind fun r16 =>
                    asB r16.v fun b16 =>
                    bif b16 == ((((s15.length : Nat) : Int) : Int) == i13) then
                      ((R id_linesBreak [AV.bytes (s15 ++ [13, 10])]).bind fun r17 =>
                      asS r17.v fun s20 =>
                      bif s20 == [13, 10] then
                        (need (decide (0 ≤ (0 : Int))) <|
                        (l1[Int.toNat 0]?).bind fun e11 =>
                        asIIIA e11 fun i46 i47 i48 =>
                        bif (i48 : Int) == (((s15 ++ [13, 10]).length : Nat) : Int) then
                          ((R id_law02Wakes []).bind fun r18 =>
                          asB r18.v fun b17 =>
                          some ⟨AV.bool b17, false, []⟩)
                        else
                          some ⟨AV.bool false, false, []⟩)
                      else
                        some ⟨AV.bool false, false, []⟩)
                    else
                      some ⟨AV.bool false, false, []⟩)
                  else
                    some ⟨AV.bool false, false, []⟩)
                else
                  some ⟨AV.bool false, false, []⟩)
          else
            need (decide (s15.length + [10].length ≤ 9223372036854775807)) <|
            (R id_linesSplit [AV.bytes (s15 ++ [10])]).bind fun r19 =>
            asR 3 r19.v fun l2 =>
            bif (((l2.length : Nat) : Int) : Int) == 0 then
              (some ⟨AV.bool false, false, []⟩)
            else
              bif (i13 : Int) == 0 then
                (need (decide (0 ≤ (0 : Int))) <|
                (l2[Int.toNat 0]?).bind fun e12 =>
                asIIIA e12 fun i49 i50 i51 =>
                bif (((l2.length : Nat) : Int) : Int) == 1 then
                  (bif (i49 : Int) == 3 then
                    (bif (i49 : Int) == 3 then
                      ((R id_linesBreak [AV.bytes (s15 ++ [10])]).bind fun r20 =>
                      asS r20.v fun s21 =>
                      bif s21 == [10] then
                        (need (decide (0 ≤ (0 : Int))) <|
                        (l2[Int.toNat 0]?).bind fun e13 =>
                        asIIIA e13 fun i52 i53 i54 =>
                        bif (i54 : Int) == (((s15 ++ [10]).length : Nat) : Int) then
                          ((R id_law02Wakes []).bind fun r21 =>
                          asB r21.v fun b18 =>
                          some ⟨AV.bool b18, false, []⟩)
                        else
                          some ⟨AV.bool false, false, []⟩)
                      else
                        some ⟨AV.bool false, false, []⟩)
                    else
                      need (decide (0 ≤ (0 : Int))) <|
                      (l2[Int.toNat 0]?).bind fun e14 =>
                      asIIIA e14 fun i55 i56 i57 =>
                      (R id_linesBlank [AV.bytes (s15 ++ [10]), AV.agg [AV.int .i64 i55, AV.int .i64 i56, AV.int .i64 i57]]).bind fun r22 =>
                      asB r22.v fun b19 =>
                      bif b19 == ((((s15.length : Nat) : Int) : Int) == i13) then
                        ((R id_linesBreak [AV.bytes (s15 ++ [10])]).bind fun r23 =>
                        asS r23.v fun s22 =>
                        bif s22 == [10] then
                          (need (decide (0 ≤ (0 : Int))) <|
                          (l2[Int.toNat 0]?).bind fun e15 =>
                          asIIIA e15 fun i58 i59 i60 =>
                          bif (i60 : Int) == (((s15 ++ [10]).length : Nat) : Int) then
                            ((R id_law02Wakes []).bind fun r24 =>
                            asB r24.v fun b20 =>
                            some ⟨AV.bool b20, false, []⟩)
                          else
                            some ⟨AV.bool false, false, []⟩)
                        else
                          some ⟨AV.bool false, false, []⟩)
                      else
                        some ⟨AV.bool false, false, []⟩)
                  else
                    need (decide (0 ≤ (0 : Int))) <|
                    (l2[Int.toNat 0]?).bind fun e16 =>
                    asIIIA e16 fun i61 i62 i63 =>
                    (R id_linesIndent [AV.bytes (s15 ++ [10]), AV.agg [AV.int .i64 i61, AV.int .i64 i62, AV.int .i64 i63]]).bind fun r25 =>
                    asI .i64 r25.v fun i64 =>
                    bif (i64 : Int) == i13 then
                      (bif (i49 : Int) == 3 then
                        ((R id_linesBreak [AV.bytes (s15 ++ [10])]).bind fun r26 =>
                        asS r26.v fun s23 =>
                        bif s23 == [10] then
                          (need (decide (0 ≤ (0 : Int))) <|
                          (l2[Int.toNat 0]?).bind fun e17 =>
                          asIIIA e17 fun i65 i66 i67 =>
                          bif (i67 : Int) == (((s15 ++ [10]).length : Nat) : Int) then
                            ((R id_law02Wakes []).bind fun r27 =>
                            asB r27.v fun b21 =>
                            some ⟨AV.bool b21, false, []⟩)
                          else
                            some ⟨AV.bool false, false, []⟩)
                        else
                          some ⟨AV.bool false, false, []⟩)
                      else
                        need (decide (0 ≤ (0 : Int))) <|
                        (l2[Int.toNat 0]?).bind fun e18 =>
                        asIIIA e18 fun i68 i69 i70 =>
                        (R id_linesBlank [AV.bytes (s15 ++ [10]), AV.agg [AV.int .i64 i68, AV.int .i64 i69, AV.int .i64 i70]]).bind fun r28 =>
                        asB r28.v fun b22 =>
                        bif b22 == ((((s15.length : Nat) : Int) : Int) == i13) then
                          ((R id_linesBreak [AV.bytes (s15 ++ [10])]).bind fun r29 =>
                          asS r29.v fun s24 =>
                          bif s24 == [10] then
                            (need (decide (0 ≤ (0 : Int))) <|
                            (l2[Int.toNat 0]?).bind fun e19 =>
                            asIIIA e19 fun i71 i72 i73 =>
                            bif (i73 : Int) == (((s15 ++ [10]).length : Nat) : Int) then
                              ((R id_law02Wakes []).bind fun r30 =>
                              asB r30.v fun b23 =>
                              some ⟨AV.bool b23, false, []⟩)
                            else
                              some ⟨AV.bool false, false, []⟩)
                          else
                            some ⟨AV.bool false, false, []⟩)
                        else
                          some ⟨AV.bool false, false, []⟩)
                    else
                      some ⟨AV.bool false, false, []⟩)
                else
                  some ⟨AV.bool false, false, []⟩)
              else
                bif (((l2.length : Nat) : Int) : Int) == 1 then
                  (need (decide (0 ≤ (0 : Int))) <|
                  (l2[Int.toNat 0]?).bind fun e20 =>
                  asIIIA e20 fun i74 i75 i76 =>
                  (R id_linesIndent [AV.bytes (s15 ++ [10]), AV.agg [AV.int .i64 i74, AV.int .i64 i75, AV.int .i64 i76]]).bind fun r31 =>
                  asI .i64 r31.v fun i77 =>
                  bif (i77 : Int) == i13 then
                    (need (decide (0 ≤ (0 : Int))) <|
                    (l2[Int.toNat 0]?).bind fun e21 =>
                    asIIIA e21 fun i78 i79 i80 =>
                    (R id_linesBlank [AV.bytes (s15 ++ [10]), AV.agg [AV.int .i64 i78, AV.int .i64 i79, AV.int .i64 i80]]).bind fun r32 =>
                    asB r32.v fun b24 =>
                    bif b24 == ((((s15.length : Nat) : Int) : Int) == i13) then
                      ((R id_linesBreak [AV.bytes (s15 ++ [10])]).bind fun r33 =>
                      asS r33.v fun s25 =>
                      bif s25 == [10] then
                        (need (decide (0 ≤ (0 : Int))) <|
                        (l2[Int.toNat 0]?).bind fun e22 =>
                        asIIIA e22 fun i81 i82 i83 =>
                        bif (i83 : Int) == (((s15 ++ [10]).length : Nat) : Int) then
                          ((R id_law02Wakes []).bind fun r34 =>
                          asB r34.v fun b25 =>
                          some ⟨AV.bool b25, false, []⟩)
                        else
                          some ⟨AV.bool false, false, []⟩)
                      else
                        some ⟨AV.bool false, false, []⟩)
                    else
                      some ⟨AV.bool false, false, []⟩)
                  else
                    some ⟨AV.bool false, false, []⟩)
                else
                  some ⟨AV.bool false, false, []⟩)
        N i7 b5 s9 s10 ((s10.length : Nat) : Int) 0)
    N i2 s1 b1 [] 0
theorem law02LinesBlanks_eq (R : Nat → List AV → Option Res) (N : Nat) (i1 : Int) (s1 : List UInt8) (b1 : Bool) : runF gl R N law02LinesBlanks [AV.int .i64 i1, AV.str s1, AV.bool b1] = law02LinesBlanksr R N i1 s1 b1 := by
  refine Eq.trans (b :=
      (R id_keepWithin [AV.int .i64 i1, AV.int .i64 20]).bind fun r1 =>
      asI .i64 r1.v fun i2 =>
      rounds [0, 1, 2, 7, 8] [] (evC gl R N law02LinesBlanks_c0) (Kblock 0 (Kthen gl R N law02LinesBlanks_c3 (Kret law02LinesBlanks.rets))) N ⟨[(0, .imm (AV.int .i64 i2)), (1, .imm (AV.str s1)), (2, .imm (AV.bool b1)), (7, .imm (AV.str [])), (8, .imm (AV.int .i64 0))], []⟩) (by kernel_rfl) ?_
  simp (config := { maxSteps := 100000000 }) only [law02LinesBlanks_L1_eq, law02LinesBlanks_L2_eq]
  refine Eq.trans (b :=
      (R id_keepWithin [AV.int .i64 i1, AV.int .i64 20]).bind fun r1 =>
      asI .i64 r1.v fun i2 =>
      law02LinesBlanks_L1 R N
        (fun i7 s8 b5 s9 =>
          (R id_keepText [AV.str s8, AV.int .i64 20]).bind fun r2 =>
          asS r2.v fun s10 =>
          rounds [0, 2, 7, 26, 27, 28] [] (evC gl R N law02LinesBlanks_c1) (Kblock 2 (Kthen gl R N law02LinesBlanks_c2 (Kret law02LinesBlanks.rets))) N ⟨[(0, .imm (AV.int .i64 i7)), (2, .imm (AV.bool b5)), (7, .imm (AV.str s9)), (26, .imm (AV.bytes s10)), (27, .imm (AV.int .i64 ((s10.length : Nat) : Int))), (28, .imm (AV.int .i64 0))], []⟩)
        N i2 s1 b1 [] 0) (by kernel_rfl) ?_
  simp (config := { maxSteps := 100000000 }) only [law02LinesBlanks_L1_eq, law02LinesBlanks_L2_eq]
  kernel_rfl
theorem law02LinesBlanks_fit : fitF Tryd.prog law02LinesBlanks Tryd.f11 = true := by
  kernel_rfl

def ref01Split_L2s (R : Nat → List AV → Option Res) (N : Nat) (go : List UInt8 → Int → Int → List AV → Option Res) (k0 : List UInt8 → Int → Int → List AV → Option Res) (s3 : List UInt8) (i2 : Int) (i3 : Int) (l2 : List AV) : Option Res :=
  bif decide ((i3 : Int) < ((s3.length : Nat) : Int)) then
    (need (decide (0 ≤ (i3 : Int))) <|
    (s3[Int.toNat i3]?).bind fun c1 =>
    bif ((c1.toNat : Int) : Int) != 10 then
      (go s3 i2 (IntKind.i64.wrap (i3 + 1)) l2)
    else
      k0 s3 i2 i3 l2)
  else
    k0 s3 i2 i3 l2
def ref01Split_L2 (R : Nat → List AV → Option Res) (N : Nat) (k0 : List UInt8 → Int → Int → List AV → Option Res) : Nat → List UInt8 → Int → Int → List AV → Option Res
  | 0, _, _, _, _ => none
  | n + 1, s3, i2, i3, l2 => ref01Split_L2s R N (ref01Split_L2 R N k0 n) k0 s3 i2 i3 l2
def ref01Split_c0 : AC := .seq (.seq (.region [.op (some 14) none (.mv (.t 5)), .op (some 15) none (.mv (.t 0)), .op (some 16) none (.len (.t 15) false), .op (some 17) none (.bin .lss (.t 14) (.t 16)), .op (some 18) none (.mv (.t 17)), .split 18, .op (some 19) (some (18, true)) (.mv (.t 0)), .op (some 20) (some (18, true)) (.mv (.t 5)), .op (some 21) (some (18, true)) (.iaddr (.t 19) (.t 20) 1 (.int .u8)), .op (some 22) (some (18, true)) (.load (.t 21) none (.int .u8)), .op (some 23) (some (18, true)) (.bin .neq (.t 22) (.k (AV.int .u8 10))), .op (some 24) none (.pick (.t 18) (.t 23) (.k (AV.bool false)))]) (.cond (.t 24) (.skip) (.exit 2 [0, 3, 4, 5] [3]))) (.block 3 (.region [.op (some 25) none (.mv (.t 5)), .op (some 26) none (.bin .add (.t 25) (.k (AV.int .i64 1))), .op (some 5) none (.mv (.t 26))]))
theorem ref01Split_L2s_eq (R : Nat → List AV → Option Res) (N : Nat) (K : Ex → St → Option Res) (W : St → Option Res) (s3 : List UInt8) (i2 : Int) (i3 : Int) (l2 : List AV) :
    evC gl R N ref01Split_c0 (Kseq (fun st' => W (prune [0, 3, 4, 5] [3] st')) K) ⟨[(0, .imm (AV.bytes s3)), (3, .own 3 0 l2.length none), (4, .imm (AV.int .i64 i2)), (5, .imm (AV.int .i64 i3))], [(3, .row 3 l2 false)]⟩ =
    ref01Split_L2s R N (fun (s3 : List UInt8) (i2 : Int) (i3 : Int) (l2 : List AV) => W ⟨[(0, .imm (AV.bytes s3)), (3, .own 3 0 l2.length none), (4, .imm (AV.int .i64 i2)), (5, .imm (AV.int .i64 i3))], [(3, .row 3 l2 false)]⟩) (fun (s4 : List UInt8) (i4 : Int) (i5 : Int) (l3 : List AV) => K (.exit 2) ⟨[(0, .imm (AV.bytes s4)), (3, .own 3 0 l3.length none), (4, .imm (AV.int .i64 i4)), (5, .imm (AV.int .i64 i5))], [(3, .row 3 l3 false)]⟩) s3 i2 i3 l2 := by
  kernel_rfl
theorem ref01Split_L2_eq (R : Nat → List AV → Option Res) (N : Nat) (K : Ex → St → Option Res) : ∀ (n : Nat) (s3 : List UInt8) (i2 : Int) (i3 : Int) (l2 : List AV),
    rounds [0, 3, 4, 5] [3] (evC gl R N ref01Split_c0) K n ⟨[(0, .imm (AV.bytes s3)), (3, .own 3 0 l2.length none), (4, .imm (AV.int .i64 i2)), (5, .imm (AV.int .i64 i3))], [(3, .row 3 l2 false)]⟩ = ref01Split_L2 R N (fun (s4 : List UInt8) (i4 : Int) (i5 : Int) (l3 : List AV) => K (.exit 2) ⟨[(0, .imm (AV.bytes s4)), (3, .own 3 0 l3.length none), (4, .imm (AV.int .i64 i4)), (5, .imm (AV.int .i64 i5))], [(3, .row 3 l3 false)]⟩) n s3 i2 i3 l2
  | 0, _, _, _, _ => rfl
  | n + 1, s3, i2, i3, l2 => (ref01Split_L2s_eq R N K (rounds [0, 3, 4, 5] [3] (evC gl R N ref01Split_c0) K n) s3 i2 i3 l2).trans
      (congrArg (fun go => ref01Split_L2s R N go (fun (s4 : List UInt8) (i4 : Int) (i5 : Int) (l3 : List AV) => K (.exit 2) ⟨[(0, .imm (AV.bytes s4)), (3, .own 3 0 l3.length none), (4, .imm (AV.int .i64 i4)), (5, .imm (AV.int .i64 i5))], [(3, .row 3 l3 false)]⟩) s3 i2 i3 l2) (funext fun s3 => funext fun i2 => funext fun i3 => funext fun l2 => ref01Split_L2_eq R N K n s3 i2 i3 l2))
def ref01Split_L1s (R : Nat → List AV → Option Res) (N : Nat) (go : List UInt8 → Int → List AV → Option Res) (k0 : List AV → Option Res) (s2 : List UInt8) (i1 : Int) (l1 : List AV) : Option Res :=
  bif decide ((i1 : Int) < ((s2.length : Nat) : Int)) then
    (ref01Split_L2 R N
      (fun s6 i8 i9 l5 =>
        bif decide ((i9 : Int) < ((s6.length : Nat) : Int)) then
          (bif decide ((i9 : Int) > i8) then
            (need (decide (0 ≤ (IntKind.i64.wrap (i9 - 1) : Int))) <|
            (s6[Int.toNat (IntKind.i64.wrap (i9 - 1))]?).bind fun c2 =>
            bif ((c2.toNat : Int) : Int) == 13 then
              (need (decide (((l5.drop 0).take l5.length).length + [AV.agg [AV.int .i64 i8, AV.int .i64 (IntKind.i64.wrap (i9 - 1)), AV.int .i64 (IntKind.i64.wrap (i9 + 1))]].length ≤ 1099511627776)) <|
              go s6 (IntKind.i64.wrap (i9 + 1)) (((l5.drop 0).take l5.length) ++ [AV.agg [AV.int .i64 i8, AV.int .i64 (IntKind.i64.wrap (i9 - 1)), AV.int .i64 (IntKind.i64.wrap (i9 + 1))]]))
            else
              need (decide (((l5.drop 0).take l5.length).length + [AV.agg [AV.int .i64 i8, AV.int .i64 i9, AV.int .i64 (IntKind.i64.wrap (i9 + 1))]].length ≤ 1099511627776)) <|
              go s6 (IntKind.i64.wrap (i9 + 1)) (((l5.drop 0).take l5.length) ++ [AV.agg [AV.int .i64 i8, AV.int .i64 i9, AV.int .i64 (IntKind.i64.wrap (i9 + 1))]]))
          else
            need (decide (((l5.drop 0).take l5.length).length + [AV.agg [AV.int .i64 i8, AV.int .i64 i9, AV.int .i64 (IntKind.i64.wrap (i9 + 1))]].length ≤ 1099511627776)) <|
            go s6 (IntKind.i64.wrap (i9 + 1)) (((l5.drop 0).take l5.length) ++ [AV.agg [AV.int .i64 i8, AV.int .i64 i9, AV.int .i64 (IntKind.i64.wrap (i9 + 1))]]))
        else
          need (decide (((l5.drop 0).take l5.length).length + [AV.agg [AV.int .i64 i8, AV.int .i64 i9, AV.int .i64 i9]].length ≤ 1099511627776)) <|
          go s6 i9 (((l5.drop 0).take l5.length) ++ [AV.agg [AV.int .i64 i8, AV.int .i64 i9, AV.int .i64 i9]]))
      N s2 i1 i1 l1)
  else
    k0 l1
def ref01Split_L1 (R : Nat → List AV → Option Res) (N : Nat) (k0 : List AV → Option Res) : Nat → List UInt8 → Int → List AV → Option Res
  | 0, _, _, _ => none
  | n + 1, s2, i1, l1 => ref01Split_L1s R N (ref01Split_L1 R N k0 n) k0 s2 i1 l1
def ref01Split_c1 : AC := .seq (.region [.op (some 27) none (.mv (.t 4)), .op (some 28) none (.mv (.t 5)), .op (some 29) none (.mv (.t 5)), .op (some 30) none (.build [AV.int .i64 0, AV.int .i64 0, AV.int .i64 0] [(0, 1, .t 27), (1, 1, .t 28), (2, 1, .t 29)]), .op (some 6) none (.alloc 1006 [AV.int .i64 0, AV.int .i64 0, AV.int .i64 0]), .op none none (.store (.t 6) (.t 30) 3)]) (.seq (.seq (.region [.op (some 31) none (.mv (.t 5)), .op (some 32) none (.mv (.t 0)), .op (some 33) none (.len (.t 32) false), .op (some 34) none (.bin .lss (.t 31) (.t 33))]) (.cond (.t 34) (.seq (.region [.op (some 35) none (.mv (.t 5)), .op (some 36) none (.bin .add (.t 35) (.k (AV.int .i64 1))), .op (some 37) none (.faddr (.t 6) 2), .op none none (.store (.t 37) (.t 36) 1)]) (.seq (.region [.op (some 38) none (.mv (.t 5)), .op (some 39) none (.mv (.t 4)), .op (some 40) none (.bin .gtr (.t 38) (.t 39)), .op (some 41) none (.mv (.t 40)), .split 41, .op (some 42) (some (41, true)) (.mv (.t 0)), .op (some 43) (some (41, true)) (.mv (.t 5)), .op (some 44) (some (41, true)) (.bin .sub (.t 43) (.k (AV.int .i64 1))), .op (some 45) (some (41, true)) (.iaddr (.t 42) (.t 44) 1 (.int .u8)), .op (some 46) (some (41, true)) (.load (.t 45) none (.int .u8)), .op (some 47) (some (41, true)) (.bin .eql (.t 46) (.k (AV.int .u8 13))), .op (some 48) none (.pick (.t 41) (.t 47) (.k (AV.bool false)))]) (.cond (.t 48) (.region [.op (some 49) none (.mv (.t 5)), .op (some 50) none (.bin .sub (.t 49) (.k (AV.int .i64 1))), .op (some 51) none (.faddr (.t 6) 1), .op none none (.store (.t 51) (.t 50) 1)]) (.skip)))) (.skip))) (.seq (.region [.op (some 52) none (.mv (.t 3)), .op (some 53) none (.load (.t 6) (some 3) (.agg [.int .i64, .int .i64, .int .i64])), .op (some 54) none (.bslice [.t 53] 3 false), .op (some 55) none (.app 3 (.t 52) (.t 54) 3 .any false), .op (some 3) none (.mv (.t 55))]) (.region [.op (some 56) none (.faddr (.t 6) 2), .op (some 57) none (.load (.t 56) none (.int .i64)), .op (some 4) none (.mv (.t 57))])))
def ref01Split_c2 : AC := .seq (.seq (.region [.op (some 9) none (.mv (.t 4)), .op (some 10) none (.mv (.t 0)), .op (some 11) none (.len (.t 10) false), .op (some 12) none (.bin .lss (.t 9) (.t 11))]) (.cond (.t 12) (.skip) (.exit 0 [3] [3]))) (.block 1 (.seq (.region [.op (some 13) none (.mv (.t 4)), .op (some 5) none (.mv (.t 13))]) (.seq (.block 2 (.loop [0, 3, 4, 5] [3] (ref01Split_c0))) (ref01Split_c1))))
theorem ref01Split_L1s_eq (R : Nat → List AV → Option Res) (N : Nat) (K : Ex → St → Option Res) (W : St → Option Res) (s2 : List UInt8) (i1 : Int) (l1 : List AV) :
    evC gl R N ref01Split_c2 (Kseq (fun st' => W (prune [0, 3, 4] [3] st')) K) ⟨[(0, .imm (AV.bytes s2)), (3, .own 3 0 l1.length none), (4, .imm (AV.int .i64 i1))], [(3, .row 3 l1 false)]⟩ =
    ref01Split_L1s R N (fun (s2 : List UInt8) (i1 : Int) (l1 : List AV) => W ⟨[(0, .imm (AV.bytes s2)), (3, .own 3 0 l1.length none), (4, .imm (AV.int .i64 i1))], [(3, .row 3 l1 false)]⟩) (fun (l6 : List AV) => K (.exit 0) ⟨[(3, .own 3 0 l6.length none)], [(3, .row 3 l6 false)]⟩) s2 i1 l1 := by
  refine Eq.trans (b :=
      bif decide ((i1 : Int) < ((s2.length : Nat) : Int)) then
        (rounds [0, 3, 4, 5] [3] (evC gl R N ref01Split_c0) (Kblock 2 (Kthen gl R N ref01Split_c1 (Kblock 1 (Kseq (fun st' => W (prune [0, 3, 4] [3] st')) K)))) N ⟨[(0, .imm (AV.bytes s2)), (3, .own 3 0 l1.length none), (4, .imm (AV.int .i64 i1)), (5, .imm (AV.int .i64 i1))], [(3, .row 3 l1 false)]⟩)
      else
        (fun (l7 : List AV) => K (.exit 0) ⟨[(3, .own 3 0 l7.length none)], [(3, .row 3 l7 false)]⟩) l1) (by kernel_rfl) ?_
  simp (config := { maxSteps := 100000000 }) only [ref01Split_L2_eq]
  kernel_rfl
theorem ref01Split_L1_eq (R : Nat → List AV → Option Res) (N : Nat) (K : Ex → St → Option Res) : ∀ (n : Nat) (s2 : List UInt8) (i1 : Int) (l1 : List AV),
    rounds [0, 3, 4] [3] (evC gl R N ref01Split_c2) K n ⟨[(0, .imm (AV.bytes s2)), (3, .own 3 0 l1.length none), (4, .imm (AV.int .i64 i1))], [(3, .row 3 l1 false)]⟩ = ref01Split_L1 R N (fun (l6 : List AV) => K (.exit 0) ⟨[(3, .own 3 0 l6.length none)], [(3, .row 3 l6 false)]⟩) n s2 i1 l1
  | 0, _, _, _ => rfl
  | n + 1, s2, i1, l1 => (ref01Split_L1s_eq R N K (rounds [0, 3, 4] [3] (evC gl R N ref01Split_c2) K n) s2 i1 l1).trans
      (congrArg (fun go => ref01Split_L1s R N go (fun (l6 : List AV) => K (.exit 0) ⟨[(3, .own 3 0 l6.length none)], [(3, .row 3 l6 false)]⟩) s2 i1 l1) (funext fun s2 => funext fun i1 => funext fun l1 => ref01Split_L1_eq R N K n s2 i1 l1))
def ref01Split_c3 : AC := .seq (.region [.op (some 58) none (.mv (.t 3)), .op (some 2) none (.mv (.t 58))]) (.ret [2] [3])
def ref01Split_c4 : AC := .seq (.region [.op (some 2) none (.nilOwn 3 (some (3, .any)))]) (.seq (.region [.op (some 3) none (.nilOwn 3 (some (3, .any)))]) (.seq (.region [.op (some 4) none (.mv (.k (AV.int .i64 0)))]) (.seq (.seq (.region [.op (some 7) none (.mv (.t 0)), .op (some 8) none (.call id_ref01Marked [.t 7] (.bool))]) (.cond (.t 8) (.region [.op (some 4) none (.mv (.k (AV.int .i64 3)))]) (.skip))) (.seq (.block 0 (.loop [0, 3, 4] [3] (ref01Split_c2))) (ref01Split_c3)))))
def ref01Split : AFunc := ⟨1, 59, [.tmp 2], ref01Split_c4⟩
def ref01Splitr (R : Nat → List AV → Option Res) (N : Nat) (s1 : List UInt8) : Option Res :=
  (R id_ref01Marked [AV.bytes s1]).bind fun r1 =>
  asB r1.v fun b1 =>
  bif b1 then
    (ref01Split_L1 R N
      (fun l8 =>
        some ⟨AV.row 3 ((l8.drop 0).take l8.length), true, []⟩)
      N s1 3 [])
  else
    ref01Split_L1 R N
      (fun l9 =>
        some ⟨AV.row 3 ((l9.drop 0).take l9.length), true, []⟩)
      N s1 0 []
theorem ref01Split_eq (R : Nat → List AV → Option Res) (N : Nat) (s1 : List UInt8) : runF gl R N ref01Split [AV.bytes s1] = ref01Splitr R N s1 := by
  refine Eq.trans (b :=
      (R id_ref01Marked [AV.bytes s1]).bind fun r1 =>
      asB r1.v fun b1 =>
      bif b1 then
        (rounds [0, 3, 4] [3] (evC gl R N ref01Split_c2) (Kblock 0 (Kthen gl R N ref01Split_c3 (Kret ref01Split.rets))) N ⟨[(0, .imm (AV.bytes s1)), (3, .own 3 0 (([] : List AV).length) none), (4, .imm (AV.int .i64 3))], [(3, .row 3 [] false)]⟩)
      else
        rounds [0, 3, 4] [3] (evC gl R N ref01Split_c2) (Kblock 0 (Kthen gl R N ref01Split_c3 (Kret ref01Split.rets))) N ⟨[(0, .imm (AV.bytes s1)), (3, .own 3 0 (([] : List AV).length) none), (4, .imm (AV.int .i64 0))], [(3, .row 3 [] false)]⟩) (by kernel_rfl) ?_
  simp (config := { maxSteps := 100000000 }) only [ref01Split_L1_eq]
  kernel_rfl
theorem ref01Split_fit : fitF Tryd.prog ref01Split Tryd.f34 = true := by
  kernel_rfl

def ref01Break_c0 : AC := .seq (.region [.op (some 2) none (.mv (.k (AV.str [])))]) (.seq (.region [.op (some 4) none (.mv (.t 0)), .op (some 5) none (.call id_ref01Split [.t 4] (.row 3)), .op (some 3) none (.mv (.t 5))]) (.seq (.seq (.regionD [0, 3, 19] [] [.op (some 6) none (.mv (.t 3)), .op (some 7) none (.len (.t 6) false), .op (some 8) none (.bin .gtr (.t 7) (.k (AV.int .i64 0))), .op (some 9) none (.mv (.t 8)), .split 9, .op (some 10) (some (9, true)) (.mv (.t 3)), .op (some 11) (some (9, true)) (.iaddr (.t 10) (.k (AV.int .i64 0)) 3 (.agg [.int .i64, .int .i64, .int .i64])), .op (some 12) (some (9, true)) (.faddr (.t 11) 2), .op (some 13) (some (9, true)) (.load (.t 12) none (.int .i64)), .op (some 14) (some (9, true)) (.mv (.t 3)), .op (some 15) (some (9, true)) (.iaddr (.t 14) (.k (AV.int .i64 0)) 3 (.agg [.int .i64, .int .i64, .int .i64])), .op (some 16) (some (9, true)) (.faddr (.t 15) 1), .op (some 17) (some (9, true)) (.load (.t 16) none (.int .i64)), .op (some 18) (some (9, true)) (.bin .gtr (.t 13) (.t 17)), .op (some 19) none (.pick (.t 9) (.t 18) (.k (AV.bool false)))] []) (.cond (.t 19) (.seq (.regionD [2] [] [.op (some 20) none (.mv (.t 0)), .op (some 21) none (.mv (.t 3)), .op (some 22) none (.iaddr (.t 21) (.k (AV.int .i64 0)) 3 (.agg [.int .i64, .int .i64, .int .i64])), .op (some 23) none (.faddr (.t 22) 1), .op (some 24) none (.load (.t 23) none (.int .i64)), .op (some 25) none (.mv (.t 3)), .op (some 26) none (.iaddr (.t 25) (.k (AV.int .i64 0)) 3 (.agg [.int .i64, .int .i64, .int .i64])), .op (some 27) none (.faddr (.t 26) 2), .op (some 28) none (.load (.t 27) none (.int .i64)), .op (some 29) none (.slice (.t 20) (some (.t 24)) (some (.t 28)) 1), .op (some 30) none (.cvStr (.t 29)), .op (some 2) none (.mv (.t 30))] []) (.ret [2] [])) (.skip))) (.seq (.region [.op (some 2) none (.mv (.k (AV.str [10])))]) (.ret [2] []))))
def ref01Break : AFunc := ⟨1, 31, [.tmp 2], ref01Break_c0⟩
def ref01Breakr (R : Nat → List AV → Option Res) (N : Nat) (s1 : List UInt8) : Option Res :=
  (R id_ref01Split [AV.bytes s1]).bind fun r1 =>
  asR 3 r1.v fun l1 =>
  bif decide ((((l1.length : Nat) : Int) : Int) > 0) then
    (need (decide (0 ≤ (0 : Int))) <|
    (l1[Int.toNat 0]?).bind fun e1 =>
    asIIIA e1 fun i1 i2 i3 =>
    need (decide (0 ≤ (0 : Int))) <|
    (l1[Int.toNat 0]?).bind fun e2 =>
    asIIIA e2 fun i4 i5 i6 =>
    bif decide ((i3 : Int) > i5) then
      (need (decide (0 ≤ (0 : Int))) <|
      (l1[Int.toNat 0]?).bind fun e3 =>
      asIIIA e3 fun i7 i8 i9 =>
      need (decide (0 ≤ (0 : Int))) <|
      (l1[Int.toNat 0]?).bind fun e4 =>
      asIIIA e4 fun i10 i11 i12 =>
      need (decide (0 ≤ (i12 : Int)) && decide ((i12 : Int) ≤ ((s1.length : Nat) : Int))) <|
      need (decide (0 ≤ (i8 : Int)) && decide ((i8 : Int) ≤ ((Int.toNat i12 : Nat) : Int))) <|
      some ⟨AV.str ((s1.take (Int.toNat i12)).drop (Int.toNat i8)), false, []⟩)
    else
      some ⟨AV.str [10], false, []⟩)
  else
    some ⟨AV.str [10], false, []⟩
theorem ref01Break_eq (R : Nat → List AV → Option Res) (N : Nat) (s1 : List UInt8) : runF gl R N ref01Break [AV.bytes s1] = ref01Breakr R N s1 := by
  kernel_rfl
theorem ref01Break_fit : fitF Tryd.prog ref01Break Tryd.f35 = true := by
  kernel_rfl

def linesAt_L1s (R : Nat → List AV → Option Res) (N : Nat) (go : List AV → Int → Int → Option Res) (k0 : Int → Int → Option Res) (k1 : Option Res) (l2 : List AV) (i2 : Int) (i3 : Int) : Option Res :=
  bif decide ((i3 : Int) ≥ 0) then
    (need (decide (0 ≤ (i3 : Int))) <|
    (l2[Int.toNat i3]?).bind fun e1 =>
    asIIIA e1 fun i4 i5 i6 =>
    bif decide ((i4 : Int) ≤ i2) then
      (need (decide (0 ≤ (i3 : Int))) <|
      (l2[Int.toNat i3]?).bind fun e2 =>
      asIIIA e2 fun i7 i8 i9 =>
      k0 i3 (IntKind.i64.wrap (i2 - i7)))
    else
      go l2 i2 (IntKind.i64.wrap (i3 - 1)))
  else
    k1
def linesAt_L1 (R : Nat → List AV → Option Res) (N : Nat) (k0 : Int → Int → Option Res) (k1 : Option Res) : Nat → List AV → Int → Int → Option Res
  | 0, _, _, _ => none
  | n + 1, l2, i2, i3 => linesAt_L1s R N (linesAt_L1 R N k0 k1 n) k0 k1 l2 i2 i3
def linesAt_c0 : AC := .seq (.seq (.region [.op (some 10) none (.mv (.t 6)), .op (some 11) none (.bin .geq (.t 10) (.k (AV.int .i64 0)))]) (.cond (.t 11) (.skip) (.exit 0 [] []))) (.seq (.block 1 (.seq (.region [.op (some 14) none (.mv (.t 0)), .op (some 15) none (.mv (.t 6)), .op (some 16) none (.iaddr (.t 14) (.t 15) 3 (.agg [.int .i64, .int .i64, .int .i64])), .op (some 17) none (.faddr (.t 16) 0), .op (some 18) none (.load (.t 17) none (.int .i64)), .op (some 19) none (.mv (.t 1)), .op (some 20) none (.bin .leq (.t 18) (.t 19))]) (.cond (.t 20) (.seq (.regionD [4, 5] [] [.op (some 21) none (.mv (.t 6)), .op (some 22) none (.mv (.t 1)), .op (some 23) none (.mv (.t 0)), .op (some 24) none (.mv (.t 6)), .op (some 25) none (.iaddr (.t 23) (.t 24) 3 (.agg [.int .i64, .int .i64, .int .i64])), .op (some 26) none (.faddr (.t 25) 0), .op (some 27) none (.load (.t 26) none (.int .i64)), .op (some 28) none (.bin .sub (.t 22) (.t 27)), .op (some 4) none (.mv (.t 21)), .op (some 5) none (.mv (.t 28))] []) (.ret [4, 5] [])) (.skip)))) (.region [.op (some 12) none (.mv (.t 6)), .op (some 13) none (.bin .sub (.t 12) (.k (AV.int .i64 1))), .op (some 6) none (.mv (.t 13))]))
theorem linesAt_L1s_eq (R : Nat → List AV → Option Res) (N : Nat) (K : Ex → St → Option Res) (W : St → Option Res) (l2 : List AV) (i2 : Int) (i3 : Int) :
    evC gl R N linesAt_c0 (Kseq (fun st' => W (prune [0, 1, 6] [] st')) K) ⟨[(0, .imm (AV.row 3 l2)), (1, .imm (AV.int .i64 i2)), (6, .imm (AV.int .i64 i3))], []⟩ =
    linesAt_L1s R N (fun (l2 : List AV) (i2 : Int) (i3 : Int) => W ⟨[(0, .imm (AV.row 3 l2)), (1, .imm (AV.int .i64 i2)), (6, .imm (AV.int .i64 i3))], []⟩) (fun (i10 : Int) (i11 : Int) => K .ret ⟨[(4, .imm (AV.int .i64 i10)), (5, .imm (AV.int .i64 i11))], []⟩) (K (.exit 0) ⟨[], []⟩) l2 i2 i3 := by
  kernel_rfl
theorem linesAt_L1_eq (R : Nat → List AV → Option Res) (N : Nat) (K : Ex → St → Option Res) : ∀ (n : Nat) (l2 : List AV) (i2 : Int) (i3 : Int),
    rounds [0, 1, 6] [] (evC gl R N linesAt_c0) K n ⟨[(0, .imm (AV.row 3 l2)), (1, .imm (AV.int .i64 i2)), (6, .imm (AV.int .i64 i3))], []⟩ = linesAt_L1 R N (fun (i10 : Int) (i11 : Int) => K .ret ⟨[(4, .imm (AV.int .i64 i10)), (5, .imm (AV.int .i64 i11))], []⟩) (K (.exit 0) ⟨[], []⟩) n l2 i2 i3
  | 0, _, _, _ => rfl
  | n + 1, l2, i2, i3 => (linesAt_L1s_eq R N K (rounds [0, 1, 6] [] (evC gl R N linesAt_c0) K n) l2 i2 i3).trans
      (congrArg (fun go => linesAt_L1s R N go (fun (i10 : Int) (i11 : Int) => K .ret ⟨[(4, .imm (AV.int .i64 i10)), (5, .imm (AV.int .i64 i11))], []⟩) (K (.exit 0) ⟨[], []⟩) l2 i2 i3) (funext fun l2 => funext fun i2 => funext fun i3 => linesAt_L1_eq R N K n l2 i2 i3))
def linesAt_c1 : AC := .seq (.region [.op (some 4) none (.mv (.k (AV.int .i64 (-1)))), .op (some 5) none (.mv (.k (AV.int .i64 0)))]) (.ret [4, 5] [])
def linesAt_c2 : AC := .seq (.region [.op (some 4) none (.mv (.k (AV.int .i64 0))), .op (some 5) none (.mv (.k (AV.int .i64 0)))]) (.seq (.seq (.region [.op (some 7) none (.mv (.t 0)), .op (some 8) none (.len (.t 7) false), .op (some 9) none (.bin .sub (.t 8) (.k (AV.int .i64 1))), .op (some 6) none (.mv (.t 9))]) (.block 0 (.loop [0, 1, 6] [] (linesAt_c0)))) (linesAt_c1))
def linesAt : AFunc := ⟨2, 29, [.tmp 4, .tmp 5], linesAt_c2⟩
def linesAtr (R : Nat → List AV → Option Res) (N : Nat) (l1 : List AV) (i1 : Int) : Option Res :=
  linesAt_L1 R N
    (fun i14 i15 =>
      some ⟨AV.tup [AV.int .i64 i14, AV.int .i64 i15], false, []⟩)
    (
      some ⟨AV.tup [AV.int .i64 (-1), AV.int .i64 0], false, []⟩)
    N l1 i1 (IntKind.i64.wrap (((l1.length : Nat) : Int) - 1))
theorem linesAt_eq (R : Nat → List AV → Option Res) (N : Nat) (l1 : List AV) (i1 : Int) : runF gl R N linesAt [AV.row 3 l1, AV.int .i64 i1] = linesAtr R N l1 i1 := by
  refine Eq.trans (b :=
      rounds [0, 1, 6] [] (evC gl R N linesAt_c0) (Kblock 0 (Kthen gl R N linesAt_c1 (Kret linesAt.rets))) N ⟨[(0, .imm (AV.row 3 l1)), (1, .imm (AV.int .i64 i1)), (6, .imm (AV.int .i64 (IntKind.i64.wrap (((l1.length : Nat) : Int) - 1))))], []⟩) (by kernel_rfl) ?_
  simp (config := { maxSteps := 100000000 }) only [linesAt_L1_eq]
  kernel_rfl
theorem linesAt_fit : fitF Tryd.prog linesAt Tryd.f36 = true := by
  kernel_rfl

def ref01At_L1s (R : Nat → List AV → Option Res) (N : Nat) (go : List AV → Int → Int → Int → Int → Option Res) (k0 : List AV → Int → Int → Option Res) (l2 : List AV) (i2 : Int) (i3 : Int) (i4 : Int) (i5 : Int) : Option Res :=
  bif decide ((i5 : Int) < i4) then
    (need (decide (0 ≤ (i5 : Int))) <|
    (l2[Int.toNat i5]?).bind fun e1 =>
    asIIIA e1 fun i6 i7 i8 =>
    bif decide ((i6 : Int) ≤ i2) then
      (go l2 i2 i5 i4 (IntKind.i64.wrap (i5 + 1)))
    else
      go l2 i2 i3 i4 (IntKind.i64.wrap (i5 + 1)))
  else
    k0 l2 i2 i3
def ref01At_L1 (R : Nat → List AV → Option Res) (N : Nat) (k0 : List AV → Int → Int → Option Res) : Nat → List AV → Int → Int → Int → Int → Option Res
  | 0, _, _, _, _, _ => none
  | n + 1, l2, i2, i3, i4, i5 => ref01At_L1s R N (ref01At_L1 R N k0 n) k0 l2 i2 i3 i4 i5
def ref01At_c0 : AC := .seq (.region [.op (some 11) none (.bin .lss (.t 10) (.t 9))]) (.seq (.cond (.t 11) (.skip) (.exit 0 [0, 1, 6] [])) (.seq (.block 1 (.seq (.region [.op (some 12) none (.mv (.t 10)), .op (some 7) none (.mv (.t 12))]) (.seq (.region [.op (some 13) none (.mv (.t 0)), .op (some 14) none (.mv (.t 7)), .op (some 15) none (.iaddr (.t 13) (.t 14) 3 (.agg [.int .i64, .int .i64, .int .i64])), .op (some 16) none (.faddr (.t 15) 0), .op (some 17) none (.load (.t 16) none (.int .i64)), .op (some 18) none (.mv (.t 1)), .op (some 19) none (.bin .leq (.t 17) (.t 18))]) (.cond (.t 19) (.region [.op (some 20) none (.mv (.t 7)), .op (some 6) none (.mv (.t 20))]) (.skip))))) (.region [.op (some 21) none (.bin .add (.t 10) (.k (AV.int .i64 1))), .op (some 10) none (.mv (.t 21))])))
theorem ref01At_L1s_eq (R : Nat → List AV → Option Res) (N : Nat) (K : Ex → St → Option Res) (W : St → Option Res) (l2 : List AV) (i2 : Int) (i3 : Int) (i4 : Int) (i5 : Int) :
    evC gl R N ref01At_c0 (Kseq (fun st' => W (prune [0, 1, 6, 9, 10] [] st')) K) ⟨[(0, .imm (AV.row 3 l2)), (1, .imm (AV.int .i64 i2)), (6, .imm (AV.int .i64 i3)), (9, .imm (AV.int .i64 i4)), (10, .imm (AV.int .i64 i5))], []⟩ =
    ref01At_L1s R N (fun (l2 : List AV) (i2 : Int) (i3 : Int) (i4 : Int) (i5 : Int) => W ⟨[(0, .imm (AV.row 3 l2)), (1, .imm (AV.int .i64 i2)), (6, .imm (AV.int .i64 i3)), (9, .imm (AV.int .i64 i4)), (10, .imm (AV.int .i64 i5))], []⟩) (fun (l3 : List AV) (i9 : Int) (i10 : Int) => K (.exit 0) ⟨[(0, .imm (AV.row 3 l3)), (1, .imm (AV.int .i64 i9)), (6, .imm (AV.int .i64 i10))], []⟩) l2 i2 i3 i4 i5 := by
  kernel_rfl
theorem ref01At_L1_eq (R : Nat → List AV → Option Res) (N : Nat) (K : Ex → St → Option Res) : ∀ (n : Nat) (l2 : List AV) (i2 : Int) (i3 : Int) (i4 : Int) (i5 : Int),
    rounds [0, 1, 6, 9, 10] [] (evC gl R N ref01At_c0) K n ⟨[(0, .imm (AV.row 3 l2)), (1, .imm (AV.int .i64 i2)), (6, .imm (AV.int .i64 i3)), (9, .imm (AV.int .i64 i4)), (10, .imm (AV.int .i64 i5))], []⟩ = ref01At_L1 R N (fun (l3 : List AV) (i9 : Int) (i10 : Int) => K (.exit 0) ⟨[(0, .imm (AV.row 3 l3)), (1, .imm (AV.int .i64 i9)), (6, .imm (AV.int .i64 i10))], []⟩) n l2 i2 i3 i4 i5
  | 0, _, _, _, _, _ => rfl
  | n + 1, l2, i2, i3, i4, i5 => (ref01At_L1s_eq R N K (rounds [0, 1, 6, 9, 10] [] (evC gl R N ref01At_c0) K n) l2 i2 i3 i4 i5).trans
      (congrArg (fun go => ref01At_L1s R N go (fun (l3 : List AV) (i9 : Int) (i10 : Int) => K (.exit 0) ⟨[(0, .imm (AV.row 3 l3)), (1, .imm (AV.int .i64 i9)), (6, .imm (AV.int .i64 i10))], []⟩) l2 i2 i3 i4 i5) (funext fun l2 => funext fun i2 => funext fun i3 => funext fun i4 => funext fun i5 => ref01At_L1_eq R N K n l2 i2 i3 i4 i5))
def ref01At_c1 : AC := .seq (.seq (.region [.op (some 22) none (.mv (.t 6)), .op (some 23) none (.bin .lss (.t 22) (.k (AV.int .i64 0)))]) (.cond (.t 23) (.seq (.region [.op (some 4) none (.mv (.k (AV.int .i64 (-1)))), .op (some 5) none (.mv (.k (AV.int .i64 0)))]) (.ret [4, 5] [])) (.skip))) (.seq (.regionD [4, 5] [] [.op (some 24) none (.mv (.t 6)), .op (some 25) none (.mv (.t 1)), .op (some 26) none (.mv (.t 0)), .op (some 27) none (.mv (.t 6)), .op (some 28) none (.iaddr (.t 26) (.t 27) 3 (.agg [.int .i64, .int .i64, .int .i64])), .op (some 29) none (.faddr (.t 28) 0), .op (some 30) none (.load (.t 29) none (.int .i64)), .op (some 31) none (.bin .sub (.t 25) (.t 30)), .op (some 4) none (.mv (.t 24)), .op (some 5) none (.mv (.t 31))] []) (.ret [4, 5] []))
def ref01At_c2 : AC := .seq (.region [.op (some 4) none (.mv (.k (AV.int .i64 0))), .op (some 5) none (.mv (.k (AV.int .i64 0)))]) (.seq (.region [.op (some 6) none (.mv (.k (AV.int .i64 (-1))))]) (.seq (.seq (.region [.op (some 8) none (.mv (.t 0)), .op (some 9) none (.len (.t 8) false), .op (some 10) none (.mv (.k (AV.int .i64 0)))]) (.block 0 (.loop [0, 1, 6, 9, 10] [] (ref01At_c0)))) (ref01At_c1)))
def ref01At : AFunc := ⟨2, 32, [.tmp 4, .tmp 5], ref01At_c2⟩
def ref01Atr (R : Nat → List AV → Option Res) (N : Nat) (l1 : List AV) (i1 : Int) : Option Res :=
  ref01At_L1 R N
    (fun l5 i13 i14 =>
      bif decide ((i14 : Int) < 0) then
        (some ⟨AV.tup [AV.int .i64 (-1), AV.int .i64 0], false, []⟩)
      else
        need (decide (0 ≤ (i14 : Int))) <|
        (l5[Int.toNat i14]?).bind fun e2 =>
        asIIIA e2 fun i15 i16 i17 =>
        some ⟨AV.tup [AV.int .i64 i14, AV.int .i64 (IntKind.i64.wrap (i13 - i15))], false, []⟩)
    N l1 i1 (-1) ((l1.length : Nat) : Int) 0
theorem ref01At_eq (R : Nat → List AV → Option Res) (N : Nat) (l1 : List AV) (i1 : Int) : runF gl R N ref01At [AV.row 3 l1, AV.int .i64 i1] = ref01Atr R N l1 i1 := by
  refine Eq.trans (b :=
      rounds [0, 1, 6, 9, 10] [] (evC gl R N ref01At_c0) (Kblock 0 (Kthen gl R N ref01At_c1 (Kret ref01At.rets))) N ⟨[(0, .imm (AV.row 3 l1)), (1, .imm (AV.int .i64 i1)), (6, .imm (AV.int .i64 (-1))), (9, .imm (AV.int .i64 ((l1.length : Nat) : Int))), (10, .imm (AV.int .i64 0))], []⟩) (by kernel_rfl) ?_
  simp (config := { maxSteps := 100000000 }) only [ref01At_L1_eq]
  kernel_rfl
theorem ref01At_fit : fitF Tryd.prog ref01At Tryd.f37 = true := by
  kernel_rfl

def ref01Indent_L1s (R : Nat → List AV → Option Res) (N : Nat) (go : List UInt8 → Int → Int → Int → Int → Option Res) (k0 : Int → Option Res) (s2 : List UInt8) (i4 : Int) (i5 : Int) (i6 : Int) (i7 : Int) : Option Res :=
  bif decide (((IntKind.i64.wrap (i5 + i4)) : Int) < i6) then
    (need (decide (0 ≤ (IntKind.i64.wrap (i5 + i4) : Int))) <|
    (s2[Int.toNat (IntKind.i64.wrap (i5 + i4))]?).bind fun c1 =>
    bif ((c1.toNat : Int) : Int) == 32 then
      (go s2 (IntKind.i64.wrap (i4 + 1)) i5 i6 i7)
    else
      k0 i4)
  else
    k0 i4
def ref01Indent_L1 (R : Nat → List AV → Option Res) (N : Nat) (k0 : Int → Option Res) : Nat → List UInt8 → Int → Int → Int → Int → Option Res
  | 0, _, _, _, _, _ => none
  | n + 1, s2, i4, i5, i6, i7 => ref01Indent_L1s R N (ref01Indent_L1 R N k0 n) k0 s2 i4 i5 i6 i7
def ref01Indent_c0 : AC := .seq (.seq (.region [.op (some 6) none (.faddr (.t 3) 0), .op (some 7) none (.load (.t 6) none (.int .i64)), .op (some 8) none (.mv (.t 5)), .op (some 9) none (.bin .add (.t 7) (.t 8)), .op (some 10) none (.faddr (.t 3) 1), .op (some 11) none (.load (.t 10) none (.int .i64)), .op (some 12) none (.bin .lss (.t 9) (.t 11)), .op (some 13) none (.mv (.t 12)), .split 13, .op (some 14) (some (13, true)) (.mv (.t 0)), .op (some 15) (some (13, true)) (.faddr (.t 3) 0), .op (some 16) (some (13, true)) (.load (.t 15) none (.int .i64)), .op (some 17) (some (13, true)) (.mv (.t 5)), .op (some 18) (some (13, true)) (.bin .add (.t 16) (.t 17)), .op (some 19) (some (13, true)) (.iaddr (.t 14) (.t 18) 1 (.int .u8)), .op (some 20) (some (13, true)) (.load (.t 19) none (.int .u8)), .op (some 21) (some (13, true)) (.bin .eql (.t 20) (.k (AV.int .u8 32))), .op (some 22) none (.pick (.t 13) (.t 21) (.k (AV.bool false)))]) (.cond (.t 22) (.skip) (.exit 0 [5] []))) (.block 1 (.region [.op (some 23) none (.mv (.t 5)), .op (some 24) none (.bin .add (.t 23) (.k (AV.int .i64 1))), .op (some 5) none (.mv (.t 24))]))
theorem ref01Indent_L1s_eq (R : Nat → List AV → Option Res) (N : Nat) (K : Ex → St → Option Res) (W : St → Option Res) (s2 : List UInt8) (i4 : Int) (i5 : Int) (i6 : Int) (i7 : Int) :
    evC gl R N ref01Indent_c0 (Kseq (fun st' => W (prune [0, 3, 5] [1003] st')) K) ⟨[(0, .imm (AV.bytes s2)), (3, .ptr 1003 0 0), (5, .imm (AV.int .i64 i4))], [(1003, .box [.imm (AV.int .i64 i5), .imm (AV.int .i64 i6), .imm (AV.int .i64 i7)])]⟩ =
    ref01Indent_L1s R N (fun (s2 : List UInt8) (i4 : Int) (i5 : Int) (i6 : Int) (i7 : Int) => W ⟨[(0, .imm (AV.bytes s2)), (3, .ptr 1003 0 0), (5, .imm (AV.int .i64 i4))], [(1003, .box [.imm (AV.int .i64 i5), .imm (AV.int .i64 i6), .imm (AV.int .i64 i7)])]⟩) (fun (i8 : Int) => K (.exit 0) ⟨[(5, .imm (AV.int .i64 i8))], []⟩) s2 i4 i5 i6 i7 := by
  kernel_rfl
theorem ref01Indent_L1_eq (R : Nat → List AV → Option Res) (N : Nat) (K : Ex → St → Option Res) : ∀ (n : Nat) (s2 : List UInt8) (i4 : Int) (i5 : Int) (i6 : Int) (i7 : Int),
    rounds [0, 3, 5] [1003] (evC gl R N ref01Indent_c0) K n ⟨[(0, .imm (AV.bytes s2)), (3, .ptr 1003 0 0), (5, .imm (AV.int .i64 i4))], [(1003, .box [.imm (AV.int .i64 i5), .imm (AV.int .i64 i6), .imm (AV.int .i64 i7)])]⟩ = ref01Indent_L1 R N (fun (i8 : Int) => K (.exit 0) ⟨[(5, .imm (AV.int .i64 i8))], []⟩) n s2 i4 i5 i6 i7
  | 0, _, _, _, _, _ => rfl
  | n + 1, s2, i4, i5, i6, i7 => (ref01Indent_L1s_eq R N K (rounds [0, 3, 5] [1003] (evC gl R N ref01Indent_c0) K n) s2 i4 i5 i6 i7).trans
      (congrArg (fun go => ref01Indent_L1s R N go (fun (i8 : Int) => K (.exit 0) ⟨[(5, .imm (AV.int .i64 i8))], []⟩) s2 i4 i5 i6 i7) (funext fun s2 => funext fun i4 => funext fun i5 => funext fun i6 => funext fun i7 => ref01Indent_L1_eq R N K n s2 i4 i5 i6 i7))
def ref01Indent_c1 : AC := .seq (.region [.op (some 25) none (.mv (.t 5)), .op (some 4) none (.mv (.t 25))]) (.ret [4] [])
def ref01Indent_c2 : AC := .seq (.region [.op (some 3) none (.box 1003 (.t 1) 3), .op (some 4) none (.mv (.k (AV.int .i64 0)))]) (.seq (.region [.op (some 5) none (.mv (.k (AV.int .i64 0)))]) (.seq (.block 0 (.loop [0, 3, 5] [1003] (ref01Indent_c0))) (ref01Indent_c1)))
def ref01Indent : AFunc := ⟨2, 26, [.tmp 4], ref01Indent_c2⟩
def ref01Indentr (R : Nat → List AV → Option Res) (N : Nat) (s1 : List UInt8) (i1 : Int) (i2 : Int) (i3 : Int) : Option Res :=
  ref01Indent_L1 R N
    (fun i10 =>
      some ⟨AV.int .i64 i10, false, []⟩)
    N s1 0 i1 i2 i3
theorem ref01Indent_eq (R : Nat → List AV → Option Res) (N : Nat) (s1 : List UInt8) (i1 : Int) (i2 : Int) (i3 : Int) : runF gl R N ref01Indent [AV.bytes s1, AV.agg [AV.int .i64 i1, AV.int .i64 i2, AV.int .i64 i3]] = ref01Indentr R N s1 i1 i2 i3 := by
  refine Eq.trans (b :=
      rounds [0, 3, 5] [1003] (evC gl R N ref01Indent_c0) (Kblock 0 (Kthen gl R N ref01Indent_c1 (Kret ref01Indent.rets))) N ⟨[(0, .imm (AV.bytes s1)), (3, .ptr 1003 0 0), (5, .imm (AV.int .i64 0))], [(1003, .box [.imm (AV.int .i64 i1), .imm (AV.int .i64 i2), .imm (AV.int .i64 i3)])]⟩) (by kernel_rfl) ?_
  simp (config := { maxSteps := 100000000 }) only [ref01Indent_L1_eq]
  kernel_rfl
theorem ref01Indent_fit : fitF Tryd.prog ref01Indent Tryd.f38 = true := by
  kernel_rfl

def ref01Blank_c0 : AC := .seq (.region [.op (some 3) none (.box 1003 (.t 1) 3), .op (some 4) none (.mv (.k (AV.bool false)))]) (.seq (.regionD [4] [] [.op (some 5) none (.mv (.t 0)), .op (some 6) none (.load (.t 3) (some 3) (.agg [.int .i64, .int .i64, .int .i64])), .op (some 7) none (.call id_ref01Indent [.t 5, .t 6] (.int .i64)), .op (some 8) none (.faddr (.t 3) 1), .op (some 9) none (.load (.t 8) none (.int .i64)), .op (some 10) none (.faddr (.t 3) 0), .op (some 11) none (.load (.t 10) none (.int .i64)), .op (some 12) none (.bin .sub (.t 9) (.t 11)), .op (some 13) none (.bin .eql (.t 7) (.t 12)), .op (some 4) none (.mv (.t 13))] []) (.ret [4] []))
def ref01Blank : AFunc := ⟨2, 14, [.tmp 4], ref01Blank_c0⟩
def ref01Blankr (R : Nat → List AV → Option Res) (N : Nat) (s1 : List UInt8) (i1 : Int) (i2 : Int) (i3 : Int) : Option Res :=
  (R id_ref01Indent [AV.bytes s1, AV.agg [AV.int .i64 i1, AV.int .i64 i2, AV.int .i64 i3]]).bind fun r1 =>
  asI .i64 r1.v fun i4 =>
  some ⟨AV.bool ((i4 : Int) == (IntKind.i64.wrap (i2 - i1))), false, []⟩
theorem ref01Blank_eq (R : Nat → List AV → Option Res) (N : Nat) (s1 : List UInt8) (i1 : Int) (i2 : Int) (i3 : Int) : runF gl R N ref01Blank [AV.bytes s1, AV.agg [AV.int .i64 i1, AV.int .i64 i2, AV.int .i64 i3]] = ref01Blankr R N s1 i1 i2 i3 := by
  kernel_rfl
theorem ref01Blank_fit : fitF Tryd.prog ref01Blank Tryd.f39 = true := by
  kernel_rfl

def law02LinesSplit_L1s (R : Nat → List AV → Option Res) (N : Nat) (go : List UInt8 → List UInt8 → List AV → List AV → Int → Int → Int → Int → Int → Int → Option Res) (k0 : Bool → Option Res) (k1 : List UInt8 → List UInt8 → Int → Int → Int → Int → Option Res) (s6 : List UInt8) (s7 : List UInt8) (l3 : List AV) (l4 : List AV) (i7 : Int) (i8 : Int) (i9 : Int) (i10 : Int) (i11 : Int) (i12 : Int) : Option Res :=
  bif decide ((i12 : Int) < i11) then
    (need (decide (0 ≤ (i12 : Int))) <|
    (l3[Int.toNat i12]?).bind fun e1 =>
    asIIIA e1 fun i13 i14 i15 =>
    need (decide (0 ≤ (i12 : Int))) <|
    (l4[Int.toNat i12]?).bind fun e2 =>
    asIIIA e2 fun i16 i17 i18 =>
    bif !(((i13 : Int) == i16) && (((i14 : Int) == i17) && (((i15 : Int) == i18) && (true)))) then
      (k0 false)
    else
      need (decide (0 ≤ (i12 : Int))) <|
      (l3[Int.toNat i12]?).bind fun e3 =>
      asIIIA e3 fun i19 i20 i21 =>
      (R id_linesIndent [AV.bytes s7, AV.agg [AV.int .i64 i19, AV.int .i64 i20, AV.int .i64 i21]]).bind fun r10 =>
      asI .i64 r10.v fun i22 =>
      need (decide (0 ≤ (i12 : Int))) <|
      (l4[Int.toNat i12]?).bind fun e4 =>
      asIIIA e4 fun i23 i24 i25 =>
      (R id_ref01Indent [AV.bytes s6, AV.agg [AV.int .i64 i23, AV.int .i64 i24, AV.int .i64 i25]]).bind fun r11 =>
      asI .i64 r11.v fun i26 =>
      bif (i22 : Int) != i26 then
        (k0 false)
      else
        need (decide (0 ≤ (i12 : Int))) <|
        (l3[Int.toNat i12]?).bind fun e5 =>
        asIIIA e5 fun i27 i28 i29 =>
        (R id_linesBlank [AV.bytes s7, AV.agg [AV.int .i64 i27, AV.int .i64 i28, AV.int .i64 i29]]).bind fun r12 =>
        asB r12.v fun b1 =>
        need (decide (0 ≤ (i12 : Int))) <|
        (l4[Int.toNat i12]?).bind fun e6 =>
        asIIIA e6 fun i30 i31 i32 =>
        (R id_ref01Blank [AV.bytes s6, AV.agg [AV.int .i64 i30, AV.int .i64 i31, AV.int .i64 i32]]).bind fun r13 =>
        asB r13.v fun b2 =>
        bif !(b1 == b2) then
          (k0 false)
        else
          go s6 s7 l3 l4 i7 i8 i9 i10 i11 (IntKind.i64.wrap (i12 + 1)))
  else
    k1 s6 s7 i7 i8 i9 i10
def law02LinesSplit_L1 (R : Nat → List AV → Option Res) (N : Nat) (k0 : Bool → Option Res) (k1 : List UInt8 → List UInt8 → Int → Int → Int → Int → Option Res) : Nat → List UInt8 → List UInt8 → List AV → List AV → Int → Int → Int → Int → Int → Int → Option Res
  | 0, _, _, _, _, _, _, _, _, _, _ => none
  | n + 1, s6, s7, l3, l4, i7, i8, i9, i10, i11, i12 => law02LinesSplit_L1s R N (law02LinesSplit_L1 R N k0 k1 n) k0 k1 s6 s7 l3 l4 i7 i8 i9 i10 i11 i12
def law02LinesSplit_c0 : AC := .seq (.region [.op (some 56) none (.bin .lss (.t 55) (.t 54))]) (.seq (.cond (.t 56) (.skip) (.exit 0 [0, 5, 8, 9, 10, 11] [])) (.seq (.block 1 (.seq (.region [.op (some 57) none (.mv (.t 55)), .op (some 12) none (.mv (.t 57))]) (.seq (.regionD [0, 5, 6, 7, 8, 9, 10, 11, 54, 55, 96] [] [.op (some 58) none (.mv (.t 6)), .op (some 59) none (.mv (.t 12)), .op (some 60) none (.iaddr (.t 58) (.t 59) 3 (.agg [.int .i64, .int .i64, .int .i64])), .op (some 61) none (.load (.t 60) (some 3) (.agg [.int .i64, .int .i64, .int .i64])), .op (some 62) none (.mv (.t 7)), .op (some 63) none (.mv (.t 12)), .op (some 64) none (.iaddr (.t 62) (.t 63) 3 (.agg [.int .i64, .int .i64, .int .i64])), .op (some 65) none (.load (.t 64) (some 3) (.agg [.int .i64, .int .i64, .int .i64])), .op (some 66) none (.binA true (.t 61) (.t 65) [0, 0, 0]), .op (some 67) none (.mv (.t 66)), .split 67, .op (some 68) (some (67, false)) (.weak (.t 5)), .op (some 69) (some (67, false)) (.mv (.t 6)), .op (some 70) (some (67, false)) (.mv (.t 12)), .op (some 71) (some (67, false)) (.iaddr (.t 69) (.t 70) 3 (.agg [.int .i64, .int .i64, .int .i64])), .op (some 72) (some (67, false)) (.load (.t 71) (some 3) (.agg [.int .i64, .int .i64, .int .i64])), .op (some 73) (some (67, false)) (.call id_linesIndent [.t 68, .t 72] (.int .i64)), .op (some 74) (some (67, false)) (.mv (.t 0)), .op (some 75) (some (67, false)) (.mv (.t 7)), .op (some 76) (some (67, false)) (.mv (.t 12)), .op (some 77) (some (67, false)) (.iaddr (.t 75) (.t 76) 3 (.agg [.int .i64, .int .i64, .int .i64])), .op (some 78) (some (67, false)) (.load (.t 77) (some 3) (.agg [.int .i64, .int .i64, .int .i64])), .op (some 79) (some (67, false)) (.call id_ref01Indent [.t 74, .t 78] (.int .i64)), .op (some 80) (some (67, false)) (.bin .neq (.t 73) (.t 79)), .op (some 81) none (.pick (.t 67) (.k (AV.bool true)) (.t 80)), .op (some 82) none (.mv (.t 81)), .split 82, .op (some 83) (some (82, false)) (.weak (.t 5)), .op (some 84) (some (82, false)) (.mv (.t 6)), .op (some 85) (some (82, false)) (.mv (.t 12)), .op (some 86) (some (82, false)) (.iaddr (.t 84) (.t 85) 3 (.agg [.int .i64, .int .i64, .int .i64])), .op (some 87) (some (82, false)) (.load (.t 86) (some 3) (.agg [.int .i64, .int .i64, .int .i64])), .op (some 88) (some (82, false)) (.call id_linesBlank [.t 83, .t 87] (.bool)), .op (some 89) (some (82, false)) (.mv (.t 0)), .op (some 90) (some (82, false)) (.mv (.t 7)), .op (some 91) (some (82, false)) (.mv (.t 12)), .op (some 92) (some (82, false)) (.iaddr (.t 90) (.t 91) 3 (.agg [.int .i64, .int .i64, .int .i64])), .op (some 93) (some (82, false)) (.load (.t 92) (some 3) (.agg [.int .i64, .int .i64, .int .i64])), .op (some 94) (some (82, false)) (.call id_ref01Blank [.t 89, .t 93] (.bool)), .op (some 95) (some (82, false)) (.binB .neq (.t 88) (.t 94)), .op (some 96) none (.pick (.t 82) (.k (AV.bool true)) (.t 95))] []) (.cond (.t 96) (.seq (.region [.op (some 4) none (.mv (.k (AV.bool false)))]) (.ret [4] [])) (.skip))))) (.region [.op (some 97) none (.bin .add (.t 55) (.k (AV.int .i64 1))), .op (some 55) none (.mv (.t 97))])))
theorem law02LinesSplit_L1s_eq (R : Nat → List AV → Option Res) (N : Nat) (K : Ex → St → Option Res) (W : St → Option Res) (s6 : List UInt8) (s7 : List UInt8) (l3 : List AV) (l4 : List AV) (i7 : Int) (i8 : Int) (i9 : Int) (i10 : Int) (i11 : Int) (i12 : Int) :
    evC gl R N law02LinesSplit_c0 (Kseq (fun st' => W (prune [0, 5, 6, 7, 8, 9, 10, 11, 54, 55] [] st')) K) ⟨[(0, .imm (AV.bytes s6)), (5, .imm (AV.lent s7)), (6, .imm (AV.row 3 l3)), (7, .imm (AV.row 3 l4)), (8, .imm (AV.int .i64 i7)), (9, .imm (AV.int .i64 i8)), (10, .imm (AV.int .i64 i9)), (11, .imm (AV.int .i64 i10)), (54, .imm (AV.int .i64 i11)), (55, .imm (AV.int .i64 i12))], []⟩ =
    law02LinesSplit_L1s R N (fun (s6 : List UInt8) (s7 : List UInt8) (l3 : List AV) (l4 : List AV) (i7 : Int) (i8 : Int) (i9 : Int) (i10 : Int) (i11 : Int) (i12 : Int) => W ⟨[(0, .imm (AV.bytes s6)), (5, .imm (AV.lent s7)), (6, .imm (AV.row 3 l3)), (7, .imm (AV.row 3 l4)), (8, .imm (AV.int .i64 i7)), (9, .imm (AV.int .i64 i8)), (10, .imm (AV.int .i64 i9)), (11, .imm (AV.int .i64 i10)), (54, .imm (AV.int .i64 i11)), (55, .imm (AV.int .i64 i12))], []⟩) (fun (b3 : Bool) => K .ret ⟨[(4, .imm (AV.bool b3))], []⟩) (fun (s8 : List UInt8) (s9 : List UInt8) (i33 : Int) (i34 : Int) (i35 : Int) (i36 : Int) => K (.exit 0) ⟨[(0, .imm (AV.bytes s8)), (5, .imm (AV.lent s9)), (8, .imm (AV.int .i64 i33)), (9, .imm (AV.int .i64 i34)), (10, .imm (AV.int .i64 i35)), (11, .imm (AV.int .i64 i36))], []⟩) s6 s7 l3 l4 i7 i8 i9 i10 i11 i12 := by
  kernel_rfl
theorem law02LinesSplit_L1_eq (R : Nat → List AV → Option Res) (N : Nat) (K : Ex → St → Option Res) : ∀ (n : Nat) (s6 : List UInt8) (s7 : List UInt8) (l3 : List AV) (l4 : List AV) (i7 : Int) (i8 : Int) (i9 : Int) (i10 : Int) (i11 : Int) (i12 : Int),
    rounds [0, 5, 6, 7, 8, 9, 10, 11, 54, 55] [] (evC gl R N law02LinesSplit_c0) K n ⟨[(0, .imm (AV.bytes s6)), (5, .imm (AV.lent s7)), (6, .imm (AV.row 3 l3)), (7, .imm (AV.row 3 l4)), (8, .imm (AV.int .i64 i7)), (9, .imm (AV.int .i64 i8)), (10, .imm (AV.int .i64 i9)), (11, .imm (AV.int .i64 i10)), (54, .imm (AV.int .i64 i11)), (55, .imm (AV.int .i64 i12))], []⟩ = law02LinesSplit_L1 R N (fun (b3 : Bool) => K .ret ⟨[(4, .imm (AV.bool b3))], []⟩) (fun (s8 : List UInt8) (s9 : List UInt8) (i33 : Int) (i34 : Int) (i35 : Int) (i36 : Int) => K (.exit 0) ⟨[(0, .imm (AV.bytes s8)), (5, .imm (AV.lent s9)), (8, .imm (AV.int .i64 i33)), (9, .imm (AV.int .i64 i34)), (10, .imm (AV.int .i64 i35)), (11, .imm (AV.int .i64 i36))], []⟩) n s6 s7 l3 l4 i7 i8 i9 i10 i11 i12
  | 0, _, _, _, _, _, _, _, _, _, _ => rfl
  | n + 1, s6, s7, l3, l4, i7, i8, i9, i10, i11, i12 => (law02LinesSplit_L1s_eq R N K (rounds [0, 5, 6, 7, 8, 9, 10, 11, 54, 55] [] (evC gl R N law02LinesSplit_c0) K n) s6 s7 l3 l4 i7 i8 i9 i10 i11 i12).trans
      (congrArg (fun go => law02LinesSplit_L1s R N go (fun (b3 : Bool) => K .ret ⟨[(4, .imm (AV.bool b3))], []⟩) (fun (s8 : List UInt8) (s9 : List UInt8) (i33 : Int) (i34 : Int) (i35 : Int) (i36 : Int) => K (.exit 0) ⟨[(0, .imm (AV.bytes s8)), (5, .imm (AV.lent s9)), (8, .imm (AV.int .i64 i33)), (9, .imm (AV.int .i64 i34)), (10, .imm (AV.int .i64 i35)), (11, .imm (AV.int .i64 i36))], []⟩) s6 s7 l3 l4 i7 i8 i9 i10 i11 i12) (funext fun s6 => funext fun s7 => funext fun l3 => funext fun l4 => funext fun i7 => funext fun i8 => funext fun i9 => funext fun i10 => funext fun i11 => funext fun i12 => law02LinesSplit_L1_eq R N K n s6 s7 l3 l4 i7 i8 i9 i10 i11 i12))
def law02LinesSplit_c1 : AC := .seq (.region [.op (some 98) none (.mv (.t 8)), .op (some 99) none (.mv (.t 10)), .op (some 100) none (.bin .eql (.t 98) (.t 99)), .op (some 101) none (.mv (.t 100)), .split 101, .op (some 102) (some (101, true)) (.mv (.t 9)), .op (some 103) (some (101, true)) (.mv (.t 11)), .op (some 104) (some (101, true)) (.bin .eql (.t 102) (.t 103)), .op (some 105) none (.pick (.t 101) (.t 104) (.k (AV.bool false))), .op (some 106) none (.mv (.t 105)), .split 106, .op (some 107) (some (106, true)) (.mv (.t 5)), .op (some 108) (some (106, true)) (.mv (.t 0)), .op (some 109) (some (106, true)) (.call id_keepIntact [.t 107, .t 108] (.bool)), .op (some 110) none (.pick (.t 106) (.t 109) (.k (AV.bool false))), .op (some 111) none (.mv (.t 110)), .split 111, .op (some 112) (some (111, true)) (.call id_law02Wakes [] (.bool)), .op (some 113) none (.pick (.t 111) (.t 112) (.k (AV.bool false))), .op (some 4) none (.mv (.t 113))]) (.ret [4] [])
def law02LinesSplit_c2 : AC := .seq (.region [.op (some 4) none (.mv (.k (AV.bool false)))]) (.seq (.region [.op (some 13) none (.mv (.t 0)), .op (some 14) none (.call id_keepCutByte [.t 13, .k (AV.int .i64 200)] (.bytes)), .op (some 0) none (.mv (.t 14))]) (.seq (.region [.op (some 15) none (.mv (.t 0)), .op (some 16) none (.call id_keepLend [.t 15] (.lent)), .op (some 5) none (.mv (.t 16))]) (.seq (.region [.op (some 17) none (.weak (.t 5)), .op (some 18) none (.call id_linesSplit [.t 17] (.row 3)), .op (some 6) none (.mv (.t 18))]) (.seq (.region [.op (some 19) none (.mv (.t 0)), .op (some 20) none (.call id_ref01Split [.t 19] (.row 3)), .op (some 7) none (.mv (.t 20))]) (.seq (.seq (.region [.op (some 21) none (.mv (.t 6)), .op (some 22) none (.len (.t 21) false), .op (some 23) none (.mv (.t 7)), .op (some 24) none (.len (.t 23) false), .op (some 25) none (.bin .neq (.t 22) (.t 24)), .op (some 26) none (.mv (.t 25)), .split 26, .op (some 27) (some (26, false)) (.weak (.t 5)), .op (some 28) (some (26, false)) (.call id_linesBreak [.t 27] (.str)), .op (some 29) (some (26, false)) (.mv (.t 0)), .op (some 30) (some (26, false)) (.call id_ref01Break [.t 29] (.str)), .op (some 31) (some (26, false)) (.bin .neq (.t 28) (.t 30)), .op (some 32) none (.pick (.t 26) (.k (AV.bool true)) (.t 31))]) (.cond (.t 32) (.seq (.region [.op (some 4) none (.mv (.k (AV.bool false)))]) (.ret [4] [])) (.skip))) (.seq (.seq (.region [.op (some 33) none (.mv (.t 1)), .op (some 34) none (.bin .rem (.t 33) (.k (AV.int .i64 4))), .op (some 35) none (.bin .neq (.t 34) (.k (AV.int .i64 3)))]) (.cond (.t 35) (.region [.op (some 36) none (.mv (.t 1)), .op (some 37) none (.mv (.t 0)), .op (some 38) none (.len (.t 37) false), .op (some 39) none (.bin .add (.t 38) (.k (AV.int .i64 2))), .op (some 40) none (.call id_keepWithin [.t 36, .t 39] (.int .i64)), .op (some 1) none (.mv (.t 40))]) (.skip))) (.seq (.region [.op (some 42) none (.mv (.t 6)), .op (some 43) none (.mv (.t 1)), .op (some 44) none (.call id_linesAt [.t 42, .t 43] (.tup [.int .i64, .int .i64])), .op (some 41) none (.mv (.t 44)), .op (some 45) none (.extract (.t 41) 0), .op (some 46) none (.extract (.t 41) 1), .op (some 8) none (.mv (.t 45)), .op (some 9) none (.mv (.t 46))]) (.seq (.region [.op (some 48) none (.mv (.t 7)), .op (some 49) none (.mv (.t 1)), .op (some 50) none (.call id_ref01At [.t 48, .t 49] (.tup [.int .i64, .int .i64])), .op (some 47) none (.mv (.t 50)), .op (some 51) none (.extract (.t 47) 0), .op (some 52) none (.extract (.t 47) 1), .op (some 10) none (.mv (.t 51)), .op (some 11) none (.mv (.t 52))]) (.seq (.seq (.region [.op (some 53) none (.mv (.t 6)), .op (some 54) none (.len (.t 53) false), .op (some 55) none (.mv (.k (AV.int .i64 0)))]) (.block 0 (.loop [0, 5, 6, 7, 8, 9, 10, 11, 54, 55] [] (law02LinesSplit_c0)))) (law02LinesSplit_c1))))))))))
def law02LinesSplit : AFunc := ⟨2, 114, [.tmp 4], law02LinesSplit_c2⟩
def law02LinesSplitr (R : Nat → List AV → Option Res) (N : Nat) (s1 : List UInt8) (i1 : Int) : Option Res :=
  (R id_keepCutByte [AV.bytes s1, AV.int .i64 200]).bind fun r1 =>
  asY r1.v fun s2 =>
  (R id_keepLend [AV.bytes s2]).bind fun r2 =>
  asL r2.v fun s3 =>
  (R id_linesSplit [AV.bytes s3]).bind fun r3 =>
  asR 3 r3.v fun l1 =>
  (R id_ref01Split [AV.bytes s2]).bind fun r4 =>
  asR 3 r4.v fun l2 =>
  bif (((l1.length : Nat) : Int) : Int) != ((l2.length : Nat) : Int) then
    (some ⟨AV.bool false, false, []⟩)
  else
    (R id_linesBreak [AV.bytes s3]).bind fun r5 =>
    asS r5.v fun s4 =>
    (R id_ref01Break [AV.bytes s2]).bind fun r6 =>
    asS r6.v fun s5 =>
    bif !(s4 == s5) then
      (some ⟨AV.bool false, false, []⟩)
    else
      need (!decide (4 = 0)) <|
      bif ((Int.tmod i1 4) : Int) != 3 then
        ((R id_keepWithin [AV.int .i64 i1, AV.int .i64 (IntKind.i64.wrap (((s2.length : Nat) : Int) + 2))]).bind fun r7 =>
        asI .i64 r7.v fun i2 =>
        (R id_linesAt [AV.row 3 l1, AV.int .i64 i2]).bind fun r8 =>
        asIIT r8.v fun i3 i4 =>
        (R id_ref01At [AV.row 3 l2, AV.int .i64 i2]).bind fun r9 =>
        asIIT r9.v fun i5 i6 =>
        law02LinesSplit_L1 R N
          (fun b5 =>
            some ⟨AV.bool b5, false, []⟩)
          (fun s12 s13 i41 i42 i43 i44 =>
            bif (i41 : Int) == i43 then
              (bif (i42 : Int) == i44 then
                ((R id_keepIntact [AV.lent s13, AV.bytes s12]).bind fun r14 =>
                asB r14.v fun b6 =>
                bif b6 then
                  ((R id_law02Wakes []).bind fun r15 =>
                  asB r15.v fun b7 =>
                  some ⟨AV.bool b7, false, []⟩)
                else
                  some ⟨AV.bool false, false, []⟩)
              else
                some ⟨AV.bool false, false, []⟩)
            else
              some ⟨AV.bool false, false, []⟩)
          N s2 s3 l1 l2 i3 i4 i5 i6 ((l1.length : Nat) : Int) 0)
      else
        (R id_linesAt [AV.row 3 l1, AV.int .i64 i1]).bind fun r16 =>
        asIIT r16.v fun i45 i46 =>
        (R id_ref01At [AV.row 3 l2, AV.int .i64 i1]).bind fun r17 =>
        asIIT r17.v fun i47 i48 =>
        law02LinesSplit_L1 R N
          (fun b8 =>
            some ⟨AV.bool b8, false, []⟩)
          (fun s14 s15 i49 i50 i51 i52 =>
            bif (i49 : Int) == i51 then
              (bif (i50 : Int) == i52 then
                ((R id_keepIntact [AV.lent s15, AV.bytes s14]).bind fun r18 =>
                asB r18.v fun b9 =>
                bif b9 then
                  ((R id_law02Wakes []).bind fun r19 =>
                  asB r19.v fun b10 =>
                  some ⟨AV.bool b10, false, []⟩)
                else
                  some ⟨AV.bool false, false, []⟩)
              else
                some ⟨AV.bool false, false, []⟩)
            else
              some ⟨AV.bool false, false, []⟩)
          N s2 s3 l1 l2 i45 i46 i47 i48 ((l1.length : Nat) : Int) 0
theorem law02LinesSplit_eq (R : Nat → List AV → Option Res) (N : Nat) (s1 : List UInt8) (i1 : Int) : runF gl R N law02LinesSplit [AV.bytes s1, AV.int .i64 i1] = law02LinesSplitr R N s1 i1 := by
  refine Eq.trans (b :=
      (R id_keepCutByte [AV.bytes s1, AV.int .i64 200]).bind fun r1 =>
      asY r1.v fun s2 =>
      (R id_keepLend [AV.bytes s2]).bind fun r2 =>
      asL r2.v fun s3 =>
      (R id_linesSplit [AV.bytes s3]).bind fun r3 =>
      asR 3 r3.v fun l1 =>
      (R id_ref01Split [AV.bytes s2]).bind fun r4 =>
      asR 3 r4.v fun l2 =>
      bif (((l1.length : Nat) : Int) : Int) != ((l2.length : Nat) : Int) then
        (some ⟨AV.bool false, false, []⟩)
      else
        (R id_linesBreak [AV.bytes s3]).bind fun r5 =>
        asS r5.v fun s4 =>
        (R id_ref01Break [AV.bytes s2]).bind fun r6 =>
        asS r6.v fun s5 =>
        bif !(s4 == s5) then
          (some ⟨AV.bool false, false, []⟩)
        else
          need (!decide (4 = 0)) <|
          bif ((Int.tmod i1 4) : Int) != 3 then
            ((R id_keepWithin [AV.int .i64 i1, AV.int .i64 (IntKind.i64.wrap (((s2.length : Nat) : Int) + 2))]).bind fun r7 =>
            asI .i64 r7.v fun i2 =>
            (R id_linesAt [AV.row 3 l1, AV.int .i64 i2]).bind fun r8 =>
            asIIT r8.v fun i3 i4 =>
            (R id_ref01At [AV.row 3 l2, AV.int .i64 i2]).bind fun r9 =>
            asIIT r9.v fun i5 i6 =>
            rounds [0, 5, 6, 7, 8, 9, 10, 11, 54, 55] [] (evC gl R N law02LinesSplit_c0) (Kblock 0 (Kthen gl R N law02LinesSplit_c1 (Kret law02LinesSplit.rets))) N ⟨[(0, .imm (AV.bytes s2)), (5, .imm (AV.lent s3)), (6, .imm (AV.row 3 l1)), (7, .imm (AV.row 3 l2)), (8, .imm (AV.int .i64 i3)), (9, .imm (AV.int .i64 i4)), (10, .imm (AV.int .i64 i5)), (11, .imm (AV.int .i64 i6)), (54, .imm (AV.int .i64 ((l1.length : Nat) : Int))), (55, .imm (AV.int .i64 0))], []⟩)
          else
            (R id_linesAt [AV.row 3 l1, AV.int .i64 i1]).bind fun r16 =>
            asIIT r16.v fun i45 i46 =>
            (R id_ref01At [AV.row 3 l2, AV.int .i64 i1]).bind fun r17 =>
            asIIT r17.v fun i47 i48 =>
            rounds [0, 5, 6, 7, 8, 9, 10, 11, 54, 55] [] (evC gl R N law02LinesSplit_c0) (Kblock 0 (Kthen gl R N law02LinesSplit_c1 (Kret law02LinesSplit.rets))) N ⟨[(0, .imm (AV.bytes s2)), (5, .imm (AV.lent s3)), (6, .imm (AV.row 3 l1)), (7, .imm (AV.row 3 l2)), (8, .imm (AV.int .i64 i45)), (9, .imm (AV.int .i64 i46)), (10, .imm (AV.int .i64 i47)), (11, .imm (AV.int .i64 i48)), (54, .imm (AV.int .i64 ((l1.length : Nat) : Int))), (55, .imm (AV.int .i64 0))], []⟩) (by kernel_rfl) ?_
  simp (config := { maxSteps := 100000000 }) only [law02LinesSplit_L1_eq]
  kernel_rfl
theorem law02LinesSplit_fit : fitF Tryd.prog law02LinesSplit Tryd.f12 = true := by
  kernel_rfl

def table : List (Nat × AFunc) := [(id_keepWithin, keepWithin), (id_charsPrintable, charsPrintable), (id_unicodeUtf8DecodeRuneSlow, unicodeUtf8DecodeRuneSlow), (id_unicodeUtf8DecodeRune, unicodeUtf8DecodeRune), (id_charsRune, charsRune), (id_charsCheck, charsCheck), (id_charsDigit, charsDigit), (id_charsLetter, charsLetter), (id_charsName, charsName), (id_law01Wakes, law01Wakes), (id_keepText, keepText), (id_law01CharsBack, law01CharsBack), (id_law01CharsReturns, law01CharsReturns), (id_law01CharsNames, law01CharsNames), (id_keepCopyByte, keepCopyByte), (id_keepCutByte, keepCutByte), (id_ref01Rune, ref01Rune), (id_ref01Printable, ref01Printable), (id_law01CharsRunes, law01CharsRunes), (id_law01CharsWhole, law01CharsWhole), (id_law01CharsLong, law01CharsLong), (id_charsSpace, charsSpace), (id_law01CharsKinds, law01CharsKinds), (id_keepLend, keepLend), (id_ref01Marked, ref01Marked), (id_ref01Check, ref01Check), (id_keepIntact, keepIntact), (id_ref01Letter, ref01Letter), (id_ref01Name, ref01Name), (id_law01CharsChecks, law01CharsChecks), (id_bytesEqual, bytesEqual), (id_bytesHasPrefix, bytesHasPrefix), (id_bytesIndexByte, bytesIndexByte), (id_linesSplit, linesSplit), (id_linesText, linesText), (id_bytesTrimLeftByte, bytesTrimLeftByte), (id_bytesMakeASCIISet, bytesMakeASCIISet), (id_bytesAsciiSetContains, bytesAsciiSetContains), (id_bytesTrimLeftASCII, bytesTrimLeftASCII), (id_bytesContainsRune, bytesContainsRune), (id_bytesTrimLeftUnicode, bytesTrimLeftUnicode), (id_bytesTrimLeft, bytesTrimLeft), (id_linesIndent, linesIndent), (id_linesBlank, linesBlank), (id_linesBreak, linesBreak), (id_law02Wakes, law02Wakes), (id_law02LinesBlanks, law02LinesBlanks), (id_ref01Split, ref01Split), (id_ref01Break, ref01Break), (id_linesAt, linesAt), (id_ref01At, ref01At), (id_ref01Indent, ref01Indent), (id_ref01Blank, ref01Blank), (id_law02LinesSplit, law02LinesSplit)]
theorem table_fits : Fits Tryd.prog table := ⟨⟨_, Tryd.func13, keepWithin_fit⟩, ⟨_, Tryd.func14, charsPrintable_fit⟩, ⟨_, Tryd.func49, unicodeUtf8DecodeRuneSlow_fit⟩, ⟨_, Tryd.func40, unicodeUtf8DecodeRune_fit⟩, ⟨_, Tryd.func16, charsRune_fit⟩, ⟨_, Tryd.func18, charsCheck_fit⟩, ⟨_, Tryd.func24, charsDigit_fit⟩, ⟨_, Tryd.func41, charsLetter_fit⟩, ⟨_, Tryd.func19, charsName_fit⟩, ⟨_, Tryd.func15, law01Wakes_fit⟩, ⟨_, Tryd.func17, keepText_fit⟩, ⟨_, Tryd.func3, law01CharsBack_fit⟩, ⟨_, Tryd.func4, law01CharsReturns_fit⟩, ⟨_, Tryd.func5, law01CharsNames_fit⟩, ⟨_, Tryd.func42, keepCopyByte_fit⟩, ⟨_, Tryd.func20, keepCutByte_fit⟩, ⟨_, Tryd.func21, ref01Rune_fit⟩, ⟨_, Tryd.func22, ref01Printable_fit⟩, ⟨_, Tryd.func6, law01CharsRunes_fit⟩, ⟨_, Tryd.func7, law01CharsWhole_fit⟩, ⟨_, Tryd.func8, law01CharsLong_fit⟩, ⟨_, Tryd.func23, charsSpace_fit⟩, ⟨_, Tryd.func9, law01CharsKinds_fit⟩, ⟨_, Tryd.func25, keepLend_fit⟩, ⟨_, Tryd.func43, ref01Marked_fit⟩, ⟨_, Tryd.func26, ref01Check_fit⟩, ⟨_, Tryd.func27, keepIntact_fit⟩, ⟨_, Tryd.func44, ref01Letter_fit⟩, ⟨_, Tryd.func28, ref01Name_fit⟩, ⟨_, Tryd.func10, law01CharsChecks_fit⟩, ⟨_, Tryd.func50, bytesEqual_fit⟩, ⟨_, Tryd.func45, bytesHasPrefix_fit⟩, ⟨_, Tryd.func46, bytesIndexByte_fit⟩, ⟨_, Tryd.func29, linesSplit_fit⟩, ⟨_, Tryd.func47, linesText_fit⟩, ⟨_, Tryd.func52, bytesTrimLeftByte_fit⟩, ⟨_, Tryd.func53, bytesMakeASCIISet_fit⟩, ⟨_, Tryd.func56, bytesAsciiSetContains_fit⟩, ⟨_, Tryd.func54, bytesTrimLeftASCII_fit⟩, ⟨_, Tryd.func57, bytesContainsRune_fit⟩, ⟨_, Tryd.func55, bytesTrimLeftUnicode_fit⟩, ⟨_, Tryd.func48, bytesTrimLeft_fit⟩, ⟨_, Tryd.func30, linesIndent_fit⟩, ⟨_, Tryd.func31, linesBlank_fit⟩, ⟨_, Tryd.func32, linesBreak_fit⟩, ⟨_, Tryd.func33, law02Wakes_fit⟩, ⟨_, Tryd.func11, law02LinesBlanks_fit⟩, ⟨_, Tryd.func34, ref01Split_fit⟩, ⟨_, Tryd.func35, ref01Break_fit⟩, ⟨_, Tryd.func36, linesAt_fit⟩, ⟨_, Tryd.func37, ref01At_fit⟩, ⟨_, Tryd.func38, ref01Indent_fit⟩, ⟨_, Tryd.func39, ref01Blank_fit⟩, ⟨_, Tryd.func12, law02LinesSplit_fit⟩, trivial⟩
theorem table_fit : ∀ f F, get table f = some F → ∃ fn, Tryd.prog.funcs[f]? = some fn ∧ fitF Tryd.prog F fn = true := table_fits.get
end Go.Proofs.YtnapopfbmdghkaaDoor.Vf
