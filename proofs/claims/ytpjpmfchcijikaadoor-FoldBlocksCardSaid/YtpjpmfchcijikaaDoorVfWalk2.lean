/- The code of the functions that the statements reach, as our evaluator takes it, and what each of them comes to, readably: printed by a program of ours. No condition. -/
import Derived.Test.YtpjpmfchcijikaaDoorVfWalk1
namespace Go.Proofs.YtpjpmfchcijikaaDoor.Vf
set_option linter.unusedVariables false
set_option linter.unusedSimpArgs false
set_option maxRecDepth 100000


def ref01Body_L1s (R : Nat → List AV → Option Res) (N : Nat) (go : List UInt8 → List AV → Int → Int → Int → Bool → Bool → Bool → Int → Option Res) (k0 : List UInt8 → List AV → Int → Int → Int → Bool → Bool → Bool → Int → Option Res) (s2 : List UInt8) (l2 : List AV) (i4 : Int) (i5 : Int) (i6 : Int) (b4 : Bool) (b5 : Bool) (b6 : Bool) (i7 : Int) : Option Res :=
  bif decide ((i6 : Int) < ((l2.length : Nat) : Int)) then
    (need (decide (0 ≤ (i6 : Int))) <|
    (l2[Int.toNat i6]?).bind fun e1 =>
    asIIIA e1 fun i8 i9 i10 =>
    (R id_ref01Blank [AV.bytes s2, AV.agg [AV.int .i64 i8, AV.int .i64 i9, AV.int .i64 i10]]).bind fun r1 =>
    asB r1.v fun b7 =>
    bif b7 then
      (go s2 l2 i4 i5 (IntKind.i64.wrap (i6 + 1)) b4 b5 b6 i7)
    else
      k0 s2 l2 i4 i5 i6 b4 b5 b6 i7)
  else
    k0 s2 l2 i4 i5 i6 b4 b5 b6 i7
def ref01Body_L1 (R : Nat → List AV → Option Res) (N : Nat) (k0 : List UInt8 → List AV → Int → Int → Int → Bool → Bool → Bool → Int → Option Res) : Nat → List UInt8 → List AV → Int → Int → Int → Bool → Bool → Bool → Int → Option Res
  | 0, _, _, _, _, _, _, _, _, _ => none
  | n + 1, s2, l2, i4, i5, i6, b4, b5, b6, i7 => ref01Body_L1s R N (ref01Body_L1 R N k0 n) k0 s2 l2 i4 i5 i6 b4 b5 b6 i7
def ref01Body_c0 : AC := .seq (.seq (.region [.op (some 20) none (.mv (.t 13)), .op (some 21) none (.mv (.t 1)), .op (some 22) none (.len (.t 21) false), .op (some 23) none (.bin .lss (.t 20) (.t 22)), .op (some 24) none (.mv (.t 23)), .split 24, .op (some 25) (some (24, true)) (.mv (.t 0)), .op (some 26) (some (24, true)) (.mv (.t 1)), .op (some 27) (some (24, true)) (.mv (.t 13)), .op (some 28) (some (24, true)) (.iaddr (.t 26) (.t 27) 3 (.agg [.int .i64, .int .i64, .int .i64])), .op (some 29) (some (24, true)) (.load (.t 28) (some 3) (.agg [.int .i64, .int .i64, .int .i64])), .op (some 30) (some (24, true)) (.call id_ref01Blank [.t 25, .t 29] (.bool)), .op (some 31) none (.pick (.t 24) (.t 30) (.k (AV.bool false)))]) (.cond (.t 31) (.skip) (.exit 0 [0, 1, 2, 3, 9, 13] [1009]))) (.block 1 (.region [.op (some 32) none (.mv (.t 13)), .op (some 33) none (.bin .add (.t 32) (.k (AV.int .i64 1))), .op (some 13) none (.mv (.t 33))]))
theorem ref01Body_L1s_eq (R : Nat → List AV → Option Res) (N : Nat) (K : Ex → St → Option Res) (W : St → Option Res) (s2 : List UInt8) (l2 : List AV) (i4 : Int) (i5 : Int) (i6 : Int) (b4 : Bool) (b5 : Bool) (b6 : Bool) (i7 : Int) :
    evC gl R N ref01Body_c0 (Kseq (fun st' => W (prune [0, 1, 2, 3, 9, 13] [1009] st')) K) ⟨[(0, .imm (AV.bytes s2)), (1, .imm (AV.row 3 l2)), (2, .imm (AV.int .i64 i4)), (3, .imm (AV.int .i64 i5)), (9, .ptr 1009 0 0), (13, .imm (AV.int .i64 i6))], [(1009, .box [.imm (AV.bool b4), .imm (AV.bool b5), .imm (AV.bool b6), .imm (AV.int .i64 i7)])]⟩ =
    ref01Body_L1s R N (fun (s2 : List UInt8) (l2 : List AV) (i4 : Int) (i5 : Int) (i6 : Int) (b4 : Bool) (b5 : Bool) (b6 : Bool) (i7 : Int) => W ⟨[(0, .imm (AV.bytes s2)), (1, .imm (AV.row 3 l2)), (2, .imm (AV.int .i64 i4)), (3, .imm (AV.int .i64 i5)), (9, .ptr 1009 0 0), (13, .imm (AV.int .i64 i6))], [(1009, .box [.imm (AV.bool b4), .imm (AV.bool b5), .imm (AV.bool b6), .imm (AV.int .i64 i7)])]⟩) (fun (s3 : List UInt8) (l3 : List AV) (i11 : Int) (i12 : Int) (i13 : Int) (b8 : Bool) (b9 : Bool) (b10 : Bool) (i14 : Int) => K (.exit 0) ⟨[(0, .imm (AV.bytes s3)), (1, .imm (AV.row 3 l3)), (2, .imm (AV.int .i64 i11)), (3, .imm (AV.int .i64 i12)), (9, .ptr 1009 0 0), (13, .imm (AV.int .i64 i13))], [(1009, .box [.imm (AV.bool b8), .imm (AV.bool b9), .imm (AV.bool b10), .imm (AV.int .i64 i14)])]⟩) s2 l2 i4 i5 i6 b4 b5 b6 i7 := by
  kernel_rfl
theorem ref01Body_L1_eq (R : Nat → List AV → Option Res) (N : Nat) (K : Ex → St → Option Res) : ∀ (n : Nat) (s2 : List UInt8) (l2 : List AV) (i4 : Int) (i5 : Int) (i6 : Int) (b4 : Bool) (b5 : Bool) (b6 : Bool) (i7 : Int),
    rounds [0, 1, 2, 3, 9, 13] [1009] (evC gl R N ref01Body_c0) K n ⟨[(0, .imm (AV.bytes s2)), (1, .imm (AV.row 3 l2)), (2, .imm (AV.int .i64 i4)), (3, .imm (AV.int .i64 i5)), (9, .ptr 1009 0 0), (13, .imm (AV.int .i64 i6))], [(1009, .box [.imm (AV.bool b4), .imm (AV.bool b5), .imm (AV.bool b6), .imm (AV.int .i64 i7)])]⟩ = ref01Body_L1 R N (fun (s3 : List UInt8) (l3 : List AV) (i11 : Int) (i12 : Int) (i13 : Int) (b8 : Bool) (b9 : Bool) (b10 : Bool) (i14 : Int) => K (.exit 0) ⟨[(0, .imm (AV.bytes s3)), (1, .imm (AV.row 3 l3)), (2, .imm (AV.int .i64 i11)), (3, .imm (AV.int .i64 i12)), (9, .ptr 1009 0 0), (13, .imm (AV.int .i64 i13))], [(1009, .box [.imm (AV.bool b8), .imm (AV.bool b9), .imm (AV.bool b10), .imm (AV.int .i64 i14)])]⟩) n s2 l2 i4 i5 i6 b4 b5 b6 i7
  | 0, _, _, _, _, _, _, _, _, _ => rfl
  | n + 1, s2, l2, i4, i5, i6, b4, b5, b6, i7 => (ref01Body_L1s_eq R N K (rounds [0, 1, 2, 3, 9, 13] [1009] (evC gl R N ref01Body_c0) K n) s2 l2 i4 i5 i6 b4 b5 b6 i7).trans
      (congrArg (fun go => ref01Body_L1s R N go (fun (s3 : List UInt8) (l3 : List AV) (i11 : Int) (i12 : Int) (i13 : Int) (b8 : Bool) (b9 : Bool) (b10 : Bool) (i14 : Int) => K (.exit 0) ⟨[(0, .imm (AV.bytes s3)), (1, .imm (AV.row 3 l3)), (2, .imm (AV.int .i64 i11)), (3, .imm (AV.int .i64 i12)), (9, .ptr 1009 0 0), (13, .imm (AV.int .i64 i13))], [(1009, .box [.imm (AV.bool b8), .imm (AV.bool b9), .imm (AV.bool b10), .imm (AV.int .i64 i14)])]⟩) s2 l2 i4 i5 i6 b4 b5 b6 i7) (funext fun s2 => funext fun l2 => funext fun i4 => funext fun i5 => funext fun i6 => funext fun b4 => funext fun b5 => funext fun b6 => funext fun i7 => ref01Body_L1_eq R N K n s2 l2 i4 i5 i6 b4 b5 b6 i7))
def ref01Body_L2s (R : Nat → List AV → Option Res) (N : Nat) (go : List UInt8 → List AV → Int → Bool → Int → List AV → Option Res) (k0 : Int → Bool → List AV → Option Res) (k1 : Int → List AV → Option Res) (s6 : List UInt8) (l6 : List AV) (i23 : Int) (b17 : Bool) (i24 : Int) (l7 : List AV) : Option Res :=
  bif decide ((i24 : Int) < ((l6.length : Nat) : Int)) then
    (need (decide (0 ≤ (i24 : Int))) <|
    (l6[Int.toNat i24]?).bind fun e2 =>
    asIIIA e2 fun i25 i26 i27 =>
    (R id_ref01Blank [AV.bytes s6, AV.agg [AV.int .i64 i25, AV.int .i64 i26, AV.int .i64 i27]]).bind fun r2 =>
    asB r2.v fun b18 =>
    bif b18 then
      (bif decide (((IntKind.i64.wrap (i26 - i25)) : Int) > i23) then
        (k0 0 false [])
      else
        need (decide (((l7.drop 0).take l7.length).length + [AV.str ([] : List UInt8)].length ≤ 1099511627776)) <|
        go s6 l6 i23 b17 (IntKind.i64.wrap (i24 + 1)) (((l7.drop 0).take l7.length) ++ [AV.str ([] : List UInt8)]))
    else
      bif b17 then
        (k1 i24 l7)
      else
        (R id_ref01Indent [AV.bytes s6, AV.agg [AV.int .i64 i25, AV.int .i64 i26, AV.int .i64 i27]]).bind fun r3 =>
        asI .i64 r3.v fun i28 =>
        bif decide ((i28 : Int) < i23) then
          (k1 i24 l7)
        else
          (R id_ref01Stop [AV.bytes s6, AV.agg [AV.int .i64 i25, AV.int .i64 i26, AV.int .i64 i27]]).bind fun r4 =>
          asB r4.v fun b19 =>
          bif b19 then
            (k1 i24 l7)
          else
            need (decide (0 ≤ (i26 : Int)) && decide ((i26 : Int) ≤ ((s6.length : Nat) : Int))) <|
            need (decide (0 ≤ (IntKind.i64.wrap (i25 + i23) : Int)) && decide ((IntKind.i64.wrap (i25 + i23) : Int) ≤ ((Int.toNat i26 : Nat) : Int))) <|
            need (decide (((l7.drop 0).take l7.length).length + [AV.str ((s6.take (Int.toNat i26)).drop (Int.toNat (IntKind.i64.wrap (i25 + i23))))].length ≤ 1099511627776)) <|
            go s6 l6 i23 b17 (IntKind.i64.wrap (i24 + 1)) (((l7.drop 0).take l7.length) ++ [AV.str ((s6.take (Int.toNat i26)).drop (Int.toNat (IntKind.i64.wrap (i25 + i23))))]))
  else
    k1 i24 l7
def ref01Body_L2 (R : Nat → List AV → Option Res) (N : Nat) (k0 : Int → Bool → List AV → Option Res) (k1 : Int → List AV → Option Res) : Nat → List UInt8 → List AV → Int → Bool → Int → List AV → Option Res
  | 0, _, _, _, _, _, _ => none
  | n + 1, s6, l6, i23, b17, i24, l7 => ref01Body_L2s R N (ref01Body_L2 R N k0 k1 n) k0 k1 s6 l6 i23 b17 i24 l7
def ref01Body_c1 : AC := .seq (.seq (.region [.op (some 76) none (.mv (.t 17)), .op (some 77) none (.mv (.t 1)), .op (some 78) none (.len (.t 77) false), .op (some 79) none (.bin .lss (.t 76) (.t 78))]) (.cond (.t 79) (.skip) (.exit 2 [16, 17] [16]))) (.seq (.block 3 (.seq (.region [.op (some 82) none (.mv (.t 1)), .op (some 83) none (.mv (.t 17)), .op (some 84) none (.iaddr (.t 82) (.t 83) 3 (.agg [.int .i64, .int .i64, .int .i64])), .op (some 85) none (.load (.t 84) (some 3) (.agg [.int .i64, .int .i64, .int .i64])), .op (some 18) none (.alloc 1018 [AV.int .i64 0, AV.int .i64 0, AV.int .i64 0]), .op none none (.store (.t 18) (.t 85) 3)]) (.seq (.seq (.region [.op (some 86) none (.mv (.t 0)), .op (some 87) none (.load (.t 18) (some 3) (.agg [.int .i64, .int .i64, .int .i64])), .op (some 88) none (.call id_ref01Blank [.t 86, .t 87] (.bool))]) (.cond (.t 88) (.seq (.seq (.region [.op (some 89) none (.faddr (.t 18) 1), .op (some 90) none (.load (.t 89) none (.int .i64)), .op (some 91) none (.faddr (.t 18) 0), .op (some 92) none (.load (.t 91) none (.int .i64)), .op (some 93) none (.bin .sub (.t 90) (.t 92)), .op (some 94) none (.mv (.t 14)), .op (some 95) none (.bin .gtr (.t 93) (.t 94))]) (.cond (.t 95) (.seq (.region [.op (some 10) none (.nilOwn 16 (some (1, .any))), .op (some 11) none (.mv (.k (AV.int .i64 0))), .op (some 12) none (.mv (.k (AV.bool false)))]) (.ret [10, 11, 12] [16])) (.skip))) (.seq (.region [.op (some 96) none (.mv (.t 16)), .op (some 97) none (.bslice [.k (AV.str ([] : List UInt8))] 1 false), .op (some 98) none (.app 16 (.t 96) (.t 97) 1 .any false), .op (some 16) none (.mv (.t 98))]) (.exit 3 [0, 1, 14, 15, 16, 17] [16]))) (.skip))) (.seq (.seq (.region [.op (some 99) none (.mv (.t 15)), .op (some 100) none (.mv (.t 99)), .split 100, .op (some 101) (some (100, false)) (.mv (.t 0)), .op (some 102) (some (100, false)) (.load (.t 18) (some 3) (.agg [.int .i64, .int .i64, .int .i64])), .op (some 103) (some (100, false)) (.call id_ref01Indent [.t 101, .t 102] (.int .i64)), .op (some 104) (some (100, false)) (.mv (.t 14)), .op (some 105) (some (100, false)) (.bin .lss (.t 103) (.t 104)), .op (some 106) none (.pick (.t 100) (.k (AV.bool true)) (.t 105)), .op (some 107) none (.mv (.t 106)), .split 107, .op (some 108) (some (107, false)) (.mv (.t 0)), .op (some 109) (some (107, false)) (.load (.t 18) (some 3) (.agg [.int .i64, .int .i64, .int .i64])), .op (some 110) (some (107, false)) (.call id_ref01Stop [.t 108, .t 109] (.bool)), .op (some 111) none (.pick (.t 107) (.k (AV.bool true)) (.t 110))]) (.cond (.t 111) (.exit 2 [16, 17] [16]) (.skip))) (.region [.op (some 112) none (.mv (.t 16)), .op (some 113) none (.mv (.t 0)), .op (some 114) none (.faddr (.t 18) 0), .op (some 115) none (.load (.t 114) none (.int .i64)), .op (some 116) none (.mv (.t 14)), .op (some 117) none (.bin .add (.t 115) (.t 116)), .op (some 118) none (.faddr (.t 18) 1), .op (some 119) none (.load (.t 118) none (.int .i64)), .op (some 120) none (.slice (.t 113) (some (.t 117)) (some (.t 119)) 1), .op (some 121) none (.cvStr (.t 120)), .op (some 122) none (.bslice [.t 121] 1 false), .op (some 123) none (.app 16 (.t 112) (.t 122) 1 .any false), .op (some 16) none (.mv (.t 123))]))))) (.region [.op (some 80) none (.mv (.t 17)), .op (some 81) none (.bin .add (.t 80) (.k (AV.int .i64 1))), .op (some 17) none (.mv (.t 81))]))
theorem ref01Body_L2s_eq (R : Nat → List AV → Option Res) (N : Nat) (K : Ex → St → Option Res) (W : St → Option Res) (s6 : List UInt8) (l6 : List AV) (i23 : Int) (b17 : Bool) (i24 : Int) (l7 : List AV) :
    evC gl R N ref01Body_c1 (Kseq (fun st' => W (prune [0, 1, 14, 15, 16, 17] [16] st')) K) ⟨[(0, .imm (AV.bytes s6)), (1, .imm (AV.row 3 l6)), (14, .imm (AV.int .i64 i23)), (15, .imm (AV.bool b17)), (16, .own 16 0 l7.length none), (17, .imm (AV.int .i64 i24))], [(16, .row 1 l7 false)]⟩ =
    ref01Body_L2s R N (fun (s6 : List UInt8) (l6 : List AV) (i23 : Int) (b17 : Bool) (i24 : Int) (l7 : List AV) => W ⟨[(0, .imm (AV.bytes s6)), (1, .imm (AV.row 3 l6)), (14, .imm (AV.int .i64 i23)), (15, .imm (AV.bool b17)), (16, .own 16 0 l7.length none), (17, .imm (AV.int .i64 i24))], [(16, .row 1 l7 false)]⟩) (fun (i29 : Int) (b20 : Bool) (l8 : List AV) => K .ret ⟨[(10, .own 16 0 l8.length none), (11, .imm (AV.int .i64 i29)), (12, .imm (AV.bool b20))], [(16, .row 1 l8 false)]⟩) (fun (i30 : Int) (l9 : List AV) => K (.exit 2) ⟨[(16, .own 16 0 l9.length none), (17, .imm (AV.int .i64 i30))], [(16, .row 1 l9 false)]⟩) s6 l6 i23 b17 i24 l7 := by
  kernel_rfl
theorem ref01Body_L2_eq (R : Nat → List AV → Option Res) (N : Nat) (K : Ex → St → Option Res) : ∀ (n : Nat) (s6 : List UInt8) (l6 : List AV) (i23 : Int) (b17 : Bool) (i24 : Int) (l7 : List AV),
    rounds [0, 1, 14, 15, 16, 17] [16] (evC gl R N ref01Body_c1) K n ⟨[(0, .imm (AV.bytes s6)), (1, .imm (AV.row 3 l6)), (14, .imm (AV.int .i64 i23)), (15, .imm (AV.bool b17)), (16, .own 16 0 l7.length none), (17, .imm (AV.int .i64 i24))], [(16, .row 1 l7 false)]⟩ = ref01Body_L2 R N (fun (i29 : Int) (b20 : Bool) (l8 : List AV) => K .ret ⟨[(10, .own 16 0 l8.length none), (11, .imm (AV.int .i64 i29)), (12, .imm (AV.bool b20))], [(16, .row 1 l8 false)]⟩) (fun (i30 : Int) (l9 : List AV) => K (.exit 2) ⟨[(16, .own 16 0 l9.length none), (17, .imm (AV.int .i64 i30))], [(16, .row 1 l9 false)]⟩) n s6 l6 i23 b17 i24 l7
  | 0, _, _, _, _, _, _ => rfl
  | n + 1, s6, l6, i23, b17, i24, l7 => (ref01Body_L2s_eq R N K (rounds [0, 1, 14, 15, 16, 17] [16] (evC gl R N ref01Body_c1) K n) s6 l6 i23 b17 i24 l7).trans
      (congrArg (fun go => ref01Body_L2s R N go (fun (i29 : Int) (b20 : Bool) (l8 : List AV) => K .ret ⟨[(10, .own 16 0 l8.length none), (11, .imm (AV.int .i64 i29)), (12, .imm (AV.bool b20))], [(16, .row 1 l8 false)]⟩) (fun (i30 : Int) (l9 : List AV) => K (.exit 2) ⟨[(16, .own 16 0 l9.length none), (17, .imm (AV.int .i64 i30))], [(16, .row 1 l9 false)]⟩) s6 l6 i23 b17 i24 l7) (funext fun s6 => funext fun l6 => funext fun i23 => funext fun b17 => funext fun i24 => funext fun l7 => ref01Body_L2_eq R N K n s6 l6 i23 b17 i24 l7))
def ref01Body_c2 : AC := .seq (.region [.op (some 124) none (.mv (.t 16)), .op (some 125) none (.mv (.t 17)), .op (some 10) none (.mv (.t 124)), .op (some 11) none (.mv (.t 125)), .op (some 12) none (.mv (.k (AV.bool true)))]) (.ret [10, 11, 12] [16])
def ref01Body_c3 : AC := .seq (.region [.op (some 34) none (.mv (.t 3)), .op (some 35) none (.mx [.t 34, .k (AV.int .i64 0)]), .op (some 36) none (.faddr (.t 9) 3), .op (some 37) none (.load (.t 36) none (.int .i64)), .op (some 38) none (.bin .add (.t 35) (.t 37)), .op (some 14) none (.mv (.t 38))]) (.seq (.region [.op (some 15) none (.mv (.k (AV.bool false)))]) (.seq (.seq (.region [.op (some 39) none (.faddr (.t 9) 3), .op (some 40) none (.load (.t 39) none (.int .i64)), .op (some 41) none (.bin .eql (.t 40) (.k (AV.int .i64 0)))]) (.cond (.t 41) (.seq (.region [.op (some 42) none (.mv (.t 13)), .op (some 43) none (.mv (.t 1)), .op (some 44) none (.len (.t 43) false), .op (some 45) none (.bin .geq (.t 42) (.t 44)), .op (some 46) none (.mv (.t 45)), .split 46, .op (some 47) (some (46, false)) (.mv (.t 0)), .op (some 48) (some (46, false)) (.mv (.t 1)), .op (some 49) (some (46, false)) (.mv (.t 13)), .op (some 50) (some (46, false)) (.iaddr (.t 48) (.t 49) 3 (.agg [.int .i64, .int .i64, .int .i64])), .op (some 51) (some (46, false)) (.load (.t 50) (some 3) (.agg [.int .i64, .int .i64, .int .i64])), .op (some 52) (some (46, false)) (.call id_ref01Indent [.t 47, .t 51] (.int .i64)), .op (some 53) (some (46, false)) (.mv (.t 3)), .op (some 54) (some (46, false)) (.bin .leq (.t 52) (.t 53)), .op (some 55) none (.pick (.t 46) (.k (AV.bool true)) (.t 54)), .op (some 56) none (.mv (.t 55)), .split 56, .op (some 57) (some (56, false)) (.mv (.t 0)), .op (some 58) (some (56, false)) (.mv (.t 1)), .op (some 59) (some (56, false)) (.mv (.t 13)), .op (some 60) (some (56, false)) (.iaddr (.t 58) (.t 59) 3 (.agg [.int .i64, .int .i64, .int .i64])), .op (some 61) (some (56, false)) (.load (.t 60) (some 3) (.agg [.int .i64, .int .i64, .int .i64])), .op (some 62) (some (56, false)) (.call id_ref01Stop [.t 57, .t 61] (.bool)), .op (some 63) none (.pick (.t 56) (.k (AV.bool true)) (.t 62)), .op (some 15) none (.mv (.t 63))]) (.seq (.region [.op (some 64) none (.mv (.t 3)), .op (some 65) none (.mx [.t 64, .k (AV.int .i64 0)]), .op (some 66) none (.bin .add (.t 65) (.k (AV.int .i64 1))), .op (some 14) none (.mv (.t 66))]) (.seq (.region [.op (some 67) none (.mv (.t 15)), .op (some 68) none (.un .not (.t 67))]) (.cond (.t 68) (.region [.op (some 69) none (.mv (.t 0)), .op (some 70) none (.mv (.t 1)), .op (some 71) none (.mv (.t 13)), .op (some 72) none (.iaddr (.t 70) (.t 71) 3 (.agg [.int .i64, .int .i64, .int .i64])), .op (some 73) none (.load (.t 72) (some 3) (.agg [.int .i64, .int .i64, .int .i64])), .op (some 74) none (.call id_ref01Indent [.t 69, .t 73] (.int .i64)), .op (some 14) none (.mv (.t 74))]) (.skip))))) (.skip))) (.seq (.region [.op (some 16) none (.nilOwn 16 (some (1, .any)))]) (.seq (.region [.op (some 75) none (.mv (.t 2)), .op (some 17) none (.mv (.t 75))]) (.seq (.block 2 (.loop [0, 1, 14, 15, 16, 17] [16] (ref01Body_c1))) (ref01Body_c2))))))
def ref01Body_c4 : AC := .seq (.region [.op (some 9) none (.box 1009 (.t 4) 4), .op (some 10) none (.nilOwn 16 (some (1, .any))), .op (some 11) none (.mv (.k (AV.int .i64 0))), .op (some 12) none (.mv (.k (AV.bool false)))]) (.seq (.region [.op (some 19) none (.mv (.t 2)), .op (some 13) none (.mv (.t 19))]) (.seq (.block 0 (.loop [0, 1, 2, 3, 9, 13] [1009] (ref01Body_c0))) (ref01Body_c3)))
def ref01Body : AFunc := ⟨5, 126, [.tmp 10, .tmp 11, .tmp 12], ref01Body_c4⟩
def ref01Bodyr (R : Nat → List AV → Option Res) (N : Nat) (s1 : List UInt8) (l1 : List AV) (i1 : Int) (i2 : Int) (b1 : Bool) (b2 : Bool) (b3 : Bool) (i3 : Int) : Option Res :=
  ref01Body_L1 R N
    (fun s5 l5 i19 i20 i21 b14 b15 b16 i22 =>
      bif (i22 : Int) == 0 then
        (bif decide ((i21 : Int) ≥ ((l5.length : Nat) : Int)) then
          (ref01Body_L2 R N
            (fun i33 b22 l12 =>
              some ⟨AV.tup [AV.row 1 ((l12.drop 0).take l12.length), AV.int .i64 i33, AV.bool b22], false, []⟩)
            (fun i34 l13 =>
              some ⟨AV.tup [AV.row 1 ((l13.drop 0).take l13.length), AV.int .i64 i34, AV.bool true], false, []⟩)
            N s5 l5 (IntKind.i64.wrap ((if 0 > i20 then 0 else i20) + 1)) true i19 [])
        else
          need (decide (0 ≤ (i21 : Int))) <|
          (l5[Int.toNat i21]?).bind fun e3 =>
          asIIIA e3 fun i35 i36 i37 =>
          (R id_ref01Indent [AV.bytes s5, AV.agg [AV.int .i64 i35, AV.int .i64 i36, AV.int .i64 i37]]).bind fun r5 =>
          asI .i64 r5.v fun i38 =>
          bif decide ((i38 : Int) ≤ i20) then
            (ref01Body_L2 R N
              (fun i39 b23 l14 =>
                some ⟨AV.tup [AV.row 1 ((l14.drop 0).take l14.length), AV.int .i64 i39, AV.bool b23], false, []⟩)
              (fun i40 l15 =>
                some ⟨AV.tup [AV.row 1 ((l15.drop 0).take l15.length), AV.int .i64 i40, AV.bool true], false, []⟩)
              N s5 l5 (IntKind.i64.wrap ((if 0 > i20 then 0 else i20) + 1)) true i19 [])
          else
            need (decide (0 ≤ (i21 : Int))) <|
            (l5[Int.toNat i21]?).bind fun e4 =>
            asIIIA e4 fun i41 i42 i43 =>
            (R id_ref01Stop [AV.bytes s5, AV.agg [AV.int .i64 i41, AV.int .i64 i42, AV.int .i64 i43]]).bind fun r6 =>
            asB r6.v fun b24 =>
            bif !b24 then
              (need (decide (0 ≤ (i21 : Int))) <|
              (l5[Int.toNat i21]?).bind fun e5 =>
              asIIIA e5 fun i44 i45 i46 =>
              (R id_ref01Indent [AV.bytes s5, AV.agg [AV.int .i64 i44, AV.int .i64 i45, AV.int .i64 i46]]).bind fun r7 =>
              asI .i64 r7.v fun i47 =>
              ref01Body_L2 R N
                (fun i48 b25 l16 =>
                  some ⟨AV.tup [AV.row 1 ((l16.drop 0).take l16.length), AV.int .i64 i48, AV.bool b25], false, []⟩)
                (fun i49 l17 =>
                  some ⟨AV.tup [AV.row 1 ((l17.drop 0).take l17.length), AV.int .i64 i49, AV.bool true], false, []⟩)
                N s5 l5 i47 b24 i19 [])
            else
              ref01Body_L2 R N
                (fun i50 b26 l18 =>
                  some ⟨AV.tup [AV.row 1 ((l18.drop 0).take l18.length), AV.int .i64 i50, AV.bool b26], false, []⟩)
                (fun i51 l19 =>
                  some ⟨AV.tup [AV.row 1 ((l19.drop 0).take l19.length), AV.int .i64 i51, AV.bool true], false, []⟩)
                N s5 l5 (IntKind.i64.wrap ((if 0 > i20 then 0 else i20) + 1)) b24 i19 [])
      else
        ref01Body_L2 R N
          (fun i52 b27 l20 =>
            some ⟨AV.tup [AV.row 1 ((l20.drop 0).take l20.length), AV.int .i64 i52, AV.bool b27], false, []⟩)
          (fun i53 l21 =>
            some ⟨AV.tup [AV.row 1 ((l21.drop 0).take l21.length), AV.int .i64 i53, AV.bool true], false, []⟩)
          N s5 l5 (IntKind.i64.wrap ((if 0 > i20 then 0 else i20) + i22)) false i19 [])
    N s1 l1 i1 i2 i1 b1 b2 b3 i3
theorem ref01Body_eq (R : Nat → List AV → Option Res) (N : Nat) (s1 : List UInt8) (l1 : List AV) (i1 : Int) (i2 : Int) (b1 : Bool) (b2 : Bool) (b3 : Bool) (i3 : Int) : runF gl R N ref01Body [AV.bytes s1, AV.row 3 l1, AV.int .i64 i1, AV.int .i64 i2, AV.agg [AV.bool b1, AV.bool b2, AV.bool b3, AV.int .i64 i3]] = ref01Bodyr R N s1 l1 i1 i2 b1 b2 b3 i3 := by
  refine Eq.trans (b :=
      rounds [0, 1, 2, 3, 9, 13] [1009] (evC gl R N ref01Body_c0) (Kblock 0 (Kthen gl R N ref01Body_c3 (Kret ref01Body.rets))) N ⟨[(0, .imm (AV.bytes s1)), (1, .imm (AV.row 3 l1)), (2, .imm (AV.int .i64 i1)), (3, .imm (AV.int .i64 i2)), (9, .ptr 1009 0 0), (13, .imm (AV.int .i64 i1))], [(1009, .box [.imm (AV.bool b1), .imm (AV.bool b2), .imm (AV.bool b3), .imm (AV.int .i64 i3)])]⟩) (by kernel_rfl) ?_
  simp (config := { maxSteps := 100000000 }) only [ref01Body_L1_eq, ref01Body_L2_eq]
  refine Eq.trans (b :=
      ref01Body_L1 R N
        (fun s5 l5 i19 i20 i21 b14 b15 b16 i22 =>
          bif (i22 : Int) == 0 then
            (bif decide ((i21 : Int) ≥ ((l5.length : Nat) : Int)) then
              (rounds [0, 1, 14, 15, 16, 17] [16] (evC gl R N ref01Body_c1) (Kblock 2 (Kthen gl R N ref01Body_c2 (Kret ref01Body.rets))) N ⟨[(0, .imm (AV.bytes s5)), (1, .imm (AV.row 3 l5)), (14, .imm (AV.int .i64 (IntKind.i64.wrap ((if 0 > i20 then 0 else i20) + 1)))), (15, .imm (AV.bool true)), (16, .own 16 0 (([] : List AV).length) none), (17, .imm (AV.int .i64 i19))], [(16, .row 1 [] false)]⟩)
            else
              need (decide (0 ≤ (i21 : Int))) <|
              (l5[Int.toNat i21]?).bind fun e3 =>
              asIIIA e3 fun i35 i36 i37 =>
              (R id_ref01Indent [AV.bytes s5, AV.agg [AV.int .i64 i35, AV.int .i64 i36, AV.int .i64 i37]]).bind fun r5 =>
              asI .i64 r5.v fun i38 =>
              bif decide ((i38 : Int) ≤ i20) then
                (rounds [0, 1, 14, 15, 16, 17] [16] (evC gl R N ref01Body_c1) (Kblock 2 (Kthen gl R N ref01Body_c2 (Kret ref01Body.rets))) N ⟨[(0, .imm (AV.bytes s5)), (1, .imm (AV.row 3 l5)), (14, .imm (AV.int .i64 (IntKind.i64.wrap ((if 0 > i20 then 0 else i20) + 1)))), (15, .imm (AV.bool true)), (16, .own 16 0 (([] : List AV).length) none), (17, .imm (AV.int .i64 i19))], [(16, .row 1 [] false)]⟩)
              else
                need (decide (0 ≤ (i21 : Int))) <|
                (l5[Int.toNat i21]?).bind fun e4 =>
                asIIIA e4 fun i41 i42 i43 =>
                (R id_ref01Stop [AV.bytes s5, AV.agg [AV.int .i64 i41, AV.int .i64 i42, AV.int .i64 i43]]).bind fun r6 =>
                asB r6.v fun b24 =>
                bif !b24 then
                  (need (decide (0 ≤ (i21 : Int))) <|
                  (l5[Int.toNat i21]?).bind fun e5 =>
                  asIIIA e5 fun i44 i45 i46 =>
                  (R id_ref01Indent [AV.bytes s5, AV.agg [AV.int .i64 i44, AV.int .i64 i45, AV.int .i64 i46]]).bind fun r7 =>
                  asI .i64 r7.v fun i47 =>
                  rounds [0, 1, 14, 15, 16, 17] [16] (evC gl R N ref01Body_c1) (Kblock 2 (Kthen gl R N ref01Body_c2 (Kret ref01Body.rets))) N ⟨[(0, .imm (AV.bytes s5)), (1, .imm (AV.row 3 l5)), (14, .imm (AV.int .i64 i47)), (15, .imm (AV.bool b24)), (16, .own 16 0 (([] : List AV).length) none), (17, .imm (AV.int .i64 i19))], [(16, .row 1 [] false)]⟩)
                else
                  rounds [0, 1, 14, 15, 16, 17] [16] (evC gl R N ref01Body_c1) (Kblock 2 (Kthen gl R N ref01Body_c2 (Kret ref01Body.rets))) N ⟨[(0, .imm (AV.bytes s5)), (1, .imm (AV.row 3 l5)), (14, .imm (AV.int .i64 (IntKind.i64.wrap ((if 0 > i20 then 0 else i20) + 1)))), (15, .imm (AV.bool b24)), (16, .own 16 0 (([] : List AV).length) none), (17, .imm (AV.int .i64 i19))], [(16, .row 1 [] false)]⟩)
          else
            rounds [0, 1, 14, 15, 16, 17] [16] (evC gl R N ref01Body_c1) (Kblock 2 (Kthen gl R N ref01Body_c2 (Kret ref01Body.rets))) N ⟨[(0, .imm (AV.bytes s5)), (1, .imm (AV.row 3 l5)), (14, .imm (AV.int .i64 (IntKind.i64.wrap ((if 0 > i20 then 0 else i20) + i22)))), (15, .imm (AV.bool false)), (16, .own 16 0 (([] : List AV).length) none), (17, .imm (AV.int .i64 i19))], [(16, .row 1 [] false)]⟩)
        N s1 l1 i1 i2 i1 b1 b2 b3 i3) (by kernel_rfl) ?_
  simp (config := { maxSteps := 100000000 }) only [ref01Body_L1_eq, ref01Body_L2_eq]
  kernel_rfl
theorem ref01Body_fit : fitF Tryd.prog ref01Body Tryd.f12 = true := by
  kernel_rfl

def law07FoldBodies_c0 : AC := .seq (.region [.op (some 7) none (.box 1007 (.t 3) 4), .op (some 8) none (.mv (.k (AV.bool false)))]) (.seq (.region [.op (some 18) none (.mv (.t 0)), .op (some 19) none (.call id_keepText [.t 18, .k (AV.int .i64 200)] (.str)), .op (some 20) none (.cvBytes (.t 19)), .op (some 9) none (.mv (.t 20))]) (.seq (.region [.op (some 21) none (.mv (.t 9)), .op (some 22) none (.call id_linesSplit [.t 21] (.row 3)), .op (some 23) none (.mv (.t 9)), .op (some 24) none (.call id_ref01Split [.t 23] (.row 3)), .op (some 10) none (.mv (.t 22)), .op (some 11) none (.mv (.t 24))]) (.seq (.seq (.region [.op (some 25) none (.mv (.t 10)), .op (some 26) none (.len (.t 25) false), .op (some 27) none (.mv (.t 11)), .op (some 28) none (.len (.t 27) false), .op (some 29) none (.bin .neq (.t 26) (.t 28))]) (.cond (.t 29) (.seq (.region [.op (some 8) none (.mv (.k (AV.bool false)))]) (.ret [8] [])) (.skip))) (.seq (.region [.op (some 30) none (.mv (.t 1)), .op (some 31) none (.mv (.t 10)), .op (some 32) none (.len (.t 31) false), .op (some 33) none (.bin .add (.t 32) (.k (AV.int .i64 1))), .op (some 34) none (.call id_keepWithin [.t 30, .t 33] (.int .i64)), .op (some 35) none (.mv (.t 2)), .op (some 36) none (.call id_keepWithin [.t 35, .k (AV.int .i64 7)] (.int .i64)), .op (some 37) none (.bin .sub (.t 36) (.k (AV.int .i64 1))), .op (some 1) none (.mv (.t 34)), .op (some 2) none (.mv (.t 37))]) (.seq (.region [.op (some 38) none (.faddr (.t 7) 3), .op (some 39) none (.load (.t 38) none (.int .i64)), .op (some 40) none (.call id_keepWithin [.t 39, .k (AV.int .i64 5)] (.int .i64)), .op (some 41) none (.faddr (.t 7) 3), .op none none (.store (.t 41) (.t 40) 1)]) (.seq (.region [.op (some 43) none (.mv (.t 9)), .op (some 44) none (.mv (.t 10)), .op (some 45) none (.mv (.t 1)), .op (some 46) none (.mv (.t 2)), .op (some 47) none (.load (.t 7) (some 4) (.agg [.bool, .bool, .bool, .int .i64])), .op (some 48) none (.call id_foldBody [.t 43, .t 44, .t 45, .t 46, .t 47] (.tup [.row 1, .int .i64, .bool])), .op (some 42) none (.mv (.t 48)), .op (some 49) none (.extract (.t 42) 0), .op (some 50) none (.extract (.t 42) 1), .op (some 51) none (.extract (.t 42) 2), .op (some 12) none (.mv (.t 49)), .op (some 13) none (.mv (.t 50)), .op (some 14) none (.mv (.t 51))]) (.seq (.region [.op (some 53) none (.mv (.t 9)), .op (some 54) none (.mv (.t 11)), .op (some 55) none (.mv (.t 1)), .op (some 56) none (.mv (.t 2)), .op (some 57) none (.load (.t 7) (some 4) (.agg [.bool, .bool, .bool, .int .i64])), .op (some 58) none (.call id_ref01Body [.t 53, .t 54, .t 55, .t 56, .t 57] (.tup [.row 1, .int .i64, .bool])), .op (some 52) none (.mv (.t 58)), .op (some 59) none (.extract (.t 52) 0), .op (some 60) none (.extract (.t 52) 1), .op (some 61) none (.extract (.t 52) 2), .op (some 15) none (.mv (.t 59)), .op (some 16) none (.mv (.t 60)), .op (some 17) none (.mv (.t 61))]) (.seq (.region [.op (some 62) none (.mv (.t 13)), .op (some 63) none (.mv (.t 16)), .op (some 64) none (.bin .eql (.t 62) (.t 63)), .op (some 65) none (.mv (.t 64)), .split 65, .op (some 66) (some (65, true)) (.mv (.t 14)), .op (some 67) (some (65, true)) (.mv (.t 17)), .op (some 68) (some (65, true)) (.binB .eql (.t 66) (.t 67)), .op (some 69) none (.pick (.t 65) (.t 68) (.k (AV.bool false))), .op (some 70) none (.mv (.t 69)), .split 70, .op (some 71) (some (70, true)) (.mv (.t 12)), .op (some 72) (some (70, true)) (.mv (.t 15)), .op (some 73) (some (70, true)) (.call id_keepSameString [.t 71, .t 72] (.bool)), .op (some 74) none (.pick (.t 70) (.t 73) (.k (AV.bool false))), .op (some 75) none (.mv (.t 74)), .split 75, .op (some 76) (some (75, true)) (.call id_law07Wakes [] (.bool)), .op (some 77) none (.pick (.t 75) (.t 76) (.k (AV.bool false))), .op (some 8) none (.mv (.t 77))]) (.ret [8] [])))))))))
def law07FoldBodies : AFunc := ⟨4, 78, [.tmp 8], law07FoldBodies_c0⟩
def law07FoldBodiesr (R : Nat → List AV → Option Res) (N : Nat) (s1 : List UInt8) (i1 : Int) (i2 : Int) (b1 : Bool) (b2 : Bool) (b3 : Bool) (i3 : Int) : Option Res :=
  (R id_keepText [AV.str s1, AV.int .i64 200]).bind fun r1 =>
  asS r1.v fun s2 =>
  (R id_linesSplit [AV.bytes s2]).bind fun r2 =>
  asR 3 r2.v fun l1 =>
  (R id_ref01Split [AV.bytes s2]).bind fun r3 =>
  asR 3 r3.v fun l2 =>
  bif (((l1.length : Nat) : Int) : Int) != ((l2.length : Nat) : Int) then
    (some ⟨AV.bool false, false, []⟩)
  else
    (R id_keepWithin [AV.int .i64 i1, AV.int .i64 (IntKind.i64.wrap (((l1.length : Nat) : Int) + 1))]).bind fun r4 =>
    asI .i64 r4.v fun i4 =>
    (R id_keepWithin [AV.int .i64 i2, AV.int .i64 7]).bind fun r5 =>
    asI .i64 r5.v fun i5 =>
    (R id_keepWithin [AV.int .i64 i3, AV.int .i64 5]).bind fun r6 =>
    asI .i64 r6.v fun i6 =>
    (R id_foldBody [AV.bytes s2, AV.row 3 l1, AV.int .i64 i4, AV.int .i64 (IntKind.i64.wrap (i5 - 1)), AV.agg [AV.bool b1, AV.bool b2, AV.bool b3, AV.int .i64 i6]]).bind fun r7 =>
    asRIBT r7.v fun l3 i7 b4 =>
    (R id_ref01Body [AV.bytes s2, AV.row 3 l2, AV.int .i64 i4, AV.int .i64 (IntKind.i64.wrap (i5 - 1)), AV.agg [AV.bool b1, AV.bool b2, AV.bool b3, AV.int .i64 i6]]).bind fun r8 =>
    asRIBT r8.v fun l4 i8 b5 =>
    bif (i7 : Int) == i8 then
      (bif b4 == b5 then
        ((R id_keepSameString [AV.row 1 l3, AV.row 1 l4]).bind fun r9 =>
        asB r9.v fun b6 =>
        bif b6 then
          ((R id_law07Wakes []).bind fun r10 =>
          asB r10.v fun b7 =>
          some ⟨AV.bool b7, false, []⟩)
        else
          some ⟨AV.bool false, false, []⟩)
      else
        some ⟨AV.bool false, false, []⟩)
    else
      some ⟨AV.bool false, false, []⟩
theorem law07FoldBodies_eq (R : Nat → List AV → Option Res) (N : Nat) (s1 : List UInt8) (i1 : Int) (i2 : Int) (b1 : Bool) (b2 : Bool) (b3 : Bool) (i3 : Int) : runF gl R N law07FoldBodies [AV.str s1, AV.int .i64 i1, AV.int .i64 i2, AV.agg [AV.bool b1, AV.bool b2, AV.bool b3, AV.int .i64 i3]] = law07FoldBodiesr R N s1 i1 i2 b1 b2 b3 i3 := by
  kernel_rfl
theorem law07FoldBodies_fit : fitF Tryd.prog law07FoldBodies Tryd.f4 = true := by
  kernel_rfl

def table : List (Nat × AFunc) := [(id_keepWithin, keepWithin), (id_keepText, keepText), (id_bytesEqual, bytesEqual), (id_bytesHasPrefix, bytesHasPrefix), (id_bytesIndexByte, bytesIndexByte), (id_linesSplit, linesSplit), (id_internalStringsliteHasPrefix, internalStringsliteHasPrefix), (id_stringsHasPrefix, stringsHasPrefix), (id_foldInner, foldInner), (id_foldBetween, foldBetween), (id_foldValue, foldValue), (id_law07Wakes, law07Wakes), (id_foldBodyRow, foldBodyRow), (id_linesText, linesText), (id_bytesTrimLeftByte, bytesTrimLeftByte), (id_bytesMakeASCIISet, bytesMakeASCIISet), (id_bytesAsciiSetContains, bytesAsciiSetContains), (id_bytesTrimLeftASCII, bytesTrimLeftASCII), (id_unicodeUtf8DecodeRuneSlow, unicodeUtf8DecodeRuneSlow), (id_unicodeUtf8DecodeRune, unicodeUtf8DecodeRune), (id_bytesContainsRune, bytesContainsRune), (id_bytesTrimLeftUnicode, bytesTrimLeftUnicode), (id_bytesTrimLeft, bytesTrimLeft), (id_linesIndent, linesIndent), (id_linesBlank, linesBlank), (id_foldBodyBlank, foldBodyBlank), (id_internalStringsliteCutPrefix, internalStringsliteCutPrefix), (id_stringsCutPrefix, stringsCutPrefix), (id_foldParts, foldParts), (id_foldBodyColumn, foldBodyColumn), (id_foldBody, foldBody), (id_keepSameString, keepSameString), (id_law07FoldBlocks, law07FoldBlocks), (id_ref01Marked, ref01Marked), (id_ref01Split, ref01Split), (id_ref01Indent, ref01Indent), (id_ref01Blank, ref01Blank), (id_ref01Stop, ref01Stop), (id_ref01Body, ref01Body), (id_law07FoldBodies, law07FoldBodies)]
theorem table_fits : Fits Tryd.prog table := ⟨⟨_, Tryd.func5, keepWithin_fit⟩, ⟨_, Tryd.func6, keepText_fit⟩, ⟨_, Tryd.func25, bytesEqual_fit⟩, ⟨_, Tryd.func13, bytesHasPrefix_fit⟩, ⟨_, Tryd.func14, bytesIndexByte_fit⟩, ⟨_, Tryd.func7, linesSplit_fit⟩, ⟨_, Tryd.func48, internalStringsliteHasPrefix_fit⟩, ⟨_, Tryd.func35, stringsHasPrefix_fit⟩, ⟨_, Tryd.func51, foldInner_fit⟩, ⟨_, Tryd.func40, foldBetween_fit⟩, ⟨_, Tryd.func15, foldValue_fit⟩, ⟨_, Tryd.func8, law07Wakes_fit⟩, ⟨_, Tryd.func17, foldBodyRow_fit⟩, ⟨_, Tryd.func32, linesText_fit⟩, ⟨_, Tryd.func42, bytesTrimLeftByte_fit⟩, ⟨_, Tryd.func43, bytesMakeASCIISet_fit⟩, ⟨_, Tryd.func52, bytesAsciiSetContains_fit⟩, ⟨_, Tryd.func44, bytesTrimLeftASCII_fit⟩, ⟨_, Tryd.func57, unicodeUtf8DecodeRuneSlow_fit⟩, ⟨_, Tryd.func53, unicodeUtf8DecodeRune_fit⟩, ⟨_, Tryd.func54, bytesContainsRune_fit⟩, ⟨_, Tryd.func45, bytesTrimLeftUnicode_fit⟩, ⟨_, Tryd.func33, bytesTrimLeft_fit⟩, ⟨_, Tryd.func20, linesIndent_fit⟩, ⟨_, Tryd.func30, linesBlank_fit⟩, ⟨_, Tryd.func18, foldBodyBlank_fit⟩, ⟨_, Tryd.func41, internalStringsliteCutPrefix_fit⟩, ⟨_, Tryd.func31, stringsCutPrefix_fit⟩, ⟨_, Tryd.func19, foldParts_fit⟩, ⟨_, Tryd.func16, foldBodyColumn_fit⟩, ⟨_, Tryd.func9, foldBody_fit⟩, ⟨_, Tryd.func10, keepSameString_fit⟩, ⟨_, Tryd.func3, law07FoldBlocks_fit⟩, ⟨_, Tryd.func21, ref01Marked_fit⟩, ⟨_, Tryd.func11, ref01Split_fit⟩, ⟨_, Tryd.func23, ref01Indent_fit⟩, ⟨_, Tryd.func22, ref01Blank_fit⟩, ⟨_, Tryd.func24, ref01Stop_fit⟩, ⟨_, Tryd.func12, ref01Body_fit⟩, ⟨_, Tryd.func4, law07FoldBodies_fit⟩, trivial⟩
theorem table_fit : ∀ f F, get table f = some F → ∃ fn, Tryd.prog.funcs[f]? = some fn ∧ fitF Tryd.prog F fn = true := table_fits.get
end Go.Proofs.YtpjpmfchcijikaaDoor.Vf
