/- The code of the functions that the statements reach, as our evaluator takes it, and what each of them comes to, readably: printed by a program of ours. No condition. -/
import Derived.Test.YtpgcjcggnfagfaaDoorVfWalk3
namespace Go.Proofs.YtpgcjcggnfagfaaDoor.Vf
set_option linter.unusedVariables false
set_option linter.unusedSimpArgs false
set_option maxRecDepth 100000


def law06DoubleApart_c0 : AC := .seq (.region [.op (some 4) none (.mv (.k (AV.bool false)))]) (.seq (.region [.op (some 16) none (.mv (.t 0)), .op (some 17) none (.call id_keepText [.t 16, .k (AV.int .i64 40)] (.str)), .op (some 18) none (.mv (.t 1)), .op (some 19) none (.call id_keepText [.t 18, .k (AV.int .i64 40)] (.str)), .op (some 0) none (.mv (.t 17)), .op (some 1) none (.mv (.t 19))]) (.seq (.region [.op (some 21) none (.mv (.t 0)), .op (some 22) none (.call id_doublePut [.t 21] (.tup [.str, .bool])), .op (some 20) none (.mv (.t 22)), .op (some 23) none (.extract (.t 20) 0), .op (some 24) none (.extract (.t 20) 1), .op (some 5) none (.mv (.t 23)), .op (some 6) none (.mv (.t 24))]) (.seq (.region [.op (some 26) none (.mv (.t 1)), .op (some 27) none (.call id_doublePut [.t 26] (.tup [.str, .bool])), .op (some 25) none (.mv (.t 27)), .op (some 28) none (.extract (.t 25) 0), .op (some 29) none (.extract (.t 25) 1), .op (some 7) none (.mv (.t 28)), .op (some 8) none (.mv (.t 29))]) (.seq (.seq (.region [.op (some 30) none (.mv (.t 6)), .op (some 31) none (.un .not (.t 30)), .op (some 32) none (.mv (.t 31)), .split 32, .op (some 33) (some (32, false)) (.mv (.t 8)), .op (some 34) (some (32, false)) (.un .not (.t 33)), .op (some 35) none (.pick (.t 32) (.k (AV.bool true)) (.t 34))]) (.cond (.t 35) (.seq (.region [.op (some 36) none (.call id_law06Wakes [] (.bool)), .op (some 4) none (.mv (.t 36))]) (.ret [4] [])) (.skip))) (.seq (.seq (.region [.op (some 37) none (.mv (.t 5)), .op (some 38) none (.mv (.t 7)), .op (some 39) none (.bin .eql (.t 37) (.t 38)), .op (some 40) none (.mv (.t 0)), .op (some 41) none (.mv (.t 1)), .op (some 42) none (.bin .eql (.t 40) (.t 41)), .op (some 43) none (.binB .neq (.t 39) (.t 42))]) (.cond (.t 43) (.seq (.region [.op (some 4) none (.mv (.k (AV.bool false)))]) (.ret [4] [])) (.skip))) (.seq (.region [.op (some 45) none (.mv (.t 5)), .op (some 46) none (.mv (.t 7)), .op (some 47) none (.bin .add (.t 45) (.t 46)), .op (some 48) none (.cvBytes (.t 47)), .op (some 49) none (.call id_doubleTake [.t 48] (.tup [.str, .int .i64, .bool])), .op (some 44) none (.mv (.t 49)), .op (some 50) none (.extract (.t 44) 0), .op (some 51) none (.extract (.t 44) 1), .op (some 52) none (.extract (.t 44) 2), .op (some 9) none (.mv (.t 50)), .op (some 10) none (.mv (.t 51)), .op (some 11) none (.mv (.t 52))]) (.seq (.seq (.region [.op (some 53) none (.mv (.t 11)), .op (some 54) none (.un .not (.t 53)), .op (some 55) none (.mv (.t 54)), .split 55, .op (some 56) (some (55, false)) (.mv (.t 9)), .op (some 57) (some (55, false)) (.mv (.t 0)), .op (some 58) (some (55, false)) (.bin .neq (.t 56) (.t 57)), .op (some 59) none (.pick (.t 55) (.k (AV.bool true)) (.t 58)), .op (some 60) none (.mv (.t 59)), .split 60, .op (some 61) (some (60, false)) (.mv (.t 10)), .op (some 62) (some (60, false)) (.mv (.t 5)), .op (some 63) (some (60, false)) (.len (.t 62) true), .op (some 64) (some (60, false)) (.bin .neq (.t 61) (.t 63)), .op (some 65) none (.pick (.t 60) (.k (AV.bool true)) (.t 64))]) (.cond (.t 65) (.seq (.region [.op (some 4) none (.mv (.k (AV.bool false)))]) (.ret [4] [])) (.skip))) (.seq (.region [.op (some 67) none (.mv (.t 7)), .op (some 68) none (.cvBytes (.t 67)), .op (some 69) none (.call id_doubleTake [.t 68] (.tup [.str, .int .i64, .bool])), .op (some 66) none (.mv (.t 69)), .op (some 70) none (.extract (.t 66) 0), .op (some 71) none (.extract (.t 66) 1), .op (some 72) none (.extract (.t 66) 2), .op (some 12) none (.mv (.t 70)), .op (some 13) none (.mv (.t 71)), .op (some 14) none (.mv (.t 72))]) (.seq (.region [.op (some 74) none (.mv (.t 0)), .op (some 75) none (.mv (.t 1)), .op (some 76) none (.bin .add (.t 74) (.t 75)), .op (some 77) none (.call id_doublePut [.t 76] (.tup [.str, .bool])), .op (some 73) none (.mv (.t 77)), .op (some 78) none (.extract (.t 73) 0), .op (some 79) none (.extract (.t 73) 1), .op (some 15) none (.mv (.t 78)), .op (some 8) none (.mv (.t 79))]) (.seq (.regionD [4] [] [.op (some 80) none (.mv (.t 14)), .op (some 81) none (.mv (.t 80)), .split 81, .op (some 82) (some (81, true)) (.mv (.t 12)), .op (some 83) (some (81, true)) (.mv (.t 1)), .op (some 84) (some (81, true)) (.bin .eql (.t 82) (.t 83)), .op (some 85) none (.pick (.t 81) (.t 84) (.k (AV.bool false))), .op (some 86) none (.mv (.t 85)), .split 86, .op (some 87) (some (86, true)) (.mv (.t 13)), .op (some 88) (some (86, true)) (.mv (.t 7)), .op (some 89) (some (86, true)) (.len (.t 88) true), .op (some 90) (some (86, true)) (.bin .eql (.t 87) (.t 89)), .op (some 91) none (.pick (.t 86) (.t 90) (.k (AV.bool false))), .op (some 92) none (.mv (.t 91)), .split 92, .op (some 93) (some (92, true)) (.mv (.t 8)), .op (some 94) none (.pick (.t 92) (.t 93) (.k (AV.bool false))), .op (some 95) none (.mv (.t 94)), .split 95, .op (some 96) (some (95, true)) (.mv (.t 15)), .op (some 97) (some (95, true)) (.len (.t 96) true), .op (some 98) (some (95, true)) (.mv (.t 5)), .op (some 99) (some (95, true)) (.len (.t 98) true), .op (some 100) (some (95, true)) (.mv (.t 7)), .op (some 101) (some (95, true)) (.len (.t 100) true), .op (some 102) (some (95, true)) (.bin .add (.t 99) (.t 101)), .op (some 103) (some (95, true)) (.bin .sub (.t 102) (.k (AV.int .i64 2))), .op (some 104) (some (95, true)) (.bin .eql (.t 97) (.t 103)), .op (some 105) none (.pick (.t 95) (.t 104) (.k (AV.bool false))), .op (some 106) none (.mv (.t 105)), .split 106, .op (some 107) (some (106, true)) (.mv (.t 15)), .op (some 108) (some (106, true)) (.mv (.t 5)), .op (some 109) (some (106, true)) (.mv (.t 5)), .op (some 110) (some (106, true)) (.len (.t 109) true), .op (some 111) (some (106, true)) (.bin .sub (.t 110) (.k (AV.int .i64 1))), .op (some 112) (some (106, true)) (.sliceS (.t 108) none (some (.t 111))), .op (some 113) (some (106, true)) (.mv (.t 7)), .op (some 114) (some (106, true)) (.sliceS (.t 113) (some (.k (AV.int .i64 1))) none), .op (some 115) (some (106, true)) (.bin .add (.t 112) (.t 114)), .op (some 116) (some (106, true)) (.bin .eql (.t 107) (.t 115)), .op (some 117) none (.pick (.t 106) (.t 116) (.k (AV.bool false))), .op (some 118) none (.mv (.t 117)), .split 118, .op (some 119) (some (118, true)) (.call id_law06Wakes [] (.bool)), .op (some 120) none (.pick (.t 118) (.t 119) (.k (AV.bool false))), .op (some 4) none (.mv (.t 120))] []) (.ret [4] [])))))))))))
def law06DoubleApart : AFunc := ⟨2, 121, [.tmp 4], law06DoubleApart_c0⟩
def law06DoubleApartr (R : Nat → List AV → Option Res) (N : Nat) (s1 : List UInt8) (s2 : List UInt8) : Option Res :=
  (R id_keepText [AV.str s1, AV.int .i64 40]).bind fun r1 =>
  asS r1.v fun s3 =>
  (R id_keepText [AV.str s2, AV.int .i64 40]).bind fun r2 =>
  asS r2.v fun s4 =>
  (R id_doublePut [AV.str s3]).bind fun r3 =>
  asSBT r3.v fun s5 b1 =>
  (R id_doublePut [AV.str s4]).bind fun r4 =>
  asSBT r4.v fun s6 b2 =>
  bif !b1 then
    ((R id_law06Wakes []).bind fun r5 =>
    asB r5.v fun b3 =>
    some ⟨AV.bool b3, false, []⟩)
  else
    bif !b2 then
      ((R id_law06Wakes []).bind fun r6 =>
      asB r6.v fun b4 =>
      some ⟨AV.bool b4, false, []⟩)
    else
      bif !((s5 == s6) == (s3 == s4)) then
        (some ⟨AV.bool false, false, []⟩)
      else
        need (decide (s5.length + s6.length ≤ 9223372036854775807)) <|
        (R id_doubleTake [AV.bytes (s5 ++ s6)]).bind fun r7 =>
        asSIBT r7.v fun s7 i1 b5 =>
        bif !b5 then
          (some ⟨AV.bool false, false, []⟩)
        else
          bif !(s7 == s3) then
            (some ⟨AV.bool false, false, []⟩)
          else
            bif (i1 : Int) != ((s5.length : Nat) : Int) then
              (some ⟨AV.bool false, false, []⟩)
            else
              (R id_doubleTake [AV.bytes s6]).bind fun r8 =>
              asSIBT r8.v fun s8 i2 b6 =>
              need (decide (s3.length + s4.length ≤ 9223372036854775807)) <|
              (R id_doublePut [AV.str (s3 ++ s4)]).bind fun r9 =>
              asSBT r9.v fun s9 b7 =>
              bif b6 then
                (bif s8 == s4 then
                  (bif (i2 : Int) == ((s6.length : Nat) : Int) then
                    (bif b7 then
                      (bif (((s9.length : Nat) : Int) : Int) == (IntKind.i64.wrap ((IntKind.i64.wrap (((s5.length : Nat) : Int) + ((s6.length : Nat) : Int))) - 2)) then
                        (need (decide (0 ≤ (IntKind.i64.wrap (((s5.length : Nat) : Int) - 1) : Int)) && decide ((IntKind.i64.wrap (((s5.length : Nat) : Int) - 1) : Int) ≤ ((s5.length : Nat) : Int))) <|
                        need (decide (0 ≤ (1 : Int)) && decide ((1 : Int) ≤ ((s6.length : Nat) : Int))) <|
                        need (decide (((s5.take (Int.toNat (IntKind.i64.wrap (((s5.length : Nat) : Int) - 1)))).drop 0).length + ((s6.take s6.length).drop (Int.toNat 1)).length ≤ 9223372036854775807)) <|
                        bif s9 == (((s5.take (Int.toNat (IntKind.i64.wrap (((s5.length : Nat) : Int) - 1)))).drop 0) ++ ((s6.take s6.length).drop (Int.toNat 1))) then
                          ((R id_law06Wakes []).bind fun r10 =>
                          asB r10.v fun b8 =>
                          some ⟨AV.bool b8, false, []⟩)
                        else
                          some ⟨AV.bool false, false, []⟩)
                      else
                        some ⟨AV.bool false, false, []⟩)
                    else
                      some ⟨AV.bool false, false, []⟩)
                  else
                    some ⟨AV.bool false, false, []⟩)
                else
                  some ⟨AV.bool false, false, []⟩)
              else
                some ⟨AV.bool false, false, []⟩
theorem law06DoubleApart_eq (R : Nat → List AV → Option Res) (N : Nat) (s1 : List UInt8) (s2 : List UInt8) : runF gl R N law06DoubleApart [AV.str s1, AV.str s2] = law06DoubleApartr R N s1 s2 := by
  kernel_rfl
theorem law06DoubleApart_fit : fitF Tryd.prog law06DoubleApart Tryd.f9 = true := by
  kernel_rfl

def unicodeUtf8DecodeRuneSlow_c1 : AC := .seq (.region [.op (some 2) none (.mv (.k (AV.int .i32 0))), .op (some 3) none (.mv (.k (AV.int .i64 0)))]) (.seq (.region [.op (some 13) none (.mv (.t 0)), .op (some 14) none (.len (.t 13) false), .op (some 4) none (.mv (.t 14))]) (.seq (.seq (.region [.op (some 15) none (.mv (.t 4)), .op (some 16) none (.bin .lss (.t 15) (.k (AV.int .i64 1)))]) (.cond (.t 16) (.seq (.region [.op (some 2) none (.mv (.k (AV.int .i32 65533))), .op (some 3) none (.mv (.k (AV.int .i64 0)))]) (.ret [2, 3] [])) (.skip))) (.seq (.region [.op (some 17) none (.mv (.t 0)), .op (some 18) none (.iaddr (.t 17) (.k (AV.int .i64 0)) 1 (.int .u8)), .op (some 19) none (.load (.t 18) none (.int .u8)), .op (some 5) none (.mv (.t 19))]) (.stuck))))
def unicodeUtf8DecodeRuneSlow : AFunc := ⟨1, 122, [.tmp 2, .tmp 3], unicodeUtf8DecodeRuneSlow_c1⟩
def unicodeUtf8DecodeRuneSlowr (R : Nat → List AV → Option Res) (N : Nat) (s1 : List UInt8) : Option Res :=
  bif decide ((((s1.length : Nat) : Int) : Int) < 1) then
    (some ⟨AV.tup [AV.int .i32 65533, AV.int .i64 0], false, []⟩)
  else
    need (decide (0 ≤ (0 : Int))) <|
    (s1[Int.toNat 0]?).bind fun c1 =>
    none
theorem unicodeUtf8DecodeRuneSlow_eq (R : Nat → List AV → Option Res) (N : Nat) (s1 : List UInt8) : runF gl R N unicodeUtf8DecodeRuneSlow [AV.bytes s1] = unicodeUtf8DecodeRuneSlowr R N s1 := by
  kernel_rfl
theorem unicodeUtf8DecodeRuneSlow_fit : fitF Tryd.prog unicodeUtf8DecodeRuneSlow Tryd.f60 = true := by
  kernel_rfl

def unicodeUtf8DecodeRune_L1s (R : Nat → List AV → Option Res) (N : Nat) (go : List UInt8 → List UInt8 → Int → Int → Option Res) (k0 : Int → Int → Option Res) (k1 : List UInt8 → Option Res) (s2 : List UInt8) (s3 : List UInt8) (i1 : Int) (i2 : Int) : Option Res :=
  bif decide ((i2 : Int) < i1) then
    (need (decide (0 ≤ (i2 : Int))) <|
    (s3[Int.toNat i2]?).bind fun c1 =>
    bif decide (((c1.toNat : Int) : Int) < 128) then
      (k0 (IntKind.i32.wrap (c1.toNat : Int)) 1)
    else
      k1 s2)
  else
    k1 s2
def unicodeUtf8DecodeRune_L1 (R : Nat → List AV → Option Res) (N : Nat) (k0 : Int → Int → Option Res) (k1 : List UInt8 → Option Res) : Nat → List UInt8 → List UInt8 → Int → Int → Option Res
  | 0, _, _, _, _ => none
  | n + 1, s2, s3, i1, i2 => unicodeUtf8DecodeRune_L1s R N (unicodeUtf8DecodeRune_L1 R N k0 k1 n) k0 k1 s2 s3 i1 i2
def unicodeUtf8DecodeRune_c0 : AC := .seq (.region [.op (some 9) none (.bin .lss (.t 8) (.t 7))]) (.seq (.cond (.t 9) (.skip) (.exit 0 [0] [])) (.seq (.block 1 (.seq (.region [.op (some 10) none (.iaddr (.t 6) (.t 8) 1 (.int .u8)), .op (some 11) none (.load (.t 10) none (.int .u8)), .op (some 5) none (.mv (.t 11))]) (.seq (.seq (.region [.op (some 12) none (.mv (.t 5)), .op (some 13) none (.bin .lss (.t 12) (.k (AV.int .u8 128)))]) (.cond (.t 13) (.seq (.region [.op (some 14) none (.mv (.t 5)), .op (some 15) none (.cvInt .i32 (.t 14)), .op (some 2) none (.mv (.t 15)), .op (some 3) none (.mv (.k (AV.int .i64 1)))]) (.ret [2, 3] [])) (.skip))) (.exit 0 [0] [])))) (.region [.op (some 16) none (.bin .add (.t 8) (.k (AV.int .i64 1))), .op (some 8) none (.mv (.t 16))])))
theorem unicodeUtf8DecodeRune_L1s_eq (R : Nat → List AV → Option Res) (N : Nat) (K : Ex → St → Option Res) (W : St → Option Res) (s2 : List UInt8) (s3 : List UInt8) (i1 : Int) (i2 : Int) :
    evC gl R N unicodeUtf8DecodeRune_c0 (Kseq (fun st' => W (prune [0, 6, 7, 8] [] st')) K) ⟨[(0, .imm (AV.bytes s2)), (6, .imm (AV.bytes s3)), (7, .imm (AV.int .i64 i1)), (8, .imm (AV.int .i64 i2))], []⟩ =
    unicodeUtf8DecodeRune_L1s R N (fun (s2 : List UInt8) (s3 : List UInt8) (i1 : Int) (i2 : Int) => W ⟨[(0, .imm (AV.bytes s2)), (6, .imm (AV.bytes s3)), (7, .imm (AV.int .i64 i1)), (8, .imm (AV.int .i64 i2))], []⟩) (fun (i3 : Int) (i4 : Int) => K .ret ⟨[(2, .imm (AV.int .i32 i3)), (3, .imm (AV.int .i64 i4))], []⟩) (fun (s4 : List UInt8) => K (.exit 0) ⟨[(0, .imm (AV.bytes s4))], []⟩) s2 s3 i1 i2 := by
  kernel_rfl
theorem unicodeUtf8DecodeRune_L1_eq (R : Nat → List AV → Option Res) (N : Nat) (K : Ex → St → Option Res) : ∀ (n : Nat) (s2 : List UInt8) (s3 : List UInt8) (i1 : Int) (i2 : Int),
    rounds [0, 6, 7, 8] [] (evC gl R N unicodeUtf8DecodeRune_c0) K n ⟨[(0, .imm (AV.bytes s2)), (6, .imm (AV.bytes s3)), (7, .imm (AV.int .i64 i1)), (8, .imm (AV.int .i64 i2))], []⟩ = unicodeUtf8DecodeRune_L1 R N (fun (i3 : Int) (i4 : Int) => K .ret ⟨[(2, .imm (AV.int .i32 i3)), (3, .imm (AV.int .i64 i4))], []⟩) (fun (s4 : List UInt8) => K (.exit 0) ⟨[(0, .imm (AV.bytes s4))], []⟩) n s2 s3 i1 i2
  | 0, _, _, _, _ => rfl
  | n + 1, s2, s3, i1, i2 => (unicodeUtf8DecodeRune_L1s_eq R N K (rounds [0, 6, 7, 8] [] (evC gl R N unicodeUtf8DecodeRune_c0) K n) s2 s3 i1 i2).trans
      (congrArg (fun go => unicodeUtf8DecodeRune_L1s R N go (fun (i3 : Int) (i4 : Int) => K .ret ⟨[(2, .imm (AV.int .i32 i3)), (3, .imm (AV.int .i64 i4))], []⟩) (fun (s4 : List UInt8) => K (.exit 0) ⟨[(0, .imm (AV.bytes s4))], []⟩) s2 s3 i1 i2) (funext fun s2 => funext fun s3 => funext fun i1 => funext fun i2 => unicodeUtf8DecodeRune_L1_eq R N K n s2 s3 i1 i2))
def unicodeUtf8DecodeRune_c1 : AC := .seq (.region [.op (some 18) none (.mv (.t 0)), .op (some 19) none (.call id_unicodeUtf8DecodeRuneSlow [.t 18] (.tup [.int .i32, .int .i64])), .op (some 17) none (.mv (.t 19)), .op (some 20) none (.extract (.t 17) 0), .op (some 21) none (.extract (.t 17) 1), .op (some 2) none (.mv (.t 20)), .op (some 3) none (.mv (.t 21))]) (.ret [2, 3] [])
def unicodeUtf8DecodeRune_c2 : AC := .seq (.region [.op (some 2) none (.mv (.k (AV.int .i32 0))), .op (some 3) none (.mv (.k (AV.int .i64 0)))]) (.seq (.seq (.region [.op (some 6) none (.mv (.t 0)), .op (some 7) none (.len (.t 6) false), .op (some 8) none (.mv (.k (AV.int .i64 0)))]) (.block 0 (.loop [0, 6, 7, 8] [] (unicodeUtf8DecodeRune_c0)))) (unicodeUtf8DecodeRune_c1))
def unicodeUtf8DecodeRune : AFunc := ⟨1, 22, [.tmp 2, .tmp 3], unicodeUtf8DecodeRune_c2⟩
def unicodeUtf8DecodeRuner (R : Nat → List AV → Option Res) (N : Nat) (s1 : List UInt8) : Option Res :=
  unicodeUtf8DecodeRune_L1 R N
    (fun i7 i8 =>
      some ⟨AV.tup [AV.int .i32 i7, AV.int .i64 i8], false, []⟩)
    (fun s6 =>
      (R id_unicodeUtf8DecodeRuneSlow [AV.bytes s6]).bind fun r1 =>
      asJIT r1.v fun i9 i10 =>
      some ⟨AV.tup [AV.int .i32 i9, AV.int .i64 i10], false, []⟩)
    N s1 s1 ((s1.length : Nat) : Int) 0
theorem unicodeUtf8DecodeRune_eq (R : Nat → List AV → Option Res) (N : Nat) (s1 : List UInt8) : runF gl R N unicodeUtf8DecodeRune [AV.bytes s1] = unicodeUtf8DecodeRuner R N s1 := by
  refine Eq.trans (b :=
      rounds [0, 6, 7, 8] [] (evC gl R N unicodeUtf8DecodeRune_c0) (Kblock 0 (Kthen gl R N unicodeUtf8DecodeRune_c1 (Kret unicodeUtf8DecodeRune.rets []))) N ⟨[(0, .imm (AV.bytes s1)), (6, .imm (AV.bytes s1)), (7, .imm (AV.int .i64 ((s1.length : Nat) : Int))), (8, .imm (AV.int .i64 0))], []⟩) (by kernel_rfl) ?_
  simp (config := { maxSteps := 100000000 }) only [unicodeUtf8DecodeRune_L1_eq]
  kernel_rfl
theorem unicodeUtf8DecodeRune_fit : fitF Tryd.prog unicodeUtf8DecodeRune Tryd.f56 = true := by
  kernel_rfl

def charsRune_c0 : AC := .seq (.region [.op (some 2) none (.mv (.k (AV.int .i32 0))), .op (some 3) none (.mv (.k (AV.int .i64 0))), .op (some 4) none (.mv (.k (AV.bool false)))]) (.seq (.region [.op (some 6) none (.mv (.t 0)), .op (some 7) none (.call id_unicodeUtf8DecodeRune [.t 6] (.tup [.int .i32, .int .i64])), .op (some 5) none (.mv (.t 7)), .op (some 8) none (.extract (.t 5) 0), .op (some 9) none (.extract (.t 5) 1), .op (some 2) none (.mv (.t 8)), .op (some 3) none (.mv (.t 9))]) (.seq (.seq (.region [.op (some 10) none (.mv (.t 2)), .op (some 11) none (.bin .eql (.t 10) (.k (AV.int .i32 65533))), .op (some 12) none (.mv (.t 11)), .split 12, .op (some 13) (some (12, true)) (.mv (.t 3)), .op (some 14) (some (12, true)) (.bin .lss (.t 13) (.k (AV.int .i64 2))), .op (some 15) none (.pick (.t 12) (.t 14) (.k (AV.bool false)))]) (.cond (.t 15) (.seq (.region [.op (some 16) none (.mv (.t 3)), .op (some 2) none (.mv (.k (AV.int .i32 0))), .op (some 3) none (.mv (.t 16)), .op (some 4) none (.mv (.k (AV.bool false)))]) (.ret [2, 3, 4] [])) (.skip))) (.seq (.region [.op (some 17) none (.mv (.t 2)), .op (some 18) none (.mv (.t 3)), .op (some 2) none (.mv (.t 17)), .op (some 3) none (.mv (.t 18)), .op (some 4) none (.mv (.k (AV.bool true)))]) (.ret [2, 3, 4] []))))
def charsRune : AFunc := ⟨1, 19, [.tmp 2, .tmp 3, .tmp 4], charsRune_c0⟩
def charsRuner (R : Nat → List AV → Option Res) (N : Nat) (s1 : List UInt8) : Option Res :=
  (R id_unicodeUtf8DecodeRune [AV.bytes s1]).bind fun r1 =>
  asJIT r1.v fun i1 i2 =>
  bif (i1 : Int) == 65533 then
    (bif decide ((i2 : Int) < 2) then
      (some ⟨AV.tup [AV.int .i32 0, AV.int .i64 i2, AV.bool false], false, []⟩)
    else
      some ⟨AV.tup [AV.int .i32 i1, AV.int .i64 i2, AV.bool true], false, []⟩)
  else
    some ⟨AV.tup [AV.int .i32 i1, AV.int .i64 i2, AV.bool true], false, []⟩
theorem charsRune_eq (R : Nat → List AV → Option Res) (N : Nat) (s1 : List UInt8) : runF gl R N charsRune [AV.bytes s1] = charsRuner R N s1 := by
  kernel_rfl
theorem charsRune_fit : fitF Tryd.prog charsRune Tryd.f45 = true := by
  kernel_rfl

def internalBytealgCutover_c0 : AC := .seq (.region [.op (some 2) none (.mv (.k (AV.int .i64 0)))]) (.seq (.region [.op (some 3) none (.mv (.t 0)), .op (some 4) none (.bin .add (.t 3) (.k (AV.int .i64 16))), .op (some 5) none (.bin .quo (.t 4) (.k (AV.int .i64 8))), .op (some 2) none (.mv (.t 5))]) (.ret [2] []))
def internalBytealgCutover : AFunc := ⟨1, 6, [.tmp 2], internalBytealgCutover_c0⟩
def internalBytealgCutoverr (R : Nat → List AV → Option Res) (N : Nat) (i1 : Int) : Option Res :=
  need (!decide (8 = 0)) <|
  some ⟨AV.int .i64 (IntKind.i64.wrap (Int.tdiv (IntKind.i64.wrap (i1 + 16)) 8)), false, []⟩
theorem internalBytealgCutover_eq (R : Nat → List AV → Option Res) (N : Nat) (i1 : Int) : runF gl R N internalBytealgCutover [AV.int .i64 i1] = internalBytealgCutoverr R N i1 := by
  kernel_rfl
theorem internalBytealgCutover_fit : fitF Tryd.prog internalBytealgCutover Tryd.f73 = true := by
  kernel_rfl

def internalBytealgHashStrString_L1s (R : Nat → List AV → Option Res) (N : Nat) (go : List UInt8 → Int → Int → Option Res) (k0 : List UInt8 → Int → Option Res) (s2 : List UInt8) (i1 : Int) (i2 : Int) : Option Res :=
  bif decide ((i2 : Int) < ((s2.length : Nat) : Int)) then
    (need (decide (0 ≤ (i2 : Int))) <|
    (s2[Int.toNat i2]?).bind fun c1 =>
    go s2 (IntKind.u32.wrap ((IntKind.u32.wrap (i1 * 16777619)) + (IntKind.u32.wrap (c1.toNat : Int)))) (IntKind.i64.wrap (i2 + 1)))
  else
    k0 s2 i1
def internalBytealgHashStrString_L1 (R : Nat → List AV → Option Res) (N : Nat) (k0 : List UInt8 → Int → Option Res) : Nat → List UInt8 → Int → Int → Option Res
  | 0, _, _, _ => none
  | n + 1, s2, i1, i2 => internalBytealgHashStrString_L1s R N (internalBytealgHashStrString_L1 R N k0 n) k0 s2 i1 i2
def internalBytealgHashStrString_c0 : AC := .seq (.seq (.region [.op (some 9) none (.mv (.t 5)), .op (some 10) none (.mv (.t 0)), .op (some 11) none (.len (.t 10) true), .op (some 12) none (.bin .lss (.t 9) (.t 11))]) (.cond (.t 12) (.skip) (.exit 0 [0, 4] []))) (.seq (.block 1 (.region [.op (some 15) none (.mv (.t 4)), .op (some 16) none (.bin .mul (.t 15) (.k (AV.int .u32 16777619))), .op (some 17) none (.mv (.t 0)), .op (some 18) none (.mv (.t 5)), .op (some 19) none (.index (.t 17) (.t 18)), .op (some 20) none (.cvInt .u32 (.t 19)), .op (some 21) none (.bin .add (.t 16) (.t 20)), .op (some 4) none (.mv (.t 21))])) (.region [.op (some 13) none (.mv (.t 5)), .op (some 14) none (.bin .add (.t 13) (.k (AV.int .i64 1))), .op (some 5) none (.mv (.t 14))]))
theorem internalBytealgHashStrString_L1s_eq (R : Nat → List AV → Option Res) (N : Nat) (K : Ex → St → Option Res) (W : St → Option Res) (s2 : List UInt8) (i1 : Int) (i2 : Int) :
    evC gl R N internalBytealgHashStrString_c0 (Kseq (fun st' => W (prune [0, 4, 5] [] st')) K) ⟨[(0, .imm (AV.str s2)), (4, .imm (AV.int .u32 i1)), (5, .imm (AV.int .i64 i2))], []⟩ =
    internalBytealgHashStrString_L1s R N (fun (s2 : List UInt8) (i1 : Int) (i2 : Int) => W ⟨[(0, .imm (AV.str s2)), (4, .imm (AV.int .u32 i1)), (5, .imm (AV.int .i64 i2))], []⟩) (fun (s3 : List UInt8) (i3 : Int) => K (.exit 0) ⟨[(0, .imm (AV.str s3)), (4, .imm (AV.int .u32 i3))], []⟩) s2 i1 i2 := by
  kernel_rfl
theorem internalBytealgHashStrString_L1_eq (R : Nat → List AV → Option Res) (N : Nat) (K : Ex → St → Option Res) : ∀ (n : Nat) (s2 : List UInt8) (i1 : Int) (i2 : Int),
    rounds [0, 4, 5] [] (evC gl R N internalBytealgHashStrString_c0) K n ⟨[(0, .imm (AV.str s2)), (4, .imm (AV.int .u32 i1)), (5, .imm (AV.int .i64 i2))], []⟩ = internalBytealgHashStrString_L1 R N (fun (s3 : List UInt8) (i3 : Int) => K (.exit 0) ⟨[(0, .imm (AV.str s3)), (4, .imm (AV.int .u32 i3))], []⟩) n s2 i1 i2
  | 0, _, _, _ => rfl
  | n + 1, s2, i1, i2 => (internalBytealgHashStrString_L1s_eq R N K (rounds [0, 4, 5] [] (evC gl R N internalBytealgHashStrString_c0) K n) s2 i1 i2).trans
      (congrArg (fun go => internalBytealgHashStrString_L1s R N go (fun (s3 : List UInt8) (i3 : Int) => K (.exit 0) ⟨[(0, .imm (AV.str s3)), (4, .imm (AV.int .u32 i3))], []⟩) s2 i1 i2) (funext fun s2 => funext fun i1 => funext fun i2 => internalBytealgHashStrString_L1_eq R N K n s2 i1 i2))
def internalBytealgHashStrString_L2s (R : Nat → List AV → Option Res) (N : Nat) (go : Int → Int → Int → Int → Option Res) (k0 : Int → Int → Option Res) (i6 : Int) (i7 : Int) (i8 : Int) (i9 : Int) : Option Res :=
  bif decide ((i9 : Int) > 0) then
    (bif ((IntKind.i64.wrap (BitVec.ofInt IntKind.i64.bits i9 &&& BitVec.ofInt IntKind.i64.bits 1).toNat) : Int) != 0 then
      (need (!decide (1 < 0)) <|
      go i6 (IntKind.u32.wrap (i7 * i8)) (IntKind.u32.wrap (i8 * i8)) (Int.fdiv i9 (2 ^ (min (Int.toNat 1) IntKind.i64.bits))))
    else
      need (!decide (1 < 0)) <|
      go i6 i7 (IntKind.u32.wrap (i8 * i8)) (Int.fdiv i9 (2 ^ (min (Int.toNat 1) IntKind.i64.bits))))
  else
    k0 i6 i7
def internalBytealgHashStrString_L2 (R : Nat → List AV → Option Res) (N : Nat) (k0 : Int → Int → Option Res) : Nat → Int → Int → Int → Int → Option Res
  | 0, _, _, _, _ => none
  | n + 1, i6, i7, i8, i9 => internalBytealgHashStrString_L2s R N (internalBytealgHashStrString_L2 R N k0 n) k0 i6 i7 i8 i9
def internalBytealgHashStrString_c1 : AC := .seq (.seq (.region [.op (some 24) none (.mv (.t 8)), .op (some 25) none (.bin .gtr (.t 24) (.k (AV.int .i64 0)))]) (.cond (.t 25) (.skip) (.exit 2 [4, 6] []))) (.seq (.block 3 (.seq (.seq (.region [.op (some 28) none (.mv (.t 8)), .op (some 29) none (.bin .and (.t 28) (.k (AV.int .i64 1))), .op (some 30) none (.bin .neq (.t 29) (.k (AV.int .i64 0)))]) (.cond (.t 30) (.region [.op (some 31) none (.mv (.t 6)), .op (some 32) none (.mv (.t 7)), .op (some 33) none (.bin .mul (.t 31) (.t 32)), .op (some 6) none (.mv (.t 33))]) (.skip))) (.region [.op (some 34) none (.mv (.t 7)), .op (some 35) none (.mv (.t 7)), .op (some 36) none (.bin .mul (.t 34) (.t 35)), .op (some 7) none (.mv (.t 36))]))) (.region [.op (some 26) none (.mv (.t 8)), .op (some 27) none (.bin .shr (.t 26) (.k (AV.int .u64 1))), .op (some 8) none (.mv (.t 27))]))
theorem internalBytealgHashStrString_L2s_eq (R : Nat → List AV → Option Res) (N : Nat) (K : Ex → St → Option Res) (W : St → Option Res) (i6 : Int) (i7 : Int) (i8 : Int) (i9 : Int) :
    evC gl R N internalBytealgHashStrString_c1 (Kseq (fun st' => W (prune [4, 6, 7, 8] [] st')) K) ⟨[(4, .imm (AV.int .u32 i6)), (6, .imm (AV.int .u32 i7)), (7, .imm (AV.int .u32 i8)), (8, .imm (AV.int .i64 i9))], []⟩ =
    internalBytealgHashStrString_L2s R N (fun (i6 : Int) (i7 : Int) (i8 : Int) (i9 : Int) => W ⟨[(4, .imm (AV.int .u32 i6)), (6, .imm (AV.int .u32 i7)), (7, .imm (AV.int .u32 i8)), (8, .imm (AV.int .i64 i9))], []⟩) (fun (i10 : Int) (i11 : Int) => K (.exit 2) ⟨[(4, .imm (AV.int .u32 i10)), (6, .imm (AV.int .u32 i11))], []⟩) i6 i7 i8 i9 := by
  kernel_rfl
theorem internalBytealgHashStrString_L2_eq (R : Nat → List AV → Option Res) (N : Nat) (K : Ex → St → Option Res) : ∀ (n : Nat) (i6 : Int) (i7 : Int) (i8 : Int) (i9 : Int),
    rounds [4, 6, 7, 8] [] (evC gl R N internalBytealgHashStrString_c1) K n ⟨[(4, .imm (AV.int .u32 i6)), (6, .imm (AV.int .u32 i7)), (7, .imm (AV.int .u32 i8)), (8, .imm (AV.int .i64 i9))], []⟩ = internalBytealgHashStrString_L2 R N (fun (i10 : Int) (i11 : Int) => K (.exit 2) ⟨[(4, .imm (AV.int .u32 i10)), (6, .imm (AV.int .u32 i11))], []⟩) n i6 i7 i8 i9
  | 0, _, _, _, _ => rfl
  | n + 1, i6, i7, i8, i9 => (internalBytealgHashStrString_L2s_eq R N K (rounds [4, 6, 7, 8] [] (evC gl R N internalBytealgHashStrString_c1) K n) i6 i7 i8 i9).trans
      (congrArg (fun go => internalBytealgHashStrString_L2s R N go (fun (i10 : Int) (i11 : Int) => K (.exit 2) ⟨[(4, .imm (AV.int .u32 i10)), (6, .imm (AV.int .u32 i11))], []⟩) i6 i7 i8 i9) (funext fun i6 => funext fun i7 => funext fun i8 => funext fun i9 => internalBytealgHashStrString_L2_eq R N K n i6 i7 i8 i9))
def internalBytealgHashStrString_c2 : AC := .seq (.region [.op (some 37) none (.mv (.t 4)), .op (some 38) none (.mv (.t 6)), .op (some 2) none (.mv (.t 37)), .op (some 3) none (.mv (.t 38))]) (.ret [2, 3] [])
def internalBytealgHashStrString_c3 : AC := .seq (.region [.op (some 6) none (.mv (.k (AV.int .u32 1))), .op (some 7) none (.mv (.k (AV.int .u32 16777619)))]) (.seq (.seq (.region [.op (some 22) none (.mv (.t 0)), .op (some 23) none (.len (.t 22) true), .op (some 8) none (.mv (.t 23))]) (.block 2 (.loop [4, 6, 7, 8] [] (internalBytealgHashStrString_c1)))) (internalBytealgHashStrString_c2))
def internalBytealgHashStrString_c4 : AC := .seq (.region [.op (some 2) none (.mv (.k (AV.int .u32 0))), .op (some 3) none (.mv (.k (AV.int .u32 0)))]) (.seq (.region [.op (some 4) none (.mv (.k (AV.int .u32 0)))]) (.seq (.seq (.region [.op (some 5) none (.mv (.k (AV.int .i64 0)))]) (.block 0 (.loop [0, 4, 5] [] (internalBytealgHashStrString_c0)))) (internalBytealgHashStrString_c3)))
def internalBytealgHashStrString : AFunc := ⟨1, 39, [.tmp 2, .tmp 3], internalBytealgHashStrString_c4⟩
def internalBytealgHashStrStringr (R : Nat → List AV → Option Res) (N : Nat) (s1 : List UInt8) : Option Res :=
  internalBytealgHashStrString_L1 R N
    (fun s5 i5 =>
      internalBytealgHashStrString_L2 R N
        (fun i14 i15 =>
          some ⟨AV.tup [AV.int .u32 i14, AV.int .u32 i15], false, []⟩)
        N i5 1 16777619 ((s5.length : Nat) : Int))
    N s1 0 0
theorem internalBytealgHashStrString_eq (R : Nat → List AV → Option Res) (N : Nat) (s1 : List UInt8) : runF gl R N internalBytealgHashStrString [AV.str s1] = internalBytealgHashStrStringr R N s1 := by
  refine Eq.trans (b :=
      rounds [0, 4, 5] [] (evC gl R N internalBytealgHashStrString_c0) (Kblock 0 (Kthen gl R N internalBytealgHashStrString_c3 (Kret internalBytealgHashStrString.rets []))) N ⟨[(0, .imm (AV.str s1)), (4, .imm (AV.int .u32 0)), (5, .imm (AV.int .i64 0))], []⟩) (by kernel_rfl) ?_
  simp (config := { maxSteps := 100000000 }) only [internalBytealgHashStrString_L1_eq, internalBytealgHashStrString_L2_eq]
  refine Eq.trans (b :=
      internalBytealgHashStrString_L1 R N
        (fun s5 i5 =>
          rounds [4, 6, 7, 8] [] (evC gl R N internalBytealgHashStrString_c1) (Kblock 2 (Kthen gl R N internalBytealgHashStrString_c2 (Kret internalBytealgHashStrString.rets []))) N ⟨[(4, .imm (AV.int .u32 i5)), (6, .imm (AV.int .u32 1)), (7, .imm (AV.int .u32 16777619)), (8, .imm (AV.int .i64 ((s5.length : Nat) : Int)))], []⟩)
        N s1 0 0) (by kernel_rfl) ?_
  simp (config := { maxSteps := 100000000 }) only [internalBytealgHashStrString_L1_eq, internalBytealgHashStrString_L2_eq]
  kernel_rfl
theorem internalBytealgHashStrString_fit : fitF Tryd.prog internalBytealgHashStrString Tryd.f75 = true := by
  kernel_rfl

def unicodeUtf8DecodeRuneInStringSlow_c1 : AC := .seq (.region [.op (some 2) none (.mv (.k (AV.int .i32 0))), .op (some 3) none (.mv (.k (AV.int .i64 0)))]) (.seq (.region [.op (some 13) none (.mv (.t 0)), .op (some 14) none (.len (.t 13) true), .op (some 4) none (.mv (.t 14))]) (.seq (.seq (.region [.op (some 15) none (.mv (.t 4)), .op (some 16) none (.bin .lss (.t 15) (.k (AV.int .i64 1)))]) (.cond (.t 16) (.seq (.region [.op (some 2) none (.mv (.k (AV.int .i32 65533))), .op (some 3) none (.mv (.k (AV.int .i64 0)))]) (.ret [2, 3] [])) (.skip))) (.seq (.region [.op (some 17) none (.mv (.t 0)), .op (some 18) none (.index (.t 17) (.k (AV.int .i64 0))), .op (some 5) none (.mv (.t 18))]) (.stuck))))
def unicodeUtf8DecodeRuneInStringSlow : AFunc := ⟨1, 117, [.tmp 2, .tmp 3], unicodeUtf8DecodeRuneInStringSlow_c1⟩
def unicodeUtf8DecodeRuneInStringSlowr (R : Nat → List AV → Option Res) (N : Nat) (s1 : List UInt8) : Option Res :=
  bif decide ((((s1.length : Nat) : Int) : Int) < 1) then
    (some ⟨AV.tup [AV.int .i32 65533, AV.int .i64 0], false, []⟩)
  else
    need (decide (0 ≤ (0 : Int))) <|
    (s1[Int.toNat 0]?).bind fun c1 =>
    none
theorem unicodeUtf8DecodeRuneInStringSlow_eq (R : Nat → List AV → Option Res) (N : Nat) (s1 : List UInt8) : runF gl R N unicodeUtf8DecodeRuneInStringSlow [AV.str s1] = unicodeUtf8DecodeRuneInStringSlowr R N s1 := by
  kernel_rfl
theorem unicodeUtf8DecodeRuneInStringSlow_fit : fitF Tryd.prog unicodeUtf8DecodeRuneInStringSlow Tryd.f70 = true := by
  kernel_rfl

def unicodeUtf8DecodeRuneInString_c0 : AC := .seq (.region [.op (some 2) none (.mv (.k (AV.int .i32 0))), .op (some 3) none (.mv (.k (AV.int .i64 0)))]) (.seq (.seq (.region [.op (some 4) none (.mv (.t 0)), .op (some 5) none (.bin .neq (.t 4) (.k (AV.str ([] : List UInt8)))), .op (some 6) none (.mv (.t 5)), .split 6, .op (some 7) (some (6, true)) (.mv (.t 0)), .op (some 8) (some (6, true)) (.index (.t 7) (.k (AV.int .i64 0))), .op (some 9) (some (6, true)) (.bin .lss (.t 8) (.k (AV.int .u8 128))), .op (some 10) none (.pick (.t 6) (.t 9) (.k (AV.bool false)))]) (.cond (.t 10) (.seq (.region [.op (some 11) none (.mv (.t 0)), .op (some 12) none (.index (.t 11) (.k (AV.int .i64 0))), .op (some 13) none (.cvInt .i32 (.t 12)), .op (some 2) none (.mv (.t 13)), .op (some 3) none (.mv (.k (AV.int .i64 1)))]) (.ret [2, 3] [])) (.region [.op (some 15) none (.mv (.t 0)), .op (some 16) none (.call id_unicodeUtf8DecodeRuneInStringSlow [.t 15] (.tup [.int .i32, .int .i64])), .op (some 14) none (.mv (.t 16)), .op (some 17) none (.extract (.t 14) 0), .op (some 18) none (.extract (.t 14) 1), .op (some 2) none (.mv (.t 17)), .op (some 3) none (.mv (.t 18))]))) (.ret [2, 3] []))
def unicodeUtf8DecodeRuneInString : AFunc := ⟨1, 19, [.tmp 2, .tmp 3], unicodeUtf8DecodeRuneInString_c0⟩
def unicodeUtf8DecodeRuneInStringr (R : Nat → List AV → Option Res) (N : Nat) (s1 : List UInt8) : Option Res :=
  bif !(s1 == ([] : List UInt8)) then
    (need (decide (0 ≤ (0 : Int))) <|
    (s1[Int.toNat 0]?).bind fun c1 =>
    bif decide (((c1.toNat : Int) : Int) < 128) then
      (need (decide (0 ≤ (0 : Int))) <|
      (s1[Int.toNat 0]?).bind fun c2 =>
      some ⟨AV.tup [AV.int .i32 (IntKind.i32.wrap (c2.toNat : Int)), AV.int .i64 1], false, []⟩)
    else
      (R id_unicodeUtf8DecodeRuneInStringSlow [AV.str s1]).bind fun r1 =>
      asJIT r1.v fun i1 i2 =>
      some ⟨AV.tup [AV.int .i32 i1, AV.int .i64 i2], false, []⟩)
  else
    (R id_unicodeUtf8DecodeRuneInStringSlow [AV.str s1]).bind fun r2 =>
    asJIT r2.v fun i3 i4 =>
    some ⟨AV.tup [AV.int .i32 i3, AV.int .i64 i4], false, []⟩
theorem unicodeUtf8DecodeRuneInString_eq (R : Nat → List AV → Option Res) (N : Nat) (s1 : List UInt8) : runF gl R N unicodeUtf8DecodeRuneInString [AV.str s1] = unicodeUtf8DecodeRuneInStringr R N s1 := by
  kernel_rfl
theorem unicodeUtf8DecodeRuneInString_fit : fitF Tryd.prog unicodeUtf8DecodeRuneInString Tryd.f64 = true := by
  kernel_rfl

def ref01Clean_L1s (R : Nat → List AV → Option Res) (N : Nat) (go : Bool → List UInt8 → Option Res) (k0 : Bool → Option Res) (k1 : Option Res) (b2 : Bool) (s2 : List UInt8) : Option Res :=
  bif decide ((((s2.length : Nat) : Int) : Int) > 0) then
    ((R id_ref01Rune [AV.bytes s2]).bind fun r1 =>
    asJIBT r1.v fun i1 i2 b3 =>
    bif !b3 then
      (k0 false)
    else
      (R id_ref01Printable [AV.int .i32 i1]).bind fun r2 =>
      asB r2.v fun b4 =>
      bif !b4 then
        (k0 false)
      else
        bif (i1 : Int) == 10 then
          (k0 false)
        else
          bif (i1 : Int) == 13 then
            (k0 false)
          else
            bif (i1 : Int) == 9 then
              (bif !b2 then
                (k0 false)
              else
                need (decide (0 ≤ (i2 : Int)) && decide ((i2 : Int) ≤ ((s2.length : Nat) : Int))) <|
                go b2 ((s2.take s2.length).drop (Int.toNat i2)))
            else
              need (decide (0 ≤ (i2 : Int)) && decide ((i2 : Int) ≤ ((s2.length : Nat) : Int))) <|
              go b2 ((s2.take s2.length).drop (Int.toNat i2)))
  else
    k1
def ref01Clean_L1 (R : Nat → List AV → Option Res) (N : Nat) (k0 : Bool → Option Res) (k1 : Option Res) : Nat → Bool → List UInt8 → Option Res
  | 0, _, _ => none
  | n + 1, b2, s2 => ref01Clean_L1s R N (ref01Clean_L1 R N k0 k1 n) k0 k1 b2 s2
def ref01Clean_c0 : AC := .seq (.seq (.region [.op (some 11) none (.mv (.t 5)), .op (some 12) none (.len (.t 11) false), .op (some 13) none (.bin .gtr (.t 12) (.k (AV.int .i64 0)))]) (.cond (.t 13) (.skip) (.exit 0 [] []))) (.block 1 (.seq (.region [.op (some 15) none (.mv (.t 5)), .op (some 16) none (.call id_ref01Rune [.t 15] (.tup [.int .i32, .int .i64, .bool])), .op (some 14) none (.mv (.t 16)), .op (some 17) none (.extract (.t 14) 0), .op (some 18) none (.extract (.t 14) 1), .op (some 19) none (.extract (.t 14) 2), .op (some 6) none (.mv (.t 17)), .op (some 7) none (.mv (.t 18)), .op (some 8) none (.mv (.t 19))]) (.seq (.seq (.region [.op (some 20) none (.mv (.t 8)), .op (some 21) none (.un .not (.t 20)), .op (some 22) none (.mv (.t 21)), .split 22, .op (some 23) (some (22, false)) (.mv (.t 6)), .op (some 24) (some (22, false)) (.call id_ref01Printable [.t 23] (.bool)), .op (some 25) (some (22, false)) (.un .not (.t 24)), .op (some 26) none (.pick (.t 22) (.k (AV.bool true)) (.t 25)), .op (some 27) none (.mv (.t 26)), .split 27, .op (some 28) (some (27, false)) (.mv (.t 6)), .op (some 29) (some (27, false)) (.bin .eql (.t 28) (.k (AV.int .i32 10))), .op (some 30) none (.pick (.t 27) (.k (AV.bool true)) (.t 29)), .op (some 31) none (.mv (.t 30)), .split 31, .op (some 32) (some (31, false)) (.mv (.t 6)), .op (some 33) (some (31, false)) (.bin .eql (.t 32) (.k (AV.int .i32 13))), .op (some 34) none (.pick (.t 31) (.k (AV.bool true)) (.t 33)), .op (some 35) none (.mv (.t 34)), .split 35, .op (some 36) (some (35, false)) (.mv (.t 6)), .op (some 37) (some (35, false)) (.bin .eql (.t 36) (.k (AV.int .i32 9))), .op (some 38) (some (35, false)) (.mv (.t 37)), .split 38, .op (some 39) (some (38, true)) (.mv (.t 1)), .op (some 40) (some (38, true)) (.un .not (.t 39)), .op (some 41) (some (35, false)) (.pick (.t 38) (.t 40) (.k (AV.bool false))), .op (some 42) none (.pick (.t 35) (.k (AV.bool true)) (.t 41))]) (.cond (.t 42) (.seq (.region [.op (some 4) none (.mv (.k (AV.bool false)))]) (.ret [4] [])) (.skip))) (.region [.op (some 43) none (.mv (.t 5)), .op (some 44) none (.mv (.t 7)), .op (some 45) none (.slice (.t 43) (some (.t 44)) none 1), .op (some 5) none (.mv (.t 45))]))))
theorem ref01Clean_L1s_eq (R : Nat → List AV → Option Res) (N : Nat) (K : Ex → St → Option Res) (W : St → Option Res) (b2 : Bool) (s2 : List UInt8) :
    evC gl R N ref01Clean_c0 (Kseq (fun st' => W (prune [1, 5] [] st')) K) ⟨[(1, .imm (AV.bool b2)), (5, .imm (AV.bytes s2))], []⟩ =
    ref01Clean_L1s R N (fun (b2 : Bool) (s2 : List UInt8) => W ⟨[(1, .imm (AV.bool b2)), (5, .imm (AV.bytes s2))], []⟩) (fun (b5 : Bool) => K .ret ⟨[(4, .imm (AV.bool b5))], []⟩) (K (.exit 0) ⟨[], []⟩) b2 s2 := by
  kernel_rfl
theorem ref01Clean_L1_eq (R : Nat → List AV → Option Res) (N : Nat) (K : Ex → St → Option Res) : ∀ (n : Nat) (b2 : Bool) (s2 : List UInt8),
    rounds [1, 5] [] (evC gl R N ref01Clean_c0) K n ⟨[(1, .imm (AV.bool b2)), (5, .imm (AV.bytes s2))], []⟩ = ref01Clean_L1 R N (fun (b5 : Bool) => K .ret ⟨[(4, .imm (AV.bool b5))], []⟩) (K (.exit 0) ⟨[], []⟩) n b2 s2
  | 0, _, _ => rfl
  | n + 1, b2, s2 => (ref01Clean_L1s_eq R N K (rounds [1, 5] [] (evC gl R N ref01Clean_c0) K n) b2 s2).trans
      (congrArg (fun go => ref01Clean_L1s R N go (fun (b5 : Bool) => K .ret ⟨[(4, .imm (AV.bool b5))], []⟩) (K (.exit 0) ⟨[], []⟩) b2 s2) (funext fun b2 => funext fun s2 => ref01Clean_L1_eq R N K n b2 s2))
def ref01Clean_c1 : AC := .seq (.region [.op (some 4) none (.mv (.k (AV.bool true)))]) (.ret [4] [])
def ref01Clean_c2 : AC := .seq (.region [.op (some 4) none (.mv (.k (AV.bool false)))]) (.seq (.region [.op (some 9) none (.mv (.t 0)), .op (some 10) none (.cvBytes (.t 9)), .op (some 5) none (.mv (.t 10))]) (.seq (.block 0 (.loop [1, 5] [] (ref01Clean_c0))) (ref01Clean_c1)))
def ref01Clean : AFunc := ⟨2, 46, [.tmp 4], ref01Clean_c2⟩
def ref01Cleanr (R : Nat → List AV → Option Res) (N : Nat) (s1 : List UInt8) (b1 : Bool) : Option Res :=
  ref01Clean_L1 R N
    (fun b7 =>
      some ⟨AV.bool b7, false, []⟩)
    (
      some ⟨AV.bool true, false, []⟩)
    N b1 s1
theorem ref01Clean_eq (R : Nat → List AV → Option Res) (N : Nat) (s1 : List UInt8) (b1 : Bool) : runF gl R N ref01Clean [AV.str s1, AV.bool b1] = ref01Cleanr R N s1 b1 := by
  refine Eq.trans (b :=
      rounds [1, 5] [] (evC gl R N ref01Clean_c0) (Kblock 0 (Kthen gl R N ref01Clean_c1 (Kret ref01Clean.rets []))) N ⟨[(1, .imm (AV.bool b1)), (5, .imm (AV.bytes s1))], []⟩) (by kernel_rfl) ?_
  simp (config := { maxSteps := 100000000 }) only [ref01Clean_L1_eq]
  kernel_rfl
theorem ref01Clean_fit : fitF Tryd.prog ref01Clean Tryd.f48 = true := by
  kernel_rfl

def table : List (Nat × AFunc) := [(id_keepWithin, keepWithin), (id_doubleHex, doubleHex), (id_unicodeUtf8WordString, unicodeUtf8WordString), (id_charsPrintable, charsPrintable), (id_doubleRunes, doubleRunes), (id_doubleOne, doubleOne), (id_law06Wakes, law06Wakes), (id_law06DoubleHex, law06DoubleHex), (id_internalStringsliteIndexByte, internalStringsliteIndexByte), (id_stringsIndexByte, stringsIndexByte), (id_doubleDigits, doubleDigits), (id_doubleNumber, doubleNumber), (id_doubleEscape, doubleEscape), (id_unicodeUtf8AppendRuneNonASCII, unicodeUtf8AppendRuneNonASCII), (id_unicodeUtf8AppendRune, unicodeUtf8AppendRune), (id_doubleTake, doubleTake), (id_keepText, keepText), (id_law06DoubleForms, law06DoubleForms), (id_keepLend, keepLend), (id_ref01Escape, ref01Escape), (id_ref01Utf8, ref01Utf8), (id_ref01Digit, ref01Digit), (id_ref01TakeDouble, ref01TakeDouble), (id_ref01Hex, ref01Hex), (id_ref01Rune, ref01Rune), (id_ref01Printable, ref01Printable), (id_ref01PutDouble, ref01PutDouble), (id_keepIntact, keepIntact), (id_law06DoubleTells, law06DoubleTells), (id_ref01Marked, ref01Marked), (id_ref01Check, ref01Check), (id_law06DoubleBack, law06DoubleBack), (id_law06DoubleRunes, law06DoubleRunes), (id_law06DoubleApart, law06DoubleApart), (id_unicodeUtf8DecodeRuneSlow, unicodeUtf8DecodeRuneSlow), (id_unicodeUtf8DecodeRune, unicodeUtf8DecodeRune), (id_charsRune, charsRune), (id_internalBytealgCutover, internalBytealgCutover), (id_internalBytealgHashStrString, internalBytealgHashStrString), (id_unicodeUtf8DecodeRuneInStringSlow, unicodeUtf8DecodeRuneInStringSlow), (id_unicodeUtf8DecodeRuneInString, unicodeUtf8DecodeRuneInString), (id_ref01Clean, ref01Clean)]
theorem table_fits : Fits Tryd.prog table := ⟨⟨_, Tryd.func15, keepWithin_fit⟩, ⟨_, Tryd.func16, doubleHex_fit⟩, ⟨_, Tryd.func54, unicodeUtf8WordString_fit⟩, ⟨_, Tryd.func46, charsPrintable_fit⟩, ⟨_, Tryd.func50, doubleRunes_fit⟩, ⟨_, Tryd.func40, doubleOne_fit⟩, ⟨_, Tryd.func17, law06Wakes_fit⟩, ⟨_, Tryd.func3, law06DoubleHex_fit⟩, ⟨_, Tryd.func58, internalStringsliteIndexByte_fit⟩, ⟨_, Tryd.func49, stringsIndexByte_fit⟩, ⟨_, Tryd.func51, doubleDigits_fit⟩, ⟨_, Tryd.func52, doubleNumber_fit⟩, ⟨_, Tryd.func32, doubleEscape_fit⟩, ⟨_, Tryd.func53, unicodeUtf8AppendRuneNonASCII_fit⟩, ⟨_, Tryd.func33, unicodeUtf8AppendRune_fit⟩, ⟨_, Tryd.func18, doubleTake_fit⟩, ⟨_, Tryd.func19, keepText_fit⟩, ⟨_, Tryd.func5, law06DoubleForms_fit⟩, ⟨_, Tryd.func20, keepLend_fit⟩, ⟨_, Tryd.func34, ref01Escape_fit⟩, ⟨_, Tryd.func35, ref01Utf8_fit⟩, ⟨_, Tryd.func36, ref01Digit_fit⟩, ⟨_, Tryd.func21, ref01TakeDouble_fit⟩, ⟨_, Tryd.func24, ref01Hex_fit⟩, ⟨_, Tryd.func42, ref01Rune_fit⟩, ⟨_, Tryd.func43, ref01Printable_fit⟩, ⟨_, Tryd.func23, ref01PutDouble_fit⟩, ⟨_, Tryd.func25, keepIntact_fit⟩, ⟨_, Tryd.func6, law06DoubleTells_fit⟩, ⟨_, Tryd.func44, ref01Marked_fit⟩, ⟨_, Tryd.func26, ref01Check_fit⟩, ⟨_, Tryd.func7, law06DoubleBack_fit⟩, ⟨_, Tryd.func8, law06DoubleRunes_fit⟩, ⟨_, Tryd.func9, law06DoubleApart_fit⟩, ⟨_, Tryd.func60, unicodeUtf8DecodeRuneSlow_fit⟩, ⟨_, Tryd.func56, unicodeUtf8DecodeRune_fit⟩, ⟨_, Tryd.func45, charsRune_fit⟩, ⟨_, Tryd.func73, internalBytealgCutover_fit⟩, ⟨_, Tryd.func75, internalBytealgHashStrString_fit⟩, ⟨_, Tryd.func70, unicodeUtf8DecodeRuneInStringSlow_fit⟩, ⟨_, Tryd.func64, unicodeUtf8DecodeRuneInString_fit⟩, ⟨_, Tryd.func48, ref01Clean_fit⟩, trivial⟩
theorem table_fit : ∀ f F, get table f = some F → ∃ fn, Tryd.prog.funcs[f]? = some fn ∧ fitF Tryd.prog F fn = true := table_fits.get
end Go.Proofs.YtpgcjcggnfagfaaDoor.Vf
