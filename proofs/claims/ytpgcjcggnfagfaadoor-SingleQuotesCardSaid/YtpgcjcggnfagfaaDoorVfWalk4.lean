/- The code of the functions that the statements reach, as our evaluator takes it, and what each of them comes to, readably: printed by a program of ours. No condition. -/
import Derived.Test.YtpgcjcggnfagfaaDoorVfWalk3
namespace Go.Proofs.YtpgcjcggnfagfaaDoor.Vf
set_option linter.unusedVariables false
set_option linter.unusedSimpArgs false
set_option maxRecDepth 100000


def law06DoubleApart_c0 : AC := .seq (.region [.op (some 4) none (.mv (.k (AV.bool false)))]) (.seq (.region [.op (some 16) none (.mv (.t 0)), .op (some 17) none (.call id_keepText [.t 16, .k (AV.int .i64 40)] (.str)), .op (some 18) none (.mv (.t 1)), .op (some 19) none (.call id_keepText [.t 18, .k (AV.int .i64 40)] (.str)), .op (some 0) none (.mv (.t 17)), .op (some 1) none (.mv (.t 19))]) (.seq (.region [.op (some 21) none (.mv (.t 0)), .op (some 22) none (.call id_doublePut [.t 21] (.tup [.str, .bool])), .op (some 20) none (.mv (.t 22)), .op (some 23) none (.extract (.t 20) 0), .op (some 24) none (.extract (.t 20) 1), .op (some 5) none (.mv (.t 23)), .op (some 6) none (.mv (.t 24))]) (.seq (.region [.op (some 26) none (.mv (.t 1)), .op (some 27) none (.call id_doublePut [.t 26] (.tup [.str, .bool])), .op (some 25) none (.mv (.t 27)), .op (some 28) none (.extract (.t 25) 0), .op (some 29) none (.extract (.t 25) 1), .op (some 7) none (.mv (.t 28)), .op (some 8) none (.mv (.t 29))]) (.seq (.seq (.region [.op (some 30) none (.mv (.t 6)), .op (some 31) none (.un .not (.t 30)), .op (some 32) none (.mv (.t 31)), .split 32, .op (some 33) (some (32, false)) (.mv (.t 8)), .op (some 34) (some (32, false)) (.un .not (.t 33)), .op (some 35) none (.pick (.t 32) (.k (AV.bool true)) (.t 34))]) (.cond (.t 35) (.seq (.region [.op (some 36) none (.call id_law06Wakes [] (.bool)), .op (some 4) none (.mv (.t 36))]) (.ret [4] [])) (.skip))) (.seq (.seq (.region [.op (some 37) none (.mv (.t 5)), .op (some 38) none (.mv (.t 7)), .op (some 39) none (.bin .eql (.t 37) (.t 38)), .op (some 40) none (.mv (.t 0)), .op (some 41) none (.mv (.t 1)), .op (some 42) none (.bin .eql (.t 40) (.t 41)), .op (some 43) none (.binB .neq (.t 39) (.t 42))]) (.cond (.t 43) (.seq (.region [.op (some 4) none (.mv (.k (AV.bool false)))]) (.ret [4] [])) (.skip))) (.seq (.region [.op (some 45) none (.mv (.t 5)), .op (some 46) none (.mv (.t 7)), .op (some 47) none (.bin .add (.t 45) (.t 46)), .op (some 48) none (.cvBytes (.t 47)), .op (some 49) none (.call id_doubleTake [.t 48] (.tup [.str, .int .i64, .bool])), .op (some 44) none (.mv (.t 49)), .op (some 50) none (.extract (.t 44) 0), .op (some 51) none (.extract (.t 44) 1), .op (some 52) none (.extract (.t 44) 2), .op (some 9) none (.mv (.t 50)), .op (some 10) none (.mv (.t 51)), .op (some 11) none (.mv (.t 52))]) (.seq (.seq (.region [.op (some 53) none (.mv (.t 11)), .op (some 54) none (.un .not (.t 53)), .op (some 55) none (.mv (.t 54)), .split 55, .op (some 56) (some (55, false)) (.mv (.t 9)), .op (some 57) (some (55, false)) (.mv (.t 0)), .op (some 58) (some (55, false)) (.bin .neq (.t 56) (.t 57)), .op (some 59) none (.pick (.t 55) (.k (AV.bool true)) (.t 58)), .op (some 60) none (.mv (.t 59)), .split 60, .op (some 61) (some (60, false)) (.mv (.t 10)), .op (some 62) (some (60, false)) (.mv (.t 5)), .op (some 63) (some (60, false)) (.len (.t 62) true), .op (some 64) (some (60, false)) (.bin .neq (.t 61) (.t 63)), .op (some 65) none (.pick (.t 60) (.k (AV.bool true)) (.t 64))]) (.cond (.t 65) (.seq (.region [.op (some 4) none (.mv (.k (AV.bool false)))]) (.ret [4] [])) (.skip))) (.seq (.region [.op (some 67) none (.mv (.t 7)), .op (some 68) none (.cvBytes (.t 67)), .op (some 69) none (.call id_doubleTake [.t 68] (.tup [.str, .int .i64, .bool])), .op (some 66) none (.mv (.t 69)), .op (some 70) none (.extract (.t 66) 0), .op (some 71) none (.extract (.t 66) 1), .op (some 72) none (.extract (.t 66) 2), .op (some 12) none (.mv (.t 70)), .op (some 13) none (.mv (.t 71)), .op (some 14) none (.mv (.t 72))]) (.seq (.region [.op (some 74) none (.mv (.t 0)), .op (some 75) none (.mv (.t 1)), .op (some 76) none (.bin .add (.t 74) (.t 75)), .op (some 77) none (.call id_doublePut [.t 76] (.tup [.str, .bool])), .op (some 73) none (.mv (.t 77)), .op (some 78) none (.extract (.t 73) 0), .op (some 79) none (.extract (.t 73) 1), .op (some 15) none (.mv (.t 78)), .op (some 8) none (.mv (.t 79))]) (.seq (.regionD [4] [] [.op (some 80) none (.mv (.t 14)), .op (some 81) none (.mv (.t 80)), .split 81, .op (some 82) (some (81, true)) (.mv (.t 12)), .op (some 83) (some (81, true)) (.mv (.t 1)), .op (some 84) (some (81, true)) (.bin .eql (.t 82) (.t 83)), .op (some 85) none (.pick (.t 81) (.t 84) (.k (AV.bool false))), .op (some 86) none (.mv (.t 85)), .split 86, .op (some 87) (some (86, true)) (.mv (.t 13)), .op (some 88) (some (86, true)) (.mv (.t 7)), .op (some 89) (some (86, true)) (.len (.t 88) true), .op (some 90) (some (86, true)) (.bin .eql (.t 87) (.t 89)), .op (some 91) none (.pick (.t 86) (.t 90) (.k (AV.bool false))), .op (some 92) none (.mv (.t 91)), .split 92, .op (some 93) (some (92, true)) (.mv (.t 8)), .op (some 94) none (.pick (.t 92) (.t 93) (.k (AV.bool false))), .op (some 95) none (.mv (.t 94)), .split 95, .op (some 96) (some (95, true)) (.mv (.t 15)), .op (some 97) (some (95, true)) (.len (.t 96) true), .op (some 98) (some (95, true)) (.mv (.t 5)), .op (some 99) (some (95, true)) (.len (.t 98) true), .op (some 100) (some (95, true)) (.mv (.t 7)), .op (some 101) (some (95, true)) (.len (.t 100) true), .op (some 102) (some (95, true)) (.bin .add (.t 99) (.t 101)), .op (some 103) (some (95, true)) (.bin .sub (.t 102) (.k (AV.int .i64 2))), .op (some 104) (some (95, true)) (.bin .eql (.t 97) (.t 103)), .op (some 105) none (.pick (.t 95) (.t 104) (.k (AV.bool false))), .op (some 106) none (.mv (.t 105)), .split 106, .op (some 107) (some (106, true)) (.mv (.t 15)), .op (some 108) (some (106, true)) (.mv (.t 5)), .op (some 109) (some (106, true)) (.mv (.t 5)), .op (some 110) (some (106, true)) (.len (.t 109) true), .op (some 111) (some (106, true)) (.bin .sub (.t 110) (.k (AV.int .i64 1))), .op (some 112) (some (106, true)) (.sliceS (.t 108) none (some (.t 111))), .op (some 113) (some (106, true)) (.mv (.t 7)), .op (some 114) (some (106, true)) (.sliceS (.t 113) (some (.k (AV.int .i64 1))) none), .op (some 115) (some (106, true)) (.bin .add (.t 112) (.t 114)), .op (some 116) (some (106, true)) (.bin .eql (.t 107) (.t 115)), .op (some 117) none (.pick (.t 106) (.t 116) (.k (AV.bool false))), .op (some 118) none (.mv (.t 117)), .split 118, .op (some 119) (some (118, true)) (.call id_law06Wakes [] (.bool)), .op (some 120) none (.pick (.t 118) (.t 119) (.k (AV.bool false))), .op (some 4) none (.mv (.t 120))] []) (.ret [4] [])))))))))))
def law06DoubleApart : AFunc := ⟨2, 121, [.tmp 4], law06DoubleApart_c0⟩
def law06DoubleApartr (R : Nat → List AV → Option Res) (N : Nat) (s1 : List UInt8) (s2 : List UInt8) : Option Res :=
  (R id_keepText [AV.str s1, AV.int .i64 40]).bind fun r1 =>
  asS r1.v fun s3 =>
  (R id_keepText [AV.str s2, AV.int .i64 40]).bind fun r2 =>
  asS r2.v fun s4 =>
  (R id_doublePut [AV.str s3]).bind fun r3 =>
  asSBT r3.v fun s5 b1 =>
  (R id_doublePut [AV.str s4]).bind fun r4 =>
  asSBT r4.v fun s6 b2 =>
  bif !b1 then
    ((R id_law06Wakes []).bind fun r5 =>
    asB r5.v fun b3 =>
    some ⟨AV.bool b3, false, []⟩)
  else
    bif !b2 then
      ((R id_law06Wakes []).bind fun r6 =>
      asB r6.v fun b4 =>
      some ⟨AV.bool b4, false, []⟩)
    else
      bif !((s5 == s6) == (s3 == s4)) then
        (some ⟨AV.bool false, false, []⟩)
      else
        need (decide (s5.length + s6.length ≤ 9223372036854775807)) <|
        (R id_doubleTake [AV.bytes (s5 ++ s6)]).bind fun r7 =>
        asSIBT r7.v fun s7 i1 b5 =>
        bif !b5 then
          (some ⟨AV.bool false, false, []⟩)
        else
          bif !(s7 == s3) then
            (some ⟨AV.bool false, false, []⟩)
          else
            bif (i1 : Int) != ((s5.length : Nat) : Int) then
              (some ⟨AV.bool false, false, []⟩)
            else
              (R id_doubleTake [AV.bytes s6]).bind fun r8 =>
              asSIBT r8.v fun s8 i2 b6 =>
              need (decide (s3.length + s4.length ≤ 9223372036854775807)) <|
              (R id_doublePut [AV.str (s3 ++ s4)]).bind fun r9 =>
              asSBT r9.v fun s9 b7 =>
              bif b6 then
                (bif s8 == s4 then
                  (bif (i2 : Int) == ((s6.length : Nat) : Int) then
                    (bif b7 then
                      (bif (((s9.length : Nat) : Int) : Int) == (IntKind.i64.wrap ((IntKind.i64.wrap (((s5.length : Nat) : Int) + ((s6.length : Nat) : Int))) - 2)) then
                        (need (decide (0 ≤ (IntKind.i64.wrap (((s5.length : Nat) : Int) - 1) : Int)) && decide ((IntKind.i64.wrap (((s5.length : Nat) : Int) - 1) : Int) ≤ ((s5.length : Nat) : Int))) <|
                        need (decide (0 ≤ (1 : Int)) && decide ((1 : Int) ≤ ((s6.length : Nat) : Int))) <|
                        need (decide (((s5.take (Int.toNat (IntKind.i64.wrap (((s5.length : Nat) : Int) - 1)))).drop 0).length + ((s6.take s6.length).drop (Int.toNat 1)).length ≤ 9223372036854775807)) <|
                        bif s9 == (((s5.take (Int.toNat (IntKind.i64.wrap (((s5.length : Nat) : Int) - 1)))).drop 0) ++ ((s6.take s6.length).drop (Int.toNat 1))) then
                          ((R id_law06Wakes []).bind fun r10 =>
                          asB r10.v fun b8 =>
                          some ⟨AV.bool b8, false, []⟩)
                        else
                          some ⟨AV.bool false, false, []⟩)
                      else
                        some ⟨AV.bool false, false, []⟩)
                    else
                      some ⟨AV.bool false, false, []⟩)
                  else
                    some ⟨AV.bool false, false, []⟩)
                else
                  some ⟨AV.bool false, false, []⟩)
              else
                some ⟨AV.bool false, false, []⟩
theorem law06DoubleApart_eq (R : Nat → List AV → Option Res) (N : Nat) (s1 : List UInt8) (s2 : List UInt8) : runF gl R N law06DoubleApart [AV.str s1, AV.str s2] = law06DoubleApartr R N s1 s2 := by
  kernel_rfl
theorem law06DoubleApart_fit : fitF Tryd.prog law06DoubleApart Tryd.f9 = true := by
  kernel_rfl

def unicodeUtf8DecodeRuneSlow_c1 : AC := .seq (.region [.op (some 2) none (.mv (.k (AV.int .i32 0))), .op (some 3) none (.mv (.k (AV.int .i64 0)))]) (.seq (.region [.op (some 13) none (.mv (.t 0)), .op (some 14) none (.len (.t 13) false), .op (some 4) none (.mv (.t 14))]) (.seq (.seq (.region [.op (some 15) none (.mv (.t 4)), .op (some 16) none (.bin .lss (.t 15) (.k (AV.int .i64 1)))]) (.cond (.t 16) (.seq (.region [.op (some 2) none (.mv (.k (AV.int .i32 65533))), .op (some 3) none (.mv (.k (AV.int .i64 0)))]) (.ret [2, 3] [])) (.skip))) (.seq (.region [.op (some 17) none (.mv (.t 0)), .op (some 18) none (.iaddr (.t 17) (.k (AV.int .i64 0)) 1 (.int .u8)), .op (some 19) none (.load (.t 18) none (.int .u8)), .op (some 5) none (.mv (.t 19))]) (.stuck))))
def unicodeUtf8DecodeRuneSlow : AFunc := ⟨1, 122, [.tmp 2, .tmp 3], unicodeUtf8DecodeRuneSlow_c1⟩
def unicodeUtf8DecodeRuneSlowr (R : Nat → List AV → Option Res) (N : Nat) (s1 : List UInt8) : Option Res :=
  bif decide ((((s1.length : Nat) : Int) : Int) < 1) then
    (some ⟨AV.tup [AV.int .i32 65533, AV.int .i64 0], false, []⟩)
  else
    need (decide (0 ≤ (0 : Int))) <|
    (s1[Int.toNat 0]?).bind fun c1 =>
    none
theorem unicodeUtf8DecodeRuneSlow_eq (R : Nat → List AV → Option Res) (N : Nat) (s1 : List UInt8) : runF gl R N unicodeUtf8DecodeRuneSlow [AV.bytes s1] = unicodeUtf8DecodeRuneSlowr R N s1 := by
  kernel_rfl
theorem unicodeUtf8DecodeRuneSlow_fit : fitF Tryd.prog unicodeUtf8DecodeRuneSlow Tryd.f60 = true := by
  kernel_rfl

def unicodeUtf8DecodeRune_L1s (R : Nat → List AV → Option Res) (N : Nat) (go : List UInt8 → List UInt8 → Int → Int → Option Res) (k0 : Int → Int → Option Res) (k1 : List UInt8 → Option Res) (s2 : List UInt8) (s3 : List UInt8) (i1 : Int) (i2 : Int) : Option Res :=
  bif decide ((i2 : Int) < i1) then
    (need (decide (0 ≤ (i2 : Int))) <|
    (s3[Int.toNat i2]?).bind fun c1 =>
    bif decide (((c1.toNat : Int) : Int) < 128) then
      (k0 (IntKind.i32.wrap (c1.toNat : Int)) 1)
    else
      k1 s2)
  else
    k1 s2
def unicodeUtf8DecodeRune_L1 (R : Nat → List AV → Option Res) (N : Nat) (k0 : Int → Int → Option Res) (k1 : List UInt8 → Option Res) : Nat → List UInt8 → List UInt8 → Int → Int → Option Res
  | 0, _, _, _, _ => none
  | n + 1, s2, s3, i1, i2 => unicodeUtf8DecodeRune_L1s R N (unicodeUtf8DecodeRune_L1 R N k0 k1 n) k0 k1 s2 s3 i1 i2
def unicodeUtf8DecodeRune_c0 : AC := .seq (.region [.op (some 9) none (.bin .lss (.t 8) (.t 7))]) (.seq (.cond (.t 9) (.skip) (.exit 0 [0] [])) (.seq (.block 1 (.seq (.region [.op (some 10) none (.iaddr (.t 6) (.t 8) 1 (.int .u8)), .op (some 11) none (.load (.t 10) none (.int .u8)), .op (some 5) none (.mv (.t 11))]) (.seq (.seq (.region [.op (some 12) none (.mv (.t 5)), .op (some 13) none (.bin .lss (.t 12) (.k (AV.int .u8 128)))]) (.cond (.t 13) (.seq (.region [.op (some 14) none (.mv (.t 5)), .op (some 15) none (.cvInt .i32 (.t 14)), .op (some 2) none (.mv (.t 15)), .op (some 3) none (.mv (.k (AV.int .i64 1)))]) (.ret [2, 3] [])) (.skip))) (.exit 0 [0] [])))) (.region [.op (some 16) none (.bin .add (.t 8) (.k (AV.int .i64 1))), .op (some 8) none (.mv (.t 16))])))
theorem unicodeUtf8DecodeRune_L1s_eq (R : Nat → List AV → Option Res) (N : Nat) (K : Ex → St → Option Res) (W : St → Option Res) (s2 : List UInt8) (s3 : List UInt8) (i1 : Int) (i2 : Int) :
    evC gl R N unicodeUtf8DecodeRune_c0 (Kseq (fun st' => W (prune [0, 6, 7, 8] [] st')) K) ⟨[(0, .imm (AV.bytes s2)), (6, .imm (AV.bytes s3)), (7, .imm (AV.int .i64 i1)), (8, .imm (AV.int .i64 i2))], []⟩ =
    unicodeUtf8DecodeRune_L1s R N (fun (s2 : List UInt8) (s3 : List UInt8) (i1 : Int) (i2 : Int) => W ⟨[(0, .imm (AV.bytes s2)), (6, .imm (AV.bytes s3)), (7, .imm (AV.int .i64 i1)), (8, .imm (AV.int .i64 i2))], []⟩) (fun (i3 : Int) (i4 : Int) => K .ret ⟨[(2, .imm (AV.int .i32 i3)), (3, .imm (AV.int .i64 i4))], []⟩) (fun (s4 : List UInt8) => K (.exit 0) ⟨[(0, .imm (AV.bytes s4))], []⟩) s2 s3 i1 i2 := by
  kernel_rfl
theorem unicodeUtf8DecodeRune_L1_eq (R : Nat → List AV → Option Res) (N : Nat) (K : Ex → St → Option Res) : ∀ (n : Nat) (s2 : List UInt8) (s3 : List UInt8) (i1 : Int) (i2 : Int),
    rounds [0, 6, 7, 8] [] (evC gl R N unicodeUtf8DecodeRune_c0) K n ⟨[(0, .imm (AV.bytes s2)), (6, .imm (AV.bytes s3)), (7, .imm (AV.int .i64 i1)), (8, .imm (AV.int .i64 i2))], []⟩ = unicodeUtf8DecodeRune_L1 R N (fun (i3 : Int) (i4 : Int) => K .ret ⟨[(2, .imm (AV.int .i32 i3)), (3, .imm (AV.int .i64 i4))], []⟩) (fun (s4 : List UInt8) => K (.exit 0) ⟨[(0, .imm (AV.bytes s4))], []⟩) n s2 s3 i1 i2
  | 0, _, _, _, _ => rfl
  | n + 1, s2, s3, i1, i2 => (unicodeUtf8DecodeRune_L1s_eq R N K (rounds [0, 6, 7, 8] [] (evC gl R N unicodeUtf8DecodeRune_c0) K n) s2 s3 i1 i2).trans
      (congrArg (fun go => unicodeUtf8DecodeRune_L1s R N go (fun (i3 : Int) (i4 : Int) => K .ret ⟨[(2, .imm (AV.int .i32 i3)), (3, .imm (AV.int .i64 i4))], []⟩) (fun (s4 : List UInt8) => K (.exit 0) ⟨[(0, .imm (AV.bytes s4))], []⟩) s2 s3 i1 i2) (funext fun s2 => funext fun s3 => funext fun i1 => funext fun i2 => unicodeUtf8DecodeRune_L1_eq R N K n s2 s3 i1 i2))
def unicodeUtf8DecodeRune_c1 : AC := .seq (.region [.op (some 18) none (.mv (.t 0)), .op (some 19) none (.call id_unicodeUtf8DecodeRuneSlow [.t 18] (.tup [.int .i32, .int .i64])), .op (some 17) none (.mv (.t 19)), .op (some 20) none (.extract (.t 17) 0), .op (some 21) none (.extract (.t 17) 1), .op (some 2) none (.mv (.t 20)), .op (some 3) none (.mv (.t 21))]) (.ret [2, 3] [])
def unicodeUtf8DecodeRune_c2 : AC := .seq (.region [.op (some 2) none (.mv (.k (AV.int .i32 0))), .op (some 3) none (.mv (.k (AV.int .i64 0)))]) (.seq (.seq (.region [.op (some 6) none (.mv (.t 0)), .op (some 7) none (.len (.t 6) false), .op (some 8) none (.mv (.k (AV.int .i64 0)))]) (.block 0 (.loop [0, 6, 7, 8] [] (unicodeUtf8DecodeRune_c0)))) (unicodeUtf8DecodeRune_c1))
def unicodeUtf8DecodeRune : AFunc := ⟨1, 22, [.tmp 2, .tmp 3], unicodeUtf8DecodeRune_c2⟩
def unicodeUtf8DecodeRuner (R : Nat → List AV → Option Res) (N : Nat) (s1 : List UInt8) : Option Res :=
  unicodeUtf8DecodeRune_L1 R N
    (fun i7 i8 =>
      some ⟨AV.tup [AV.int .i32 i7, AV.int .i64 i8], false, []⟩)
    (fun s6 =>
      (R id_unicodeUtf8DecodeRuneSlow [AV.bytes s6]).bind fun r1 =>
      asJIT r1.v fun i9 i10 =>
      some ⟨AV.tup [AV.int .i32 i9, AV.int .i64 i10], false, []⟩)
    N s1 s1 ((s1.length : Nat) : Int) 0
theorem unicodeUtf8DecodeRune_eq (R : Nat → List AV → Option Res) (N : Nat) (s1 : List UInt8) : runF gl R N unicodeUtf8DecodeRune [AV.bytes s1] = unicodeUtf8DecodeRuner R N s1 := by
  refine Eq.trans (b :=
      rounds [0, 6, 7, 8] [] (evC gl R N unicodeUtf8DecodeRune_c0) (Kblock 0 (Kthen gl R N unicodeUtf8DecodeRune_c1 (Kret unicodeUtf8DecodeRune.rets []))) N ⟨[(0, .imm (AV.bytes s1)), (6, .imm (AV.bytes s1)), (7, .imm (AV.int .i64 ((s1.length : Nat) : Int))), (8, .imm (AV.int .i64 0))], []⟩) (by kernel_rfl) ?_
  simp (config := { maxSteps := 100000000 }) only [unicodeUtf8DecodeRune_L1_eq]
  kernel_rfl
theorem unicodeUtf8DecodeRune_fit : fitF Tryd.prog unicodeUtf8DecodeRune Tryd.f56 = true := by
  kernel_rfl

def charsRune_c0 : AC := .seq (.region [.op (some 2) none (.mv (.k (AV.int .i32 0))), .op (some 3) none (.mv (.k (AV.int .i64 0))), .op (some 4) none (.mv (.k (AV.bool false)))]) (.seq (.region [.op (some 6) none (.mv (.t 0)), .op (some 7) none (.call id_unicodeUtf8DecodeRune [.t 6] (.tup [.int .i32, .int .i64])), .op (some 5) none (.mv (.t 7)), .op (some 8) none (.extract (.t 5) 0), .op (some 9) none (.extract (.t 5) 1), .op (some 2) none (.mv (.t 8)), .op (some 3) none (.mv (.t 9))]) (.seq (.seq (.region [.op (some 10) none (.mv (.t 2)), .op (some 11) none (.bin .eql (.t 10) (.k (AV.int .i32 65533))), .op (some 12) none (.mv (.t 11)), .split 12, .op (some 13) (some (12, true)) (.mv (.t 3)), .op (some 14) (some (12, true)) (.bin .lss (.t 13) (.k (AV.int .i64 2))), .op (some 15) none (.pick (.t 12) (.t 14) (.k (AV.bool false)))]) (.cond (.t 15) (.seq (.region [.op (some 16) none (.mv (.t 3)), .op (some 2) none (.mv (.k (AV.int .i32 0))), .op (some 3) none (.mv (.t 16)), .op (some 4) none (.mv (.k (AV.bool false)))]) (.ret [2, 3, 4] [])) (.skip))) (.seq (.region [.op (some 17) none (.mv (.t 2)), .op (some 18) none (.mv (.t 3)), .op (some 2) none (.mv (.t 17)), .op (some 3) none (.mv (.t 18)), .op (some 4) none (.mv (.k (AV.bool true)))]) (.ret [2, 3, 4] []))))
def charsRune : AFunc := ⟨1, 19, [.tmp 2, .tmp 3, .tmp 4], charsRune_c0⟩
def charsRuner (R : Nat → List AV → Option Res) (N : Nat) (s1 : List UInt8) : Option Res :=
  (R id_unicodeUtf8DecodeRune [AV.bytes s1]).bind fun r1 =>
  asJIT r1.v fun i1 i2 =>
  bif (i1 : Int) == 65533 then
    (bif decide ((i2 : Int) < 2) then
      (some ⟨AV.tup [AV.int .i32 0, AV.int .i64 i2, AV.bool false], false, []⟩)
    else
      some ⟨AV.tup [AV.int .i32 i1, AV.int .i64 i2, AV.bool true], false, []⟩)
  else
    some ⟨AV.tup [AV.int .i32 i1, AV.int .i64 i2, AV.bool true], false, []⟩
theorem charsRune_eq (R : Nat → List AV → Option Res) (N : Nat) (s1 : List UInt8) : runF gl R N charsRune [AV.bytes s1] = charsRuner R N s1 := by
  kernel_rfl
theorem charsRune_fit : fitF Tryd.prog charsRune Tryd.f45 = true := by
  kernel_rfl

def internalBytealgCutover_c0 : AC := .seq (.region [.op (some 2) none (.mv (.k (AV.int .i64 0)))]) (.seq (.region [.op (some 3) none (.mv (.t 0)), .op (some 4) none (.bin .add (.t 3) (.k (AV.int .i64 16))), .op (some 5) none (.bin .quo (.t 4) (.k (AV.int .i64 8))), .op (some 2) none (.mv (.t 5))]) (.ret [2] []))
def internalBytealgCutover : AFunc := ⟨1, 6, [.tmp 2], internalBytealgCutover_c0⟩
def internalBytealgCutoverr (R : Nat → List AV → Option Res) (N : Nat) (i1 : Int) : Option Res :=
  need (!decide (8 = 0)) <|
  some ⟨AV.int .i64 (IntKind.i64.wrap (Int.tdiv (IntKind.i64.wrap (i1 + 16)) 8)), false, []⟩
theorem internalBytealgCutover_eq (R : Nat → List AV → Option Res) (N : Nat) (i1 : Int) : runF gl R N internalBytealgCutover [AV.int .i64 i1] = internalBytealgCutoverr R N i1 := by
  kernel_rfl
theorem internalBytealgCutover_fit : fitF Tryd.prog internalBytealgCutover Tryd.f73 = true := by
  kernel_rfl

def internalBytealgHashStrString_L1s (R : Nat → List AV → Option Res) (N : Nat) (go : List UInt8 → Int → Int → Option Res) (k0 : List UInt8 → Int → Option Res) (s2 : List UInt8) (i1 : Int) (i2 : Int) : Option Res :=
  bif decide ((i2 : Int) < ((s2.length : Nat) : Int)) then
    (need (decide (0 ≤ (i2 : Int))) <|
    (s2[Int.toNat i2]?).bind fun c1 =>
    go s2 (IntKind.u32.wrap ((IntKind.u32.wrap (i1 * 16777619)) + (IntKind.u32.wrap (c1.toNat : Int)))) (IntKind.i64.wrap (i2 + 1)))
  else
    k0 s2 i1
def internalBytealgHashStrString_L1 (R : Nat → List AV → Option Res) (N : Nat) (k0 : List UInt8 → Int → Option Res) : Nat → List UInt8 → Int → Int → Option Res
  | 0, _, _, _ => none
  | n + 1, s2, i1, i2 => internalBytealgHashStrString_L1s R N (internalBytealgHashStrString_L1 R N k0 n) k0 s2 i1 i2
def internalBytealgHashStrString_c0 : AC := .seq (.seq (.region [.op (some 9) none (.mv (.t 5)), .op (some 10) none (.mv (.t 0)), .op (some 11) none (.len (.t 10) true), .op (some 12) none (.bin .lss (.t 9) (.t 11))]) (.cond (.t 12) (.skip) (.exit 0 [0, 4] []))) (.seq (.block 1 (.region [.op (some 15) none (.mv (.t 4)), .op (some 16) none (.bin .mul (.t 15) (.k (AV.int .u32 16777619))), .op (some 17) none (.mv (.t 0)), .op (some 18) none (.mv (.t 5)), .op (some 19) none (.index (.t 17) (.t 18)), .op (some 20) none (.cvInt .u32 (.t 19)), .op (some 21) none (.bin .add (.t 16) (.t 20)), .op (some 4) none (.mv (.t 21))])) (.region [.op (some 13) none (.mv (.t 5)), .op (some 14) none (.bin .add (.t 13) (.k (AV.int .i64 1))), .op (some 5) none (.mv (.t 14))]))
theorem internalBytealgHashStrString_L1s_eq (R : Nat → List AV → Option Res) (N : Nat) (K : Ex → St → Option Res) (W : St → Option Res) (s2 : List UInt8) (i1 : Int) (i2 : Int) :
    evC gl R N internalBytealgHashStrString_c0 (Kseq (fun st' => W (prune [0, 4, 5] [] st')) K) ⟨[(0, .imm (AV.str s2)), (4, .imm (AV.int .u32 i1)), (5, .imm (AV.int .i64 i2))], []⟩ =
    internalBytealgHashStrString_L1s R N (fun (s2 : List UInt8) (i1 : Int) (i2 : Int) => W ⟨[(0, .imm (AV.str s2)), (4, .imm (AV.int .u32 i1)), (5, .imm (AV.int .i64 i2))], []⟩) (fun (s3 : List UInt8) (i3 : Int) => K (.exit 0) ⟨[(0, .imm (AV.str s3)), (4, .imm (AV.int .u32 i3))], []⟩) s2 i1 i2 := by
  kernel_rfl
theorem internalBytealgHashStrString_L1_eq (R : Nat → List AV → Option Res) (N : Nat) (K : Ex → St → Option Res) : ∀ (n : Nat) (s2 : List UInt8) (i1 : Int) (i2 : Int),
    rounds [0, 4, 5] [] (evC gl R N internalBytealgHashStrString_c0) K n ⟨[(0, .imm (AV.str s2)), (4, .imm (AV.int .u32 i1)), (5, .imm (AV.int .i64 i2))], []⟩ = internalBytealgHashStrString_L1 R N (fun (s3 : List UInt8) (i3 : Int) => K (.exit 0) ⟨[(0, .imm (AV.str s3)), (4, .imm (AV.int .u32 i3))], []⟩) n s2 i1 i2
  | 0, _, _, _ => rfl
  | n + 1, s2, i1, i2 => (internalBytealgHashStrString_L1s_eq R N K (rounds [0, 4, 5] [] (evC gl R N internalBytealgHashStrString_c0) K n) s2 i1 i2).trans
      (congrArg (fun go => internalBytealgHashStrString_L1s R N go (fun (s3 : List UInt8) (i3 : Int) => K (.exit 0) ⟨[(0, .imm (AV.str s3)), (4, .imm (AV.int .u32 i3))], []⟩) s2 i1 i2) (funext fun s2 => funext fun i1 => funext fun i2 => internalBytealgHashStrString_L1_eq R N K n s2 i1 i2))
def internalBytealgHashStrString_L2s (R : Nat → List AV → Option Res) (N : Nat) (go : Int → Int → Int → Int → Option Res) (k0 : Int → Int → Option Res) (i6 : Int) (i7 : Int) (i8 : Int) (i9 : Int) : Option Res :=
  bif decide ((i9 : Int) > 0) then
    (bif ((IntKind.i64.wrap (BitVec.ofInt IntKind.i64.bits i9 &&& BitVec.ofInt IntKind.i64.bits 1).toNat) : Int) != 0 then
      (need (!decide (1 < 0)) <|
      go i6 (IntKind.u32.wrap (i7 * i8)) (IntKind.u32.wrap (i8 * i8)) (Int.fdiv i9 (2 ^ (min (Int.toNat 1) IntKind.i64.bits))))
    else
      need (!decide (1 < 0)) <|
      go i6 i7 (IntKind.u32.wrap (i8 * i8)) (Int.fdiv i9 (2 ^ (min (Int.toNat 1) IntKind.i64.bits))))
  else
    k0 i6 i7
def internalBytealgHashStrString_L2 (R : Nat → List AV → Option Res) (N : Nat) (k0 : Int → Int → Option Res) : Nat → Int → Int → Int → Int → Option Res
  | 0, _, _, _, _ => none
  | n + 1, i6, i7, i8, i9 => internalBytealgHashStrString_L2s R N (internalBytealgHashStrString_L2 R N k0 n) k0 i6 i7 i8 i9
def internalBytealgHashStrString_c1 : AC := .seq (.seq (.region [.op (some 24) none (.mv (.t 8)), .op (some 25) none (.bin .gtr (.t 24) (.k (AV.int .i64 0)))]) (.cond (.t 25) (.skip) (.exit 2 [4, 6] []))) (.seq (.block 3 (.seq (.seq (.region [.op (some 28) none (.mv (.t 8)), .op (some 29) none (.bin .and (.t 28) (.k (AV.int .i64 1))), .op (some 30) none (.bin .neq (.t 29) (.k (AV.int .i64 0)))]) (.cond (.t 30) (.region [.op (some 31) none (.mv (.t 6)), .op (some 32) none (.mv (.t 7)), .op (some 33) none (.bin .mul (.t 31) (.t 32)), .op (some 6) none (.mv (.t 33))]) (.skip))) (.region [.op (some 34) none (.mv (.t 7)), .op (some 35) none (.mv (.t 7)), .op (some 36) none (.bin .mul (.t 34) (.t 35)), .op (some 7) none (.mv (.t 36))]))) (.region [.op (some 26) none (.mv (.t 8)), .op (some 27) none (.bin .shr (.t 26) (.k (AV.int .u64 1))), .op (some 8) none (.mv (.t 27))]))
theorem internalBytealgHashStrString_L2s_eq (R : Nat → List AV → Option Res) (N : Nat) (K : Ex → St → Option Res) (W : St → Option Res) (i6 : Int) (i7 : Int) (i8 : Int) (i9 : Int) :
    evC gl R N internalBytealgHashStrString_c1 (Kseq (fun st' => W (prune [4, 6, 7, 8] [] st')) K) ⟨[(4, .imm (AV.int .u32 i6)), (6, .imm (AV.int .u32 i7)), (7, .imm (AV.int .u32 i8)), (8, .imm (AV.int .i64 i9))], []⟩ =
    internalBytealgHashStrString_L2s R N (fun (i6 : Int) (i7 : Int) (i8 : Int) (i9 : Int) => W ⟨[(4, .imm (AV.int .u32 i6)), (6, .imm (AV.int .u32 i7)), (7, .imm (AV.int .u32 i8)), (8, .imm (AV.int .i64 i9))], []⟩) (fun (i10 : Int) (i11 : Int) => K (.exit 2) ⟨[(4, .imm (AV.int .u32 i10)), (6, .imm (AV.int .u32 i11))], []⟩) i6 i7 i8 i9 := by
  kernel_rfl
theorem internalBytealgHashStrString_L2_eq (R : Nat → List AV → Option Res) (N : Nat) (K : Ex → St → Option Res) : ∀ (n : Nat) (i6 : Int) (i7 : Int) (i8 : Int) (i9 : Int),
    rounds [4, 6, 7, 8] [] (evC gl R N internalBytealgHashStrString_c1) K n ⟨[(4, .imm (AV.int .u32 i6)), (6, .imm (AV.int .u32 i7)), (7, .imm (AV.int .u32 i8)), (8, .imm (AV.int .i64 i9))], []⟩ = internalBytealgHashStrString_L2 R N (fun (i10 : Int) (i11 : Int) => K (.exit 2) ⟨[(4, .imm (AV.int .u32 i10)), (6, .imm (AV.int .u32 i11))], []⟩) n i6 i7 i8 i9
  | 0, _, _, _, _ => rfl
  | n + 1, i6, i7, i8, i9 => (internalBytealgHashStrString_L2s_eq R N K (rounds [4, 6, 7, 8] [] (evC gl R N internalBytealgHashStrString_c1) K n) i6 i7 i8 i9).trans
      (congrArg (fun go => internalBytealgHashStrString_L2s R N go (fun (i10 : Int) (i11 : Int) => K (.exit 2) ⟨[(4, .imm (AV.int .u32 i10)), (6, .imm (AV.int .u32 i11))], []⟩) i6 i7 i8 i9) (funext fun i6 => funext fun i7 => funext fun i8 => funext fun i9 => internalBytealgHashStrString_L2_eq R N K n i6 i7 i8 i9))
def internalBytealgHashStrString_c2 : AC := .seq (.region [.op (some 37) none (.mv (.t 4)), .op (some 38) none (.mv (.t 6)), .op (some 2) none (.mv (.t 37)), .op (some 3) none (.mv (.t 38))]) (.ret [2, 3] [])
def internalBytealgHashStrString_c3 : AC := .seq (.region [.op (some 6) none (.mv (.k (AV.int .u32 1))), .op (some 7) none (.mv (.k (AV.int .u32 16777619)))]) (.seq (.seq (.region [.op (some 22) none (.mv (.t 0)), .op (some 23) none (.len (.t 22) true), .op (some 8) none (.mv (.t 23))]) (.block 2 (.loop [4, 6, 7, 8] [] (internalBytealgHashStrString_c1)))) (internalBytealgHashStrString_c2))
def internalBytealgHashStrString_c4 : AC := .seq (.region [.op (some 2) none (.mv (.k (AV.int .u32 0))), .op (some 3) none (.mv (.k (AV.int .u32 0)))]) (.seq (.region [.op (some 4) none (.mv (.k (AV.int .u32 0)))]) (.seq (.seq (.region [.op (some 5) none (.mv (.k (AV.int .i64 0)))]) (.block 0 (.loop [0, 4, 5] [] (internalBytealgHashStrString_c0)))) (internalBytealgHashStrString_c3)))
def internalBytealgHashStrString : AFunc := ⟨1, 39, [.tmp 2, .tmp 3], internalBytealgHashStrString_c4⟩
def internalBytealgHashStrStringr (R : Nat → List AV → Option Res) (N : Nat) (s1 : List UInt8) : Option Res :=
  internalBytealgHashStrString_L1 R N
    (fun s5 i5 =>
      internalBytealgHashStrString_L2 R N
        (fun i14 i15 =>
          some ⟨AV.tup [AV.int .u32 i14, AV.int .u32 i15], false, []⟩)
        N i5 1 16777619 ((s5.length : Nat) : Int))
    N s1 0 0
theorem internalBytealgHashStrString_eq (R : Nat → List AV → Option Res) (N : Nat) (s1 : List UInt8) : runF gl R N internalBytealgHashStrString [AV.str s1] = internalBytealgHashStrStringr R N s1 := by
  refine Eq.trans (b :=
      rounds [0, 4, 5] [] (evC gl R N internalBytealgHashStrString_c0) (Kblock 0 (Kthen gl R N internalBytealgHashStrString_c3 (Kret internalBytealgHashStrString.rets []))) N ⟨[(0, .imm (AV.str s1)), (4, .imm (AV.int .u32 0)), (5, .imm (AV.int .i64 0))], []⟩) (by kernel_rfl) ?_
  simp (config := { maxSteps := 100000000 }) only [internalBytealgHashStrString_L1_eq, internalBytealgHashStrString_L2_eq]
  refine Eq.trans (b :=
      internalBytealgHashStrString_L1 R N
        (fun s5 i5 =>
          rounds [4, 6, 7, 8] [] (evC gl R N internalBytealgHashStrString_c1) (Kblock 2 (Kthen gl R N internalBytealgHashStrString_c2 (Kret internalBytealgHashStrString.rets []))) N ⟨[(4, .imm (AV.int .u32 i5)), (6, .imm (AV.int .u32 1)), (7, .imm (AV.int .u32 16777619)), (8, .imm (AV.int .i64 ((s5.length : Nat) : Int)))], []⟩)
        N s1 0 0) (by kernel_rfl) ?_
  simp (config := { maxSteps := 100000000 }) only [internalBytealgHashStrString_L1_eq, internalBytealgHashStrString_L2_eq]
  kernel_rfl
theorem internalBytealgHashStrString_fit : fitF Tryd.prog internalBytealgHashStrString Tryd.f75 = true := by
  kernel_rfl

def unicodeUtf8DecodeRuneInStringSlow_c1 : AC := .seq (.region [.op (some 2) none (.mv (.k (AV.int .i32 0))), .op (some 3) none (.mv (.k (AV.int .i64 0)))]) (.seq (.region [.op (some 13) none (.mv (.t 0)), .op (some 14) none (.len (.t 13) true), .op (some 4) none (.mv (.t 14))]) (.seq (.seq (.region [.op (some 15) none (.mv (.t 4)), .op (some 16) none (.bin .lss (.t 15) (.k (AV.int .i64 1)))]) (.cond (.t 16) (.seq (.region [.op (some 2) none (.mv (.k (AV.int .i32 65533))), .op (some 3) none (.mv (.k (AV.int .i64 0)))]) (.ret [2, 3] [])) (.skip))) (.seq (.region [.op (some 17) none (.mv (.t 0)), .op (some 18) none (.index (.t 17) (.k (AV.int .i64 0))), .op (some 5) none (.mv (.t 18))]) (.stuck))))
def unicodeUtf8DecodeRuneInStringSlow : AFunc := ⟨1, 117, [.tmp 2, .tmp 3], unicodeUtf8DecodeRuneInStringSlow_c1⟩
def unicodeUtf8DecodeRuneInStringSlowr (R : Nat → List AV → Option Res) (N : Nat) (s1 : List UInt8) : Option Res :=
  bif decide ((((s1.length : Nat) : Int) : Int) < 1) then
    (some ⟨AV.tup [AV.int .i32 65533, AV.int .i64 0], false, []⟩)
  else
    need (decide (0 ≤ (0 : Int))) <|
    (s1[Int.toNat 0]?).bind fun c1 =>
    none
theorem unicodeUtf8DecodeRuneInStringSlow_eq (R : Nat → List AV → Option Res) (N : Nat) (s1 : List UInt8) : runF gl R N unicodeUtf8DecodeRuneInStringSlow [AV.str s1] = unicodeUtf8DecodeRuneInStringSlowr R N s1 := by
  kernel_rfl
theorem unicodeUtf8DecodeRuneInStringSlow_fit : fitF Tryd.prog unicodeUtf8DecodeRuneInStringSlow Tryd.f70 = true := by
  kernel_rfl

def unicodeUtf8DecodeRuneInString_c0 : AC := .seq (.region [.op (some 2) none (.mv (.k (AV.int .i32 0))), .op (some 3) none (.mv (.k (AV.int .i64 0)))]) (.seq (.seq (.region [.op (some 4) none (.mv (.t 0)), .op (some 5) none (.bin .neq (.t 4) (.k (AV.str ([] : List UInt8)))), .op (some 6) none (.mv (.t 5)), .split 6, .op (some 7) (some (6, true)) (.mv (.t 0)), .op (some 8) (some (6, true)) (.index (.t 7) (.k (AV.int .i64 0))), .op (some 9) (some (6, true)) (.bin .lss (.t 8) (.k (AV.int .u8 128))), .op (some 10) none (.pick (.t 6) (.t 9) (.k (AV.bool false)))]) (.cond (.t 10) (.seq (.region [.op (some 11) none (.mv (.t 0)), .op (some 12) none (.index (.t 11) (.k (AV.int .i64 0))), .op (some 13) none (.cvInt .i32 (.t 12)), .op (some 2) none (.mv (.t 13)), .op (some 3) none (.mv (.k (AV.int .i64 1)))]) (.ret [2, 3] [])) (.region [.op (some 15) none (.mv (.t 0)), .op (some 16) none (.call id_unicodeUtf8DecodeRuneInStringSlow [.t 15] (.tup [.int .i32, .int .i64])), .op (some 14) none (.mv (.t 16)), .op (some 17) none (.extract (.t 14) 0), .op (some 18) none (.extract (.t 14) 1), .op (some 2) none (.mv (.t 17)), .op (some 3) none (.mv (.t 18))]))) (.ret [2, 3] []))
def unicodeUtf8DecodeRuneInString : AFunc := ⟨1, 19, [.tmp 2, .tmp 3], unicodeUtf8DecodeRuneInString_c0⟩
def unicodeUtf8DecodeRuneInStringr (R : Nat → List AV → Option Res) (N : Nat) (s1 : List UInt8) : Option Res :=
  bif !(s1 == ([] : List UInt8)) then
    (need (decide (0 ≤ (0 : Int))) <|
    (s1[Int.toNat 0]?).bind fun c1 =>
    bif decide (((c1.toNat : Int) : Int) < 128) then
      (need (decide (0 ≤ (0 : Int))) <|
      (s1[Int.toNat 0]?).bind fun c2 =>
      some ⟨AV.tup [AV.int .i32 (IntKind.i32.wrap (c2.toNat : Int)), AV.int .i64 1], false, []⟩)
    else
      (R id_unicodeUtf8DecodeRuneInStringSlow [AV.str s1]).bind fun r1 =>
      asJIT r1.v fun i1 i2 =>
      some ⟨AV.tup [AV.int .i32 i1, AV.int .i64 i2], false, []⟩)
  else
    (R id_unicodeUtf8DecodeRuneInStringSlow [AV.str s1]).bind fun r2 =>
    asJIT r2.v fun i3 i4 =>
    some ⟨AV.tup [AV.int .i32 i3, AV.int .i64 i4], false, []⟩
theorem unicodeUtf8DecodeRuneInString_eq (R : Nat → List AV → Option Res) (N : Nat) (s1 : List UInt8) : runF gl R N unicodeUtf8DecodeRuneInString [AV.str s1] = unicodeUtf8DecodeRuneInStringr R N s1 := by
  kernel_rfl
theorem unicodeUtf8DecodeRuneInString_fit : fitF Tryd.prog unicodeUtf8DecodeRuneInString Tryd.f64 = true := by
  kernel_rfl

def singlePut_L1s (R : Nat → List AV → Option Res) (N : Nat) (go : List UInt8 → List UInt8 → Int → Option Res) (k0 : List UInt8 → Bool → Option Res) (k1 : List UInt8 → Option Res) (s2 : List UInt8) (s3 : List UInt8) (i1 : Int) : Option Res :=
  bif decide ((i1 : Int) < ((s3.length : Nat) : Int)) then
    (need (decide (0 ≤ (i1 : Int)) && decide ((i1 : Int) ≤ ((s3.length : Nat) : Int))) <|
    (R id_charsRune [AV.bytes ((s3.take s3.length).drop (Int.toNat i1))]).bind fun r1 =>
    asJIBT r1.v fun i2 i3 b1 =>
    bif !b1 then
      (k0 ([] : List UInt8) false)
    else
      (R id_charsPrintable [AV.int .i32 i2]).bind fun r2 =>
      asB r2.v fun b2 =>
      bif !b2 then
        (k0 ([] : List UInt8) false)
      else
        bif (i2 : Int) == 10 then
          (k0 ([] : List UInt8) false)
        else
          bif (i2 : Int) == 13 then
            (k0 ([] : List UInt8) false)
          else
            go s2 s3 (IntKind.i64.wrap (i1 + i3)))
  else
    k1 s2
def singlePut_L1 (R : Nat → List AV → Option Res) (N : Nat) (k0 : List UInt8 → Bool → Option Res) (k1 : List UInt8 → Option Res) : Nat → List UInt8 → List UInt8 → Int → Option Res
  | 0, _, _, _ => none
  | n + 1, s2, s3, i1 => singlePut_L1s R N (singlePut_L1 R N k0 k1 n) k0 k1 s2 s3 i1
def singlePut_c0 : AC := .seq (.seq (.region [.op (some 11) none (.mv (.t 5)), .op (some 12) none (.mv (.t 4)), .op (some 13) none (.len (.t 12) false), .op (some 14) none (.bin .lss (.t 11) (.t 13))]) (.cond (.t 14) (.skip) (.exit 0 [0] []))) (.block 1 (.seq (.region [.op (some 16) none (.mv (.t 4)), .op (some 17) none (.mv (.t 5)), .op (some 18) none (.slice (.t 16) (some (.t 17)) none 1), .op (some 19) none (.call id_charsRune [.t 18] (.tup [.int .i32, .int .i64, .bool])), .op (some 15) none (.mv (.t 19)), .op (some 20) none (.extract (.t 15) 0), .op (some 21) none (.extract (.t 15) 1), .op (some 22) none (.extract (.t 15) 2), .op (some 6) none (.mv (.t 20)), .op (some 7) none (.mv (.t 21)), .op (some 8) none (.mv (.t 22))]) (.seq (.seq (.region [.op (some 23) none (.mv (.t 8)), .op (some 24) none (.un .not (.t 23)), .op (some 25) none (.mv (.t 24)), .split 25, .op (some 26) (some (25, false)) (.mv (.t 6)), .op (some 27) (some (25, false)) (.call id_charsPrintable [.t 26] (.bool)), .op (some 28) (some (25, false)) (.un .not (.t 27)), .op (some 29) none (.pick (.t 25) (.k (AV.bool true)) (.t 28)), .op (some 30) none (.mv (.t 29)), .split 30, .op (some 31) (some (30, false)) (.mv (.t 6)), .op (some 32) (some (30, false)) (.bin .eql (.t 31) (.k (AV.int .i32 10))), .op (some 33) none (.pick (.t 30) (.k (AV.bool true)) (.t 32)), .op (some 34) none (.mv (.t 33)), .split 34, .op (some 35) (some (34, false)) (.mv (.t 6)), .op (some 36) (some (34, false)) (.bin .eql (.t 35) (.k (AV.int .i32 13))), .op (some 37) none (.pick (.t 34) (.k (AV.bool true)) (.t 36))]) (.cond (.t 37) (.seq (.region [.op (some 2) none (.mv (.k (AV.str ([] : List UInt8)))), .op (some 3) none (.mv (.k (AV.bool false)))]) (.ret [2, 3] [])) (.skip))) (.region [.op (some 38) none (.mv (.t 5)), .op (some 39) none (.mv (.t 7)), .op (some 40) none (.bin .add (.t 38) (.t 39)), .op (some 5) none (.mv (.t 40))]))))
theorem singlePut_L1s_eq (R : Nat → List AV → Option Res) (N : Nat) (K : Ex → St → Option Res) (W : St → Option Res) (s2 : List UInt8) (s3 : List UInt8) (i1 : Int) :
    evC gl R N singlePut_c0 (Kseq (fun st' => W (prune [0, 4, 5] [] st')) K) ⟨[(0, .imm (AV.str s2)), (4, .imm (AV.bytes s3)), (5, .imm (AV.int .i64 i1))], []⟩ =
    singlePut_L1s R N (fun (s2 : List UInt8) (s3 : List UInt8) (i1 : Int) => W ⟨[(0, .imm (AV.str s2)), (4, .imm (AV.bytes s3)), (5, .imm (AV.int .i64 i1))], []⟩) (fun (s4 : List UInt8) (b3 : Bool) => K .ret ⟨[(2, .imm (AV.str s4)), (3, .imm (AV.bool b3))], []⟩) (fun (s5 : List UInt8) => K (.exit 0) ⟨[(0, .imm (AV.str s5))], []⟩) s2 s3 i1 := by
  kernel_rfl
theorem singlePut_L1_eq (R : Nat → List AV → Option Res) (N : Nat) (K : Ex → St → Option Res) : ∀ (n : Nat) (s2 : List UInt8) (s3 : List UInt8) (i1 : Int),
    rounds [0, 4, 5] [] (evC gl R N singlePut_c0) K n ⟨[(0, .imm (AV.str s2)), (4, .imm (AV.bytes s3)), (5, .imm (AV.int .i64 i1))], []⟩ = singlePut_L1 R N (fun (s4 : List UInt8) (b3 : Bool) => K .ret ⟨[(2, .imm (AV.str s4)), (3, .imm (AV.bool b3))], []⟩) (fun (s5 : List UInt8) => K (.exit 0) ⟨[(0, .imm (AV.str s5))], []⟩) n s2 s3 i1
  | 0, _, _, _ => rfl
  | n + 1, s2, s3, i1 => (singlePut_L1s_eq R N K (rounds [0, 4, 5] [] (evC gl R N singlePut_c0) K n) s2 s3 i1).trans
      (congrArg (fun go => singlePut_L1s R N go (fun (s4 : List UInt8) (b3 : Bool) => K .ret ⟨[(2, .imm (AV.str s4)), (3, .imm (AV.bool b3))], []⟩) (fun (s5 : List UInt8) => K (.exit 0) ⟨[(0, .imm (AV.str s5))], []⟩) s2 s3 i1) (funext fun s2 => funext fun s3 => funext fun i1 => singlePut_L1_eq R N K n s2 s3 i1))
def singlePut_c1 : AC := .seq (.region [.op (some 41) none (.mv (.t 0)), .op (some 42) none (.call id_stringsReplaceAll [.t 41, .k (AV.str ([39] : List UInt8)), .k (AV.str ([39, 39] : List UInt8))] (.str)), .op (some 43) none (.bin .add (.k (AV.str ([39] : List UInt8))) (.t 42)), .op (some 44) none (.bin .add (.t 43) (.k (AV.str ([39] : List UInt8)))), .op (some 2) none (.mv (.t 44)), .op (some 3) none (.mv (.k (AV.bool true)))]) (.ret [2, 3] [])
def singlePut_c2 : AC := .seq (.region [.op (some 2) none (.mv (.k (AV.str ([] : List UInt8)))), .op (some 3) none (.mv (.k (AV.bool false)))]) (.seq (.region [.op (some 9) none (.mv (.t 0)), .op (some 10) none (.cvBytes (.t 9)), .op (some 4) none (.mv (.t 10))]) (.seq (.seq (.region [.op (some 5) none (.mv (.k (AV.int .i64 0)))]) (.block 0 (.loop [0, 4, 5] [] (singlePut_c0)))) (singlePut_c1)))
def singlePut : AFunc := ⟨1, 45, [.tmp 2, .tmp 3], singlePut_c2⟩
def singlePutr (R : Nat → List AV → Option Res) (N : Nat) (s1 : List UInt8) : Option Res :=
  singlePut_L1 R N
    (fun s8 b5 =>
      some ⟨AV.tup [AV.str s8, AV.bool b5], false, []⟩)
    (fun s9 =>
      (R id_stringsReplaceAll [AV.str s9, AV.str ([39] : List UInt8), AV.str ([39, 39] : List UInt8)]).bind fun r3 =>
      asS r3.v fun s10 =>
      need (decide ((([39] : List UInt8) : List UInt8).length + s10.length ≤ 9223372036854775807)) <|
      need (decide ((([39] : List UInt8) ++ s10 : List UInt8).length + (([39] : List UInt8) : List UInt8).length ≤ 9223372036854775807)) <|
      some ⟨AV.tup [AV.str ((([39] : List UInt8) ++ s10) ++ ([39] : List UInt8)), AV.bool true], false, []⟩)
    N s1 s1 0
theorem singlePut_eq (R : Nat → List AV → Option Res) (N : Nat) (s1 : List UInt8) : runF gl R N singlePut [AV.str s1] = singlePutr R N s1 := by
  refine Eq.trans (b :=
      rounds [0, 4, 5] [] (evC gl R N singlePut_c0) (Kblock 0 (Kthen gl R N singlePut_c1 (Kret singlePut.rets []))) N ⟨[(0, .imm (AV.str s1)), (4, .imm (AV.bytes s1)), (5, .imm (AV.int .i64 0))], []⟩) (by kernel_rfl) ?_
  simp (config := { maxSteps := 100000000 }) only [singlePut_L1_eq]
  kernel_rfl
theorem singlePut_fit : fitF Tryd.prog singlePut Tryd.f27 = true := by
  kernel_rfl

def law05Wakes_c0 : AC := .seq (.region [.op (some 0) none (.mv (.k (AV.bool false)))]) (.seq (.region [.op (some 4) none (.call id_singlePut [.k (AV.str ([105, 116, 39, 115] : List UInt8))] (.tup [.str, .bool])), .op (some 3) none (.mv (.t 4)), .op (some 5) none (.extract (.t 3) 0), .op (some 6) none (.extract (.t 3) 1), .op (some 1) none (.mv (.t 5)), .op (some 2) none (.mv (.t 6))]) (.seq (.region [.op (some 7) none (.mv (.t 2)), .op (some 8) none (.mv (.t 7)), .split 8, .op (some 9) (some (8, true)) (.mv (.t 1)), .op (some 10) (some (8, true)) (.bin .eql (.t 9) (.k (AV.str ([39, 105, 116, 39, 39, 115, 39] : List UInt8)))), .op (some 11) none (.pick (.t 8) (.t 10) (.k (AV.bool false))), .op (some 0) none (.mv (.t 11))]) (.ret [0] [])))
def law05Wakes : AFunc := ⟨0, 12, [.tmp 0], law05Wakes_c0⟩
def law05Wakesr (R : Nat → List AV → Option Res) (N : Nat) : Option Res :=
  (R id_singlePut [AV.str ([105, 116, 39, 115] : List UInt8)]).bind fun r1 =>
  asSBT r1.v fun s1 b1 =>
  bif b1 then
    (some ⟨AV.bool (s1 == ([39, 105, 116, 39, 39, 115, 39] : List UInt8)), false, []⟩)
  else
    some ⟨AV.bool false, false, []⟩
theorem law05Wakes_eq (R : Nat → List AV → Option Res) (N : Nat) : runF gl R N law05Wakes [] = law05Wakesr R N := by
  kernel_rfl
theorem law05Wakes_fit : fitF Tryd.prog law05Wakes Tryd.f28 = true := by
  kernel_rfl

def law05SingleQuotes_L1s (R : Nat → List AV → Option Res) (N : Nat) (go : List UInt8 → Int → List UInt8 → Bool → Int → List UInt8 → Nat → Option Res) (k0 : List UInt8 → Int → List UInt8 → Bool → Int → Option Res) (s4 : List UInt8) (i2 : Int) (s5 : List UInt8) (b2 : Bool) (i3 : Int) (s6 : List UInt8) (n1 : Nat) : Option Res :=
  bif decide (n1 < s6.length) then
    (need (decide (0 ≤ (((n1 : Nat) : Int) : Int))) <|
    (s4[Int.toNat ((n1 : Nat) : Int)]?).bind fun c1 =>
    bif ((c1.toNat : Int) : Int) == 39 then
      (go s4 i2 s5 b2 (IntKind.i64.wrap (i3 + 1)) s6 (n1 + (runeAt s6 n1).2))
    else
      go s4 i2 s5 b2 i3 s6 (n1 + (runeAt s6 n1).2))
  else
    k0 s4 i2 s5 b2 i3
def law05SingleQuotes_L1 (R : Nat → List AV → Option Res) (N : Nat) (k0 : List UInt8 → Int → List UInt8 → Bool → Int → Option Res) : Nat → List UInt8 → Int → List UInt8 → Bool → Int → List UInt8 → Nat → Option Res
  | 0, _, _, _, _, _, _, _ => none
  | n + 1, s4, i2, s5, b2, i3, s6, n1 => law05SingleQuotes_L1s R N (law05SingleQuotes_L1 R N k0 n) k0 s4 i2 s5 b2 i3 s6 n1
def law05SingleQuotes_c0 : AC := .seq (.region [.op (some 20) none (.nextS (.t 19)), .op (some 21) none (.extract (.t 20) 0)]) (.seq (.cond (.t 21) (.skip) (.exit 0 [0, 1, 5, 6, 7] [])) (.block 1 (.seq (.region [.op (some 22) none (.extract (.t 20) 1), .op (some 8) none (.mv (.t 22))]) (.seq (.region [.op (some 23) none (.mv (.t 0)), .op (some 24) none (.mv (.t 8)), .op (some 25) none (.index (.t 23) (.t 24)), .op (some 26) none (.bin .eql (.t 25) (.k (AV.int .u8 39)))]) (.cond (.t 26) (.region [.op (some 27) none (.mv (.t 7)), .op (some 28) none (.bin .add (.t 27) (.k (AV.int .i64 1))), .op (some 7) none (.mv (.t 28))]) (.skip))))))
theorem law05SingleQuotes_L1s_eq (R : Nat → List AV → Option Res) (N : Nat) (K : Ex → St → Option Res) (W : St → Option Res) (s4 : List UInt8) (i2 : Int) (s5 : List UInt8) (b2 : Bool) (i3 : Int) (s6 : List UInt8) (n1 : Nat) :
    evC gl R N law05SingleQuotes_c0 (Kseq (fun st' => W (prune [0, 1, 5, 6, 7, 19] [1019] st')) K) ⟨[(0, .imm (AV.str s4)), (1, .imm (AV.int .i64 i2)), (5, .imm (AV.str s5)), (6, .imm (AV.bool b2)), (7, .imm (AV.int .i64 i3)), (19, .ptr 1019 0 0)], [(1019, .iter s6 n1)]⟩ =
    law05SingleQuotes_L1s R N (fun (s4 : List UInt8) (i2 : Int) (s5 : List UInt8) (b2 : Bool) (i3 : Int) (s6 : List UInt8) (n1 : Nat) => W ⟨[(0, .imm (AV.str s4)), (1, .imm (AV.int .i64 i2)), (5, .imm (AV.str s5)), (6, .imm (AV.bool b2)), (7, .imm (AV.int .i64 i3)), (19, .ptr 1019 0 0)], [(1019, .iter s6 n1)]⟩) (fun (s7 : List UInt8) (i4 : Int) (s8 : List UInt8) (b3 : Bool) (i5 : Int) => K (.exit 0) ⟨[(0, .imm (AV.str s7)), (1, .imm (AV.int .i64 i4)), (5, .imm (AV.str s8)), (6, .imm (AV.bool b3)), (7, .imm (AV.int .i64 i5))], []⟩) s4 i2 s5 b2 i3 s6 n1 := by
  kernel_rfl
theorem law05SingleQuotes_L1_eq (R : Nat → List AV → Option Res) (N : Nat) (K : Ex → St → Option Res) : ∀ (n : Nat) (s4 : List UInt8) (i2 : Int) (s5 : List UInt8) (b2 : Bool) (i3 : Int) (s6 : List UInt8) (n1 : Nat),
    rounds [0, 1, 5, 6, 7, 19] [1019] (evC gl R N law05SingleQuotes_c0) K n ⟨[(0, .imm (AV.str s4)), (1, .imm (AV.int .i64 i2)), (5, .imm (AV.str s5)), (6, .imm (AV.bool b2)), (7, .imm (AV.int .i64 i3)), (19, .ptr 1019 0 0)], [(1019, .iter s6 n1)]⟩ = law05SingleQuotes_L1 R N (fun (s7 : List UInt8) (i4 : Int) (s8 : List UInt8) (b3 : Bool) (i5 : Int) => K (.exit 0) ⟨[(0, .imm (AV.str s7)), (1, .imm (AV.int .i64 i4)), (5, .imm (AV.str s8)), (6, .imm (AV.bool b3)), (7, .imm (AV.int .i64 i5))], []⟩) n s4 i2 s5 b2 i3 s6 n1
  | 0, _, _, _, _, _, _, _ => rfl
  | n + 1, s4, i2, s5, b2, i3, s6, n1 => (law05SingleQuotes_L1s_eq R N K (rounds [0, 1, 5, 6, 7, 19] [1019] (evC gl R N law05SingleQuotes_c0) K n) s4 i2 s5 b2 i3 s6 n1).trans
      (congrArg (fun go => law05SingleQuotes_L1s R N go (fun (s7 : List UInt8) (i4 : Int) (s8 : List UInt8) (b3 : Bool) (i5 : Int) => K (.exit 0) ⟨[(0, .imm (AV.str s7)), (1, .imm (AV.int .i64 i4)), (5, .imm (AV.str s8)), (6, .imm (AV.bool b3)), (7, .imm (AV.int .i64 i5))], []⟩) s4 i2 s5 b2 i3 s6 n1) (funext fun s4 => funext fun i2 => funext fun s5 => funext fun b2 => funext fun i3 => funext fun s6 => funext fun n1 => law05SingleQuotes_L1_eq R N K n s4 i2 s5 b2 i3 s6 n1))
def law05SingleQuotes_c1 : AC := .seq (.seq (.region [.op (some 29) none (.mv (.t 6)), .op (some 30) none (.mv (.t 29)), .split 30, .op (some 31) (some (30, true)) (.mv (.t 5)), .op (some 32) (some (30, true)) (.len (.t 31) true), .op (some 33) (some (30, true)) (.mv (.t 0)), .op (some 34) (some (30, true)) (.len (.t 33) true), .op (some 35) (some (30, true)) (.bin .add (.t 34) (.k (AV.int .i64 2))), .op (some 36) (some (30, true)) (.mv (.t 7)), .op (some 37) (some (30, true)) (.bin .add (.t 35) (.t 36)), .op (some 38) (some (30, true)) (.bin .neq (.t 32) (.t 37)), .op (some 39) (some (30, true)) (.mv (.t 38)), .split 39, .op (some 40) (some (39, false)) (.mv (.t 5)), .op (some 41) (some (39, false)) (.index (.t 40) (.k (AV.int .i64 0))), .op (some 42) (some (39, false)) (.bin .neq (.t 41) (.k (AV.int .u8 39))), .op (some 43) (some (30, true)) (.pick (.t 39) (.k (AV.bool true)) (.t 42)), .op (some 44) (some (30, true)) (.mv (.t 43)), .split 44, .op (some 45) (some (44, false)) (.mv (.t 5)), .op (some 46) (some (44, false)) (.mv (.t 5)), .op (some 47) (some (44, false)) (.len (.t 46) true), .op (some 48) (some (44, false)) (.bin .sub (.t 47) (.k (AV.int .i64 1))), .op (some 49) (some (44, false)) (.index (.t 45) (.t 48)), .op (some 50) (some (44, false)) (.bin .neq (.t 49) (.k (AV.int .u8 39))), .op (some 51) (some (30, true)) (.pick (.t 44) (.k (AV.bool true)) (.t 50)), .op (some 52) none (.pick (.t 30) (.t 51) (.k (AV.bool false)))]) (.cond (.t 52) (.seq (.region [.op (some 4) none (.mv (.k (AV.bool false)))]) (.ret [4] [])) (.skip))) (.seq (.region [.op (some 54) none (.mv (.t 0)), .op (some 55) none (.bslice [.k (AV.str ([10] : List UInt8)), .k (AV.str ([13] : List UInt8)), .k (AV.str ([0] : List UInt8)), .k (AV.str ([255] : List UInt8)), .k (AV.str ([127] : List UInt8)), .k (AV.str ([239, 187, 191] : List UInt8))] 1 false), .op (some 56) none (.mv (.t 1)), .op (some 57) none (.call id_keepWithin [.t 56, .k (AV.int .i64 6)] (.int .i64)), .op (some 58) none (.iaddr (.t 55) (.t 57) 1 (.str)), .op (some 59) none (.load (.t 58) none (.str)), .op (some 60) none (.bin .add (.t 54) (.t 59)), .op (some 61) none (.call id_singlePut [.t 60] (.tup [.str, .bool])), .op (some 53) none (.mv (.t 61)), .op (some 62) none (.extract (.t 53) 0), .op (some 63) none (.extract (.t 53) 1), .op (some 9) none (.mv (.t 62)), .op (some 10) none (.mv (.t 63))]) (.seq (.region [.op (some 64) none (.mv (.t 10)), .op (some 65) none (.un .not (.t 64)), .op (some 66) none (.mv (.t 65)), .split 66, .op (some 67) (some (66, true)) (.call id_law05Wakes [] (.bool)), .op (some 68) none (.pick (.t 66) (.t 67) (.k (AV.bool false))), .op (some 4) none (.mv (.t 68))]) (.ret [4] [])))
def law05SingleQuotes_c2 : AC := .seq (.region [.op (some 4) none (.mv (.k (AV.bool false)))]) (.seq (.region [.op (some 11) none (.mv (.t 0)), .op (some 12) none (.call id_keepText [.t 11, .k (AV.int .i64 40)] (.str)), .op (some 0) none (.mv (.t 12))]) (.seq (.region [.op (some 14) none (.mv (.t 0)), .op (some 15) none (.call id_singlePut [.t 14] (.tup [.str, .bool])), .op (some 13) none (.mv (.t 15)), .op (some 16) none (.extract (.t 13) 0), .op (some 17) none (.extract (.t 13) 1), .op (some 5) none (.mv (.t 16)), .op (some 6) none (.mv (.t 17))]) (.seq (.region [.op (some 7) none (.mv (.k (AV.int .i64 0)))]) (.seq (.seq (.region [.op (some 18) none (.mv (.t 0)), .op (some 19) none (.rangeS 1019 (.t 18))]) (.block 0 (.loop [0, 1, 5, 6, 7, 19] [1019] (law05SingleQuotes_c0)))) (law05SingleQuotes_c1)))))
def law05SingleQuotes : AFunc := ⟨2, 69, [.tmp 4], law05SingleQuotes_c2⟩
def law05SingleQuotesr (R : Nat → List AV → Option Res) (N : Nat) (s1 : List UInt8) (i1 : Int) : Option Res :=
  (R id_keepText [AV.str s1, AV.int .i64 40]).bind fun r1 =>
  asS r1.v fun s2 =>
  (R id_singlePut [AV.str s2]).bind fun r2 =>
  asSBT r2.v fun s3 b1 =>
  law05SingleQuotes_L1 R N
    (fun s11 i8 s12 b5 i9 =>
      bif b5 then
        (bif (((s12.length : Nat) : Int) : Int) != (IntKind.i64.wrap ((IntKind.i64.wrap (((s11.length : Nat) : Int) + 2)) + i9)) then
          (some ⟨AV.bool false, false, []⟩)
        else
          need (decide (0 ≤ (0 : Int))) <|
          (s12[Int.toNat 0]?).bind fun c2 =>
          bif ((c2.toNat : Int) : Int) != 39 then
            (some ⟨AV.bool false, false, []⟩)
          else
            need (decide (0 ≤ (IntKind.i64.wrap (((s12.length : Nat) : Int) - 1) : Int))) <|
            (s12[Int.toNat (IntKind.i64.wrap (((s12.length : Nat) : Int) - 1))]?).bind fun c3 =>
            bif ((c3.toNat : Int) : Int) != 39 then
              (some ⟨AV.bool false, false, []⟩)
            else
              (R id_keepWithin [AV.int .i64 i8, AV.int .i64 6]).bind fun r3 =>
              asI .i64 r3.v fun i10 =>
              need (decide (0 ≤ (i10 : Int))) <|
              (([AV.str ([10] : List UInt8), AV.str ([13] : List UInt8), AV.str ([0] : List UInt8), AV.str ([255] : List UInt8), AV.str ([127] : List UInt8), AV.str ([239, 187, 191] : List UInt8)] : List AV)[Int.toNat i10]?).bind fun e1 =>
              asS e1 fun s13 =>
              need (decide (s11.length + s13.length ≤ 9223372036854775807)) <|
              (R id_singlePut [AV.str (s11 ++ s13)]).bind fun r4 =>
              asSBT r4.v fun s14 b6 =>
              bif !b6 then
                ((R id_law05Wakes []).bind fun r5 =>
                asB r5.v fun b7 =>
                some ⟨AV.bool b7, false, []⟩)
              else
                some ⟨AV.bool false, false, []⟩)
      else
        (R id_keepWithin [AV.int .i64 i8, AV.int .i64 6]).bind fun r6 =>
        asI .i64 r6.v fun i11 =>
        need (decide (0 ≤ (i11 : Int))) <|
        (([AV.str ([10] : List UInt8), AV.str ([13] : List UInt8), AV.str ([0] : List UInt8), AV.str ([255] : List UInt8), AV.str ([127] : List UInt8), AV.str ([239, 187, 191] : List UInt8)] : List AV)[Int.toNat i11]?).bind fun e2 =>
        asS e2 fun s15 =>
        need (decide (s11.length + s15.length ≤ 9223372036854775807)) <|
        (R id_singlePut [AV.str (s11 ++ s15)]).bind fun r7 =>
        asSBT r7.v fun s16 b8 =>
        bif !b8 then
          ((R id_law05Wakes []).bind fun r8 =>
          asB r8.v fun b9 =>
          some ⟨AV.bool b9, false, []⟩)
        else
          some ⟨AV.bool false, false, []⟩)
    N s2 i1 s3 b1 0 s2 0
theorem law05SingleQuotes_eq (R : Nat → List AV → Option Res) (N : Nat) (s1 : List UInt8) (i1 : Int) : runF gl R N law05SingleQuotes [AV.str s1, AV.int .i64 i1] = law05SingleQuotesr R N s1 i1 := by
  refine Eq.trans (b :=
      (R id_keepText [AV.str s1, AV.int .i64 40]).bind fun r1 =>
      asS r1.v fun s2 =>
      (R id_singlePut [AV.str s2]).bind fun r2 =>
      asSBT r2.v fun s3 b1 =>
      rounds [0, 1, 5, 6, 7, 19] [1019] (evC gl R N law05SingleQuotes_c0) (Kblock 0 (Kthen gl R N law05SingleQuotes_c1 (Kret law05SingleQuotes.rets []))) N ⟨[(0, .imm (AV.str s2)), (1, .imm (AV.int .i64 i1)), (5, .imm (AV.str s3)), (6, .imm (AV.bool b1)), (7, .imm (AV.int .i64 0)), (19, .ptr 1019 0 0)], [(1019, .iter s2 0)]⟩) (by kernel_rfl) ?_
  simp (config := { maxSteps := 100000000 }) only [law05SingleQuotes_L1_eq]
  kernel_rfl
theorem law05SingleQuotes_fit : fitF Tryd.prog law05SingleQuotes Tryd.f10 = true := by
  kernel_rfl

def singleTake_L1s (R : Nat → List AV → Option Res) (N : Nat) (go : List UInt8 → Int → List UInt8 → Option Res) (k0 : List UInt8 → Int → Bool → Option Res) (k1 : Option Res) (s2 : List UInt8) (i1 : Int) (s3 : List UInt8) : Option Res :=
  bif decide ((i1 : Int) < ((s2.length : Nat) : Int)) then
    (need (decide (0 ≤ (i1 : Int))) <|
    (s2[Int.toNat i1]?).bind fun c2 =>
    bif ((c2.toNat : Int) : Int) == 10 then
      (k0 ([] : List UInt8) 0 false)
    else
      need (decide (0 ≤ (i1 : Int))) <|
      (s2[Int.toNat i1]?).bind fun c3 =>
      bif ((c3.toNat : Int) : Int) == 13 then
        (k0 ([] : List UInt8) 0 false)
      else
        need (decide (0 ≤ (i1 : Int))) <|
        (s2[Int.toNat i1]?).bind fun c4 =>
        bif ((c4.toNat : Int) : Int) != 39 then
          (need (decide (0 ≤ (i1 : Int))) <|
          (s2[Int.toNat i1]?).bind fun c5 =>
          need (decide (0 ≤ ((c5.toNat : Int) : Int)) && decide (((c5.toNat : Int) : Int) < 256)) <|
          need (decide (((s3.drop 0).take s3.length).length + ([UInt8.ofNat (Int.toNat (c5.toNat : Int))] : List UInt8).length ≤ 1099511627776)) <|
          go s2 (IntKind.i64.wrap (i1 + 1)) (((s3.drop 0).take s3.length) ++ [UInt8.ofNat (Int.toNat (c5.toNat : Int))]))
        else
          bif decide (((IntKind.i64.wrap (i1 + 1)) : Int) < ((s2.length : Nat) : Int)) then
            (need (decide (0 ≤ (IntKind.i64.wrap (i1 + 1) : Int))) <|
            (s2[Int.toNat (IntKind.i64.wrap (i1 + 1))]?).bind fun c6 =>
            bif ((c6.toNat : Int) : Int) == 39 then
              (need (decide (0 ≤ (i1 : Int))) <|
              (s2[Int.toNat i1]?).bind fun c7 =>
              need (decide (0 ≤ ((c7.toNat : Int) : Int)) && decide (((c7.toNat : Int) : Int) < 256)) <|
              need (decide (((s3.drop 0).take s3.length).length + ([UInt8.ofNat (Int.toNat (c7.toNat : Int))] : List UInt8).length ≤ 1099511627776)) <|
              go s2 (IntKind.i64.wrap ((IntKind.i64.wrap (i1 + 1)) + 1)) (((s3.drop 0).take s3.length) ++ [UInt8.ofNat (Int.toNat (c7.toNat : Int))]))
            else
              k0 ((s3.drop 0).take s3.length) (IntKind.i64.wrap (i1 + 1)) true)
          else
            k0 ((s3.drop 0).take s3.length) (IntKind.i64.wrap (i1 + 1)) true)
  else
    k1
def singleTake_L1 (R : Nat → List AV → Option Res) (N : Nat) (k0 : List UInt8 → Int → Bool → Option Res) (k1 : Option Res) : Nat → List UInt8 → Int → List UInt8 → Option Res
  | 0, _, _, _ => none
  | n + 1, s2, i1, s3 => singleTake_L1s R N (singleTake_L1 R N k0 k1 n) k0 k1 s2 i1 s3
def singleTake_c0 : AC := .seq (.seq (.region [.op (some 16) none (.mv (.t 6)), .op (some 17) none (.mv (.t 0)), .op (some 18) none (.len (.t 17) false), .op (some 19) none (.bin .lss (.t 16) (.t 18))]) (.cond (.t 19) (.skip) (.exit 0 [] []))) (.seq (.block 1 (.block 2 (.seq (.region [.op (some 27) none (.mv (.t 0)), .op (some 28) none (.mv (.t 6)), .op (some 29) none (.iaddr (.t 27) (.t 28) 1 (.int .u8)), .op (some 30) none (.load (.t 29) none (.int .u8)), .op (some 31) none (.bin .eql (.t 30) (.k (AV.int .u8 10))), .op (some 32) none (.mv (.t 31)), .split 32, .op (some 33) (some (32, false)) (.mv (.t 0)), .op (some 34) (some (32, false)) (.mv (.t 6)), .op (some 35) (some (32, false)) (.iaddr (.t 33) (.t 34) 1 (.int .u8)), .op (some 36) (some (32, false)) (.load (.t 35) none (.int .u8)), .op (some 37) (some (32, false)) (.bin .eql (.t 36) (.k (AV.int .u8 13))), .op (some 38) none (.pick (.t 32) (.k (AV.bool true)) (.t 37)), .op (some 26) none (.mv (.t 38))]) (.cond (.t 26) (.seq (.region [.op (some 2) none (.mv (.k (AV.str ([] : List UInt8)))), .op (some 3) none (.mv (.k (AV.int .i64 0))), .op (some 4) none (.mv (.k (AV.bool false)))]) (.ret [2, 3, 4] [])) (.seq (.region [.op (some 40) none (.mv (.t 0)), .op (some 41) none (.mv (.t 6)), .op (some 42) none (.iaddr (.t 40) (.t 41) 1 (.int .u8)), .op (some 43) none (.load (.t 42) none (.int .u8)), .op (some 44) none (.bin .neq (.t 43) (.k (AV.int .u8 39))), .op (some 39) none (.mv (.t 44))]) (.cond (.t 39) (.region [.op (some 45) none (.mv (.t 5)), .op (some 46) none (.mv (.t 0)), .op (some 47) none (.mv (.t 6)), .op (some 48) none (.iaddr (.t 46) (.t 47) 1 (.int .u8)), .op (some 49) none (.load (.t 48) none (.int .u8)), .op (some 50) none (.bslice [.t 49] 1 true), .op (some 51) none (.app 5 (.t 45) (.t 50) 1 .any true), .op (some 5) none (.mv (.t 51))]) (.seq (.region [.op (some 53) none (.mv (.t 6)), .op (some 54) none (.bin .add (.t 53) (.k (AV.int .i64 1))), .op (some 55) none (.mv (.t 0)), .op (some 56) none (.len (.t 55) false), .op (some 57) none (.bin .lss (.t 54) (.t 56)), .op (some 58) none (.mv (.t 57)), .split 58, .op (some 59) (some (58, true)) (.mv (.t 0)), .op (some 60) (some (58, true)) (.mv (.t 6)), .op (some 61) (some (58, true)) (.bin .add (.t 60) (.k (AV.int .i64 1))), .op (some 62) (some (58, true)) (.iaddr (.t 59) (.t 61) 1 (.int .u8)), .op (some 63) (some (58, true)) (.load (.t 62) none (.int .u8)), .op (some 64) (some (58, true)) (.bin .eql (.t 63) (.k (AV.int .u8 39))), .op (some 65) none (.pick (.t 58) (.t 64) (.k (AV.bool false))), .op (some 52) none (.mv (.t 65))]) (.cond (.t 52) (.seq (.region [.op (some 66) none (.mv (.t 5)), .op (some 67) none (.mv (.t 0)), .op (some 68) none (.mv (.t 6)), .op (some 69) none (.iaddr (.t 67) (.t 68) 1 (.int .u8)), .op (some 70) none (.load (.t 69) none (.int .u8)), .op (some 71) none (.bslice [.t 70] 1 true), .op (some 72) none (.app 5 (.t 66) (.t 71) 1 .any true), .op (some 5) none (.mv (.t 72))]) (.region [.op (some 73) none (.mv (.t 6)), .op (some 74) none (.bin .add (.t 73) (.k (AV.int .i64 1))), .op (some 6) none (.mv (.t 74))])) (.seq (.region [.op (some 22) none (.mv (.t 5)), .op (some 23) none (.cvStr (.t 22)), .op (some 24) none (.mv (.t 6)), .op (some 25) none (.bin .add (.t 24) (.k (AV.int .i64 1))), .op (some 2) none (.mv (.t 23)), .op (some 3) none (.mv (.t 25)), .op (some 4) none (.mv (.k (AV.bool true)))]) (.ret [2, 3, 4] [])))))))))) (.region [.op (some 20) none (.mv (.t 6)), .op (some 21) none (.bin .add (.t 20) (.k (AV.int .i64 1))), .op (some 6) none (.mv (.t 21))]))
theorem singleTake_L1s_eq (R : Nat → List AV → Option Res) (N : Nat) (K : Ex → St → Option Res) (W : St → Option Res) (s2 : List UInt8) (i1 : Int) (s3 : List UInt8) :
    evC gl R N singleTake_c0 (Kseq (fun st' => W (prune [0, 5, 6] [5] st')) K) ⟨[(0, .imm (AV.bytes s2)), (5, .own 5 0 s3.length none), (6, .imm (AV.int .i64 i1))], [(5, .bytes s3 false)]⟩ =
    singleTake_L1s R N (fun (s2 : List UInt8) (i1 : Int) (s3 : List UInt8) => W ⟨[(0, .imm (AV.bytes s2)), (5, .own 5 0 s3.length none), (6, .imm (AV.int .i64 i1))], [(5, .bytes s3 false)]⟩) (fun (s4 : List UInt8) (i2 : Int) (b1 : Bool) => K .ret ⟨[(2, .imm (AV.str s4)), (3, .imm (AV.int .i64 i2)), (4, .imm (AV.bool b1))], []⟩) (K (.exit 0) ⟨[], []⟩) s2 i1 s3 := by
  kernel_rfl
theorem singleTake_L1_eq (R : Nat → List AV → Option Res) (N : Nat) (K : Ex → St → Option Res) : ∀ (n : Nat) (s2 : List UInt8) (i1 : Int) (s3 : List UInt8),
    rounds [0, 5, 6] [5] (evC gl R N singleTake_c0) K n ⟨[(0, .imm (AV.bytes s2)), (5, .own 5 0 s3.length none), (6, .imm (AV.int .i64 i1))], [(5, .bytes s3 false)]⟩ = singleTake_L1 R N (fun (s4 : List UInt8) (i2 : Int) (b1 : Bool) => K .ret ⟨[(2, .imm (AV.str s4)), (3, .imm (AV.int .i64 i2)), (4, .imm (AV.bool b1))], []⟩) (K (.exit 0) ⟨[], []⟩) n s2 i1 s3
  | 0, _, _, _ => rfl
  | n + 1, s2, i1, s3 => (singleTake_L1s_eq R N K (rounds [0, 5, 6] [5] (evC gl R N singleTake_c0) K n) s2 i1 s3).trans
      (congrArg (fun go => singleTake_L1s R N go (fun (s4 : List UInt8) (i2 : Int) (b1 : Bool) => K .ret ⟨[(2, .imm (AV.str s4)), (3, .imm (AV.int .i64 i2)), (4, .imm (AV.bool b1))], []⟩) (K (.exit 0) ⟨[], []⟩) s2 i1 s3) (funext fun s2 => funext fun i1 => funext fun s3 => singleTake_L1_eq R N K n s2 i1 s3))
def singleTake_c1 : AC := .seq (.region [.op (some 2) none (.mv (.k (AV.str ([] : List UInt8)))), .op (some 3) none (.mv (.k (AV.int .i64 0))), .op (some 4) none (.mv (.k (AV.bool false)))]) (.ret [2, 3, 4] [])
def singleTake_c2 : AC := .seq (.region [.op (some 2) none (.mv (.k (AV.str ([] : List UInt8)))), .op (some 3) none (.mv (.k (AV.int .i64 0))), .op (some 4) none (.mv (.k (AV.bool false)))]) (.seq (.seq (.region [.op (some 7) none (.mv (.t 0)), .op (some 8) none (.len (.t 7) false), .op (some 9) none (.bin .eql (.t 8) (.k (AV.int .i64 0))), .op (some 10) none (.mv (.t 9)), .split 10, .op (some 11) (some (10, false)) (.mv (.t 0)), .op (some 12) (some (10, false)) (.iaddr (.t 11) (.k (AV.int .i64 0)) 1 (.int .u8)), .op (some 13) (some (10, false)) (.load (.t 12) none (.int .u8)), .op (some 14) (some (10, false)) (.bin .neq (.t 13) (.k (AV.int .u8 39))), .op (some 15) none (.pick (.t 10) (.k (AV.bool true)) (.t 14))]) (.cond (.t 15) (.seq (.region [.op (some 2) none (.mv (.k (AV.str ([] : List UInt8)))), .op (some 3) none (.mv (.k (AV.int .i64 0))), .op (some 4) none (.mv (.k (AV.bool false)))]) (.ret [2, 3, 4] [])) (.skip))) (.seq (.region [.op (some 5) none (.nilOwn 5 none)]) (.seq (.seq (.region [.op (some 6) none (.mv (.k (AV.int .i64 1)))]) (.block 0 (.loop [0, 5, 6] [5] (singleTake_c0)))) (singleTake_c1))))
def singleTake : AFunc := ⟨1, 75, [.tmp 2, .tmp 3, .tmp 4], singleTake_c2⟩
def singleTaker (R : Nat → List AV → Option Res) (N : Nat) (s1 : List UInt8) : Option Res :=
  bif (((s1.length : Nat) : Int) : Int) == 0 then
    (some ⟨AV.tup [AV.str ([] : List UInt8), AV.int .i64 0, AV.bool false], false, []⟩)
  else
    need (decide (0 ≤ (0 : Int))) <|
    (s1[Int.toNat 0]?).bind fun c1 =>
    bif ((c1.toNat : Int) : Int) != 39 then
      (some ⟨AV.tup [AV.str ([] : List UInt8), AV.int .i64 0, AV.bool false], false, []⟩)
    else
      singleTake_L1 R N
        (fun s6 i4 b3 =>
          some ⟨AV.tup [AV.str s6, AV.int .i64 i4, AV.bool b3], false, []⟩)
        (
          some ⟨AV.tup [AV.str ([] : List UInt8), AV.int .i64 0, AV.bool false], false, []⟩)
        N s1 1 []
theorem singleTake_eq (R : Nat → List AV → Option Res) (N : Nat) (s1 : List UInt8) : runF gl R N singleTake [AV.bytes s1] = singleTaker R N s1 := by
  refine Eq.trans (b :=
      bif (((s1.length : Nat) : Int) : Int) == 0 then
        (some ⟨AV.tup [AV.str ([] : List UInt8), AV.int .i64 0, AV.bool false], false, []⟩)
      else
        need (decide (0 ≤ (0 : Int))) <|
        (s1[Int.toNat 0]?).bind fun c1 =>
        bif ((c1.toNat : Int) : Int) != 39 then
          (some ⟨AV.tup [AV.str ([] : List UInt8), AV.int .i64 0, AV.bool false], false, []⟩)
        else
          rounds [0, 5, 6] [5] (evC gl R N singleTake_c0) (Kblock 0 (Kthen gl R N singleTake_c1 (Kret singleTake.rets []))) N ⟨[(0, .imm (AV.bytes s1)), (5, .own 5 0 (([] : List UInt8).length) none), (6, .imm (AV.int .i64 1))], [(5, .bytes [] false)]⟩) (by kernel_rfl) ?_
  simp (config := { maxSteps := 100000000 }) only [singleTake_L1_eq]
  kernel_rfl
theorem singleTake_fit : fitF Tryd.prog singleTake Tryd.f29 = true := by
  kernel_rfl

def law05SingleForms_L1s (R : Nat → List AV → Option Res) (N : Nat) (go : List UInt8 → List UInt8 → Int → Int → Option Res) (k0 : List UInt8 → Option Res) (s3 : List UInt8) (s4 : List UInt8) (i1 : Int) (i2 : Int) : Option Res :=
  bif decide ((i2 : Int) < i1) then
    (need (decide (0 ≤ (i2 : Int))) <|
    (s4[Int.toNat i2]?).bind fun c1 =>
    bif ((c1.toNat : Int) : Int) != 39 then
      (bif ((c1.toNat : Int) : Int) != 10 then
        (bif ((c1.toNat : Int) : Int) != 13 then
          (need (decide (0 ≤ ((c1.toNat : Int) : Int)) && decide (((c1.toNat : Int) : Int) < 256)) <|
          need (decide (s3.length + ([UInt8.ofNat (Int.toNat (c1.toNat : Int))] : List UInt8).length ≤ 9223372036854775807)) <|
          go (s3 ++ [UInt8.ofNat (Int.toNat (c1.toNat : Int))]) s4 i1 (IntKind.i64.wrap (i2 + 1)))
        else
          go s3 s4 i1 (IntKind.i64.wrap (i2 + 1)))
      else
        go s3 s4 i1 (IntKind.i64.wrap (i2 + 1)))
    else
      go s3 s4 i1 (IntKind.i64.wrap (i2 + 1)))
  else
    k0 s3
def law05SingleForms_L1 (R : Nat → List AV → Option Res) (N : Nat) (k0 : List UInt8 → Option Res) : Nat → List UInt8 → List UInt8 → Int → Int → Option Res
  | 0, _, _, _, _ => none
  | n + 1, s3, s4, i1, i2 => law05SingleForms_L1s R N (law05SingleForms_L1 R N k0 n) k0 s3 s4 i1 i2
def law05SingleForms_c0 : AC := .seq (.region [.op (some 22) none (.bin .lss (.t 21) (.t 20))]) (.seq (.cond (.t 22) (.skip) (.exit 0 [3] [])) (.seq (.block 1 (.seq (.region [.op (some 23) none (.iaddr (.t 19) (.t 21) 1 (.int .u8)), .op (some 24) none (.load (.t 23) none (.int .u8)), .op (some 5) none (.mv (.t 24))]) (.seq (.region [.op (some 25) none (.mv (.t 5)), .op (some 26) none (.bin .neq (.t 25) (.k (AV.int .u8 39))), .op (some 27) none (.mv (.t 26)), .split 27, .op (some 28) (some (27, true)) (.mv (.t 5)), .op (some 29) (some (27, true)) (.bin .neq (.t 28) (.k (AV.int .u8 10))), .op (some 30) none (.pick (.t 27) (.t 29) (.k (AV.bool false))), .op (some 31) none (.mv (.t 30)), .split 31, .op (some 32) (some (31, true)) (.mv (.t 5)), .op (some 33) (some (31, true)) (.bin .neq (.t 32) (.k (AV.int .u8 13))), .op (some 34) none (.pick (.t 31) (.t 33) (.k (AV.bool false)))]) (.cond (.t 34) (.region [.op (some 35) none (.mv (.t 3)), .op (some 36) none (.mv (.t 5)), .op (some 37) none (.bslice [.t 36] 1 true), .op (some 38) none (.cvStr (.t 37)), .op (some 39) none (.bin .add (.t 35) (.t 38)), .op (some 3) none (.mv (.t 39))]) (.skip))))) (.region [.op (some 40) none (.bin .add (.t 21) (.k (AV.int .i64 1))), .op (some 21) none (.mv (.t 40))])))
theorem law05SingleForms_L1s_eq (R : Nat → List AV → Option Res) (N : Nat) (K : Ex → St → Option Res) (W : St → Option Res) (s3 : List UInt8) (s4 : List UInt8) (i1 : Int) (i2 : Int) :
    evC gl R N law05SingleForms_c0 (Kseq (fun st' => W (prune [3, 19, 20, 21] [] st')) K) ⟨[(3, .imm (AV.str s3)), (19, .imm (AV.bytes s4)), (20, .imm (AV.int .i64 i1)), (21, .imm (AV.int .i64 i2))], []⟩ =
    law05SingleForms_L1s R N (fun (s3 : List UInt8) (s4 : List UInt8) (i1 : Int) (i2 : Int) => W ⟨[(3, .imm (AV.str s3)), (19, .imm (AV.bytes s4)), (20, .imm (AV.int .i64 i1)), (21, .imm (AV.int .i64 i2))], []⟩) (fun (s5 : List UInt8) => K (.exit 0) ⟨[(3, .imm (AV.str s5))], []⟩) s3 s4 i1 i2 := by
  kernel_rfl
theorem law05SingleForms_L1_eq (R : Nat → List AV → Option Res) (N : Nat) (K : Ex → St → Option Res) : ∀ (n : Nat) (s3 : List UInt8) (s4 : List UInt8) (i1 : Int) (i2 : Int),
    rounds [3, 19, 20, 21] [] (evC gl R N law05SingleForms_c0) K n ⟨[(3, .imm (AV.str s3)), (19, .imm (AV.bytes s4)), (20, .imm (AV.int .i64 i1)), (21, .imm (AV.int .i64 i2))], []⟩ = law05SingleForms_L1 R N (fun (s5 : List UInt8) => K (.exit 0) ⟨[(3, .imm (AV.str s5))], []⟩) n s3 s4 i1 i2
  | 0, _, _, _, _ => rfl
  | n + 1, s3, s4, i1, i2 => (law05SingleForms_L1s_eq R N K (rounds [3, 19, 20, 21] [] (evC gl R N law05SingleForms_c0) K n) s3 s4 i1 i2).trans
      (congrArg (fun go => law05SingleForms_L1s R N go (fun (s5 : List UInt8) => K (.exit 0) ⟨[(3, .imm (AV.str s5))], []⟩) s3 s4 i1 i2) (funext fun s3 => funext fun s4 => funext fun i1 => funext fun i2 => law05SingleForms_L1_eq R N K n s3 s4 i1 i2))
def law05SingleForms_L2s (R : Nat → List AV → Option Res) (N : Nat) (go : List UInt8 → List AV → Int → Int → Option Res) (k0 : Bool → Option Res) (k1 : List UInt8 → Option Res) (s8 : List UInt8) (l1 : List AV) (i3 : Int) (i4 : Int) : Option Res :=
  bif decide ((i4 : Int) < i3) then
    (need (decide (0 ≤ (i4 : Int))) <|
    (l1[Int.toNat i4]?).bind fun e1 =>
    asS e1 fun s9 =>
    (R id_singleTake [AV.bytes s9]).bind fun r2 =>
    asSIBT r2.v fun s10 i5 b1 =>
    bif b1 then
      (k0 false)
    else
      bif !(s10 == ([] : List UInt8)) then
        (k0 false)
      else
        bif (i5 : Int) != 0 then
          (k0 false)
        else
          go s8 l1 i3 (IntKind.i64.wrap (i4 + 1)))
  else
    k1 s8
def law05SingleForms_L2 (R : Nat → List AV → Option Res) (N : Nat) (k0 : Bool → Option Res) (k1 : List UInt8 → Option Res) : Nat → List UInt8 → List AV → Int → Int → Option Res
  | 0, _, _, _, _ => none
  | n + 1, s8, l1, i3, i4 => law05SingleForms_L2s R N (law05SingleForms_L2 R N k0 k1 n) k0 k1 s8 l1 i3 i4
def law05SingleForms_c1 : AC := .seq (.region [.op (some 62) none (.bin .lss (.t 61) (.t 60))]) (.seq (.cond (.t 62) (.skip) (.exit 2 [3] [])) (.seq (.block 3 (.seq (.region [.op (some 63) none (.iaddr (.t 59) (.t 61) 1 (.str)), .op (some 64) none (.load (.t 63) none (.str)), .op (some 7) none (.mv (.t 64))]) (.seq (.region [.op (some 66) none (.mv (.t 7)), .op (some 67) none (.cvBytes (.t 66)), .op (some 68) none (.call id_singleTake [.t 67] (.tup [.str, .int .i64, .bool])), .op (some 65) none (.mv (.t 68)), .op (some 69) none (.extract (.t 65) 0), .op (some 70) none (.extract (.t 65) 1), .op (some 71) none (.extract (.t 65) 2), .op (some 8) none (.mv (.t 69)), .op (some 9) none (.mv (.t 70)), .op (some 10) none (.mv (.t 71))]) (.seq (.region [.op (some 72) none (.mv (.t 10)), .op (some 73) none (.mv (.t 72)), .split 73, .op (some 74) (some (73, false)) (.mv (.t 8)), .op (some 75) (some (73, false)) (.bin .neq (.t 74) (.k (AV.str ([] : List UInt8)))), .op (some 76) none (.pick (.t 73) (.k (AV.bool true)) (.t 75)), .op (some 77) none (.mv (.t 76)), .split 77, .op (some 78) (some (77, false)) (.mv (.t 9)), .op (some 79) (some (77, false)) (.bin .neq (.t 78) (.k (AV.int .i64 0))), .op (some 80) none (.pick (.t 77) (.k (AV.bool true)) (.t 79))]) (.cond (.t 80) (.seq (.region [.op (some 2) none (.mv (.k (AV.bool false)))]) (.ret [2] [])) (.skip)))))) (.region [.op (some 81) none (.bin .add (.t 61) (.k (AV.int .i64 1))), .op (some 61) none (.mv (.t 81))])))
theorem law05SingleForms_L2s_eq (R : Nat → List AV → Option Res) (N : Nat) (K : Ex → St → Option Res) (W : St → Option Res) (s8 : List UInt8) (l1 : List AV) (i3 : Int) (i4 : Int) :
    evC gl R N law05SingleForms_c1 (Kseq (fun st' => W (prune [3, 59, 60, 61] [] st')) K) ⟨[(3, .imm (AV.str s8)), (59, .imm (AV.row 1 l1)), (60, .imm (AV.int .i64 i3)), (61, .imm (AV.int .i64 i4))], []⟩ =
    law05SingleForms_L2s R N (fun (s8 : List UInt8) (l1 : List AV) (i3 : Int) (i4 : Int) => W ⟨[(3, .imm (AV.str s8)), (59, .imm (AV.row 1 l1)), (60, .imm (AV.int .i64 i3)), (61, .imm (AV.int .i64 i4))], []⟩) (fun (b2 : Bool) => K .ret ⟨[(2, .imm (AV.bool b2))], []⟩) (fun (s11 : List UInt8) => K (.exit 2) ⟨[(3, .imm (AV.str s11))], []⟩) s8 l1 i3 i4 := by
  kernel_rfl
theorem law05SingleForms_L2_eq (R : Nat → List AV → Option Res) (N : Nat) (K : Ex → St → Option Res) : ∀ (n : Nat) (s8 : List UInt8) (l1 : List AV) (i3 : Int) (i4 : Int),
    rounds [3, 59, 60, 61] [] (evC gl R N law05SingleForms_c1) K n ⟨[(3, .imm (AV.str s8)), (59, .imm (AV.row 1 l1)), (60, .imm (AV.int .i64 i3)), (61, .imm (AV.int .i64 i4))], []⟩ = law05SingleForms_L2 R N (fun (b2 : Bool) => K .ret ⟨[(2, .imm (AV.bool b2))], []⟩) (fun (s11 : List UInt8) => K (.exit 2) ⟨[(3, .imm (AV.str s11))], []⟩) n s8 l1 i3 i4
  | 0, _, _, _, _ => rfl
  | n + 1, s8, l1, i3, i4 => (law05SingleForms_L2s_eq R N K (rounds [3, 59, 60, 61] [] (evC gl R N law05SingleForms_c1) K n) s8 l1 i3 i4).trans
      (congrArg (fun go => law05SingleForms_L2s R N go (fun (b2 : Bool) => K .ret ⟨[(2, .imm (AV.bool b2))], []⟩) (fun (s11 : List UInt8) => K (.exit 2) ⟨[(3, .imm (AV.str s11))], []⟩) s8 l1 i3 i4) (funext fun s8 => funext fun l1 => funext fun i3 => funext fun i4 => law05SingleForms_L2_eq R N K n s8 l1 i3 i4))
def law05SingleForms_c2 : AC := .seq (.region [.op (some 83) none (.mv (.t 3)), .op (some 84) none (.bin .add (.k (AV.str ([39] : List UInt8))) (.t 83)), .op (some 85) none (.bin .add (.t 84) (.k (AV.str ([39] : List UInt8)))), .op (some 86) none (.cvBytes (.t 85)), .op (some 87) none (.call id_singleTake [.t 86] (.tup [.str, .int .i64, .bool])), .op (some 82) none (.mv (.t 87)), .op (some 88) none (.extract (.t 82) 0), .op (some 89) none (.extract (.t 82) 1), .op (some 90) none (.extract (.t 82) 2), .op (some 11) none (.mv (.t 88)), .op (some 12) none (.mv (.t 89)), .op (some 13) none (.mv (.t 90))]) (.seq (.region [.op (some 92) none (.mv (.t 3)), .op (some 93) none (.bin .add (.k (AV.str ([39] : List UInt8))) (.t 92)), .op (some 94) none (.bin .add (.t 93) (.k (AV.str ([39, 39] : List UInt8)))), .op (some 95) none (.mv (.t 3)), .op (some 96) none (.bin .add (.t 94) (.t 95)), .op (some 97) none (.bin .add (.t 96) (.k (AV.str ([39, 32, 120] : List UInt8)))), .op (some 98) none (.cvBytes (.t 97)), .op (some 99) none (.call id_singleTake [.t 98] (.tup [.str, .int .i64, .bool])), .op (some 91) none (.mv (.t 99)), .op (some 100) none (.extract (.t 91) 0), .op (some 101) none (.extract (.t 91) 1), .op (some 102) none (.extract (.t 91) 2), .op (some 14) none (.mv (.t 100)), .op (some 15) none (.mv (.t 101)), .op (some 16) none (.mv (.t 102))]) (.seq (.region [.op (some 103) none (.mv (.t 13)), .op (some 104) none (.mv (.t 103)), .split 104, .op (some 105) (some (104, true)) (.mv (.t 11)), .op (some 106) (some (104, true)) (.mv (.t 3)), .op (some 107) (some (104, true)) (.bin .eql (.t 105) (.t 106)), .op (some 108) none (.pick (.t 104) (.t 107) (.k (AV.bool false))), .op (some 109) none (.mv (.t 108)), .split 109, .op (some 110) (some (109, true)) (.mv (.t 12)), .op (some 111) (some (109, true)) (.mv (.t 3)), .op (some 112) (some (109, true)) (.len (.t 111) true), .op (some 113) (some (109, true)) (.bin .add (.t 112) (.k (AV.int .i64 2))), .op (some 114) (some (109, true)) (.bin .eql (.t 110) (.t 113)), .op (some 115) none (.pick (.t 109) (.t 114) (.k (AV.bool false))), .op (some 116) none (.mv (.t 115)), .split 116, .op (some 117) (some (116, true)) (.mv (.t 16)), .op (some 118) none (.pick (.t 116) (.t 117) (.k (AV.bool false))), .op (some 119) none (.mv (.t 118)), .split 119, .op (some 120) (some (119, true)) (.mv (.t 14)), .op (some 121) (some (119, true)) (.mv (.t 3)), .op (some 122) (some (119, true)) (.bin .add (.t 121) (.k (AV.str ([39] : List UInt8)))), .op (some 123) (some (119, true)) (.mv (.t 3)), .op (some 124) (some (119, true)) (.bin .add (.t 122) (.t 123)), .op (some 125) (some (119, true)) (.bin .eql (.t 120) (.t 124)), .op (some 126) none (.pick (.t 119) (.t 125) (.k (AV.bool false))), .op (some 127) none (.mv (.t 126)), .split 127, .op (some 128) (some (127, true)) (.mv (.t 15)), .op (some 129) (some (127, true)) (.mv (.t 3)), .op (some 130) (some (127, true)) (.len (.t 129) true), .op (some 131) (some (127, true)) (.bin .mul (.k (AV.int .i64 2)) (.t 130)), .op (some 132) (some (127, true)) (.bin .add (.t 131) (.k (AV.int .i64 4))), .op (some 133) (some (127, true)) (.bin .eql (.t 128) (.t 132)), .op (some 134) none (.pick (.t 127) (.t 133) (.k (AV.bool false))), .op (some 135) none (.mv (.t 134)), .split 135, .op (some 136) (some (135, true)) (.call id_law05Wakes [] (.bool)), .op (some 137) none (.pick (.t 135) (.t 136) (.k (AV.bool false))), .op (some 2) none (.mv (.t 137))]) (.ret [2] [])))
def law05SingleForms_c3 : AC := .seq (.seq (.region [.op (some 41) none (.mv (.t 3)), .op (some 42) none (.mv (.t 3)), .op (some 43) none (.bin .add (.k (AV.str ([39] : List UInt8))) (.t 42)), .op (some 44) none (.mv (.t 3)), .op (some 45) none (.bin .add (.k (AV.str ([39] : List UInt8))) (.t 44)), .op (some 46) none (.bin .add (.t 45) (.k (AV.str ([39, 39] : List UInt8)))), .op (some 47) none (.mv (.t 3)), .op (some 48) none (.bin .add (.k (AV.str ([39] : List UInt8))) (.t 47)), .op (some 49) none (.bin .add (.t 48) (.k (AV.str ([10, 39] : List UInt8)))), .op (some 50) none (.mv (.t 3)), .op (some 51) none (.bin .add (.k (AV.str ([39, 13] : List UInt8))) (.t 50)), .op (some 52) none (.bin .add (.t 51) (.k (AV.str ([39] : List UInt8)))), .op (some 53) none (.mv (.t 3)), .op (some 54) none (.bin .add (.k (AV.str ([34] : List UInt8))) (.t 53)), .op (some 55) none (.bin .add (.t 54) (.k (AV.str ([39] : List UInt8)))), .op (some 56) none (.mv (.t 3)), .op (some 57) none (.bin .add (.k (AV.str ([32, 39] : List UInt8))) (.t 56)), .op (some 58) none (.bin .add (.t 57) (.k (AV.str ([39] : List UInt8)))), .op (some 59) none (.bslice [.k (AV.str ([] : List UInt8)), .t 41, .t 43, .t 46, .t 49, .t 52, .t 55, .t 58] 1 false), .op (some 60) none (.len (.t 59) false), .op (some 61) none (.mv (.k (AV.int .i64 0)))]) (.block 2 (.loop [3, 59, 60, 61] [] (law05SingleForms_c1)))) (law05SingleForms_c2)
def law05SingleForms_c4 : AC := .seq (.region [.op (some 2) none (.mv (.k (AV.bool false)))]) (.seq (.region [.op (some 3) none (.mv (.k (AV.str ([] : List UInt8))))]) (.seq (.seq (.region [.op (some 17) none (.mv (.t 0)), .op (some 18) none (.call id_keepText [.t 17, .k (AV.int .i64 20)] (.str)), .op (some 19) none (.cvBytes (.t 18)), .op (some 20) none (.len (.t 19) false), .op (some 21) none (.mv (.k (AV.int .i64 0)))]) (.block 0 (.loop [3, 19, 20, 21] [] (law05SingleForms_c0)))) (law05SingleForms_c3)))
def law05SingleForms : AFunc := ⟨1, 138, [.tmp 2], law05SingleForms_c4⟩
def law05SingleFormsr (R : Nat → List AV → Option Res) (N : Nat) (s1 : List UInt8) : Option Res :=
  (R id_keepText [AV.str s1, AV.int .i64 20]).bind fun r1 =>
  asS r1.v fun s2 =>
  law05SingleForms_L1 R N
    (fun s7 =>
      need (decide ((([39] : List UInt8) : List UInt8).length + s7.length ≤ 9223372036854775807)) <|
      need (decide ((([39] : List UInt8) : List UInt8).length + s7.length ≤ 9223372036854775807)) <|
      need (decide ((([39] : List UInt8) ++ s7 : List UInt8).length + (([39, 39] : List UInt8) : List UInt8).length ≤ 9223372036854775807)) <|
      need (decide ((([39] : List UInt8) : List UInt8).length + s7.length ≤ 9223372036854775807)) <|
      need (decide ((([39] : List UInt8) ++ s7 : List UInt8).length + (([10, 39] : List UInt8) : List UInt8).length ≤ 9223372036854775807)) <|
      need (decide ((([39, 13] : List UInt8) : List UInt8).length + s7.length ≤ 9223372036854775807)) <|
      need (decide ((([39, 13] : List UInt8) ++ s7 : List UInt8).length + (([39] : List UInt8) : List UInt8).length ≤ 9223372036854775807)) <|
      need (decide ((([34] : List UInt8) : List UInt8).length + s7.length ≤ 9223372036854775807)) <|
      need (decide ((([34] : List UInt8) ++ s7 : List UInt8).length + (([39] : List UInt8) : List UInt8).length ≤ 9223372036854775807)) <|
      need (decide ((([32, 39] : List UInt8) : List UInt8).length + s7.length ≤ 9223372036854775807)) <|
      need (decide ((([32, 39] : List UInt8) ++ s7 : List UInt8).length + (([39] : List UInt8) : List UInt8).length ≤ 9223372036854775807)) <|
      law05SingleForms_L2 R N
        (fun b4 =>
          some ⟨AV.bool b4, false, []⟩)
        (fun s13 =>
          need (decide ((([39] : List UInt8) : List UInt8).length + s13.length ≤ 9223372036854775807)) <|
          need (decide ((([39] : List UInt8) ++ s13 : List UInt8).length + (([39] : List UInt8) : List UInt8).length ≤ 9223372036854775807)) <|
          (R id_singleTake [AV.bytes ((([39] : List UInt8) ++ s13) ++ ([39] : List UInt8))]).bind fun r3 =>
          asSIBT r3.v fun s14 i6 b5 =>
          need (decide ((([39] : List UInt8) : List UInt8).length + s13.length ≤ 9223372036854775807)) <|
          need (decide ((([39] : List UInt8) ++ s13 : List UInt8).length + (([39, 39] : List UInt8) : List UInt8).length ≤ 9223372036854775807)) <|
          need (decide (((([39] : List UInt8) ++ s13) ++ ([39, 39] : List UInt8) : List UInt8).length + s13.length ≤ 9223372036854775807)) <|
          need (decide ((((([39] : List UInt8) ++ s13) ++ ([39, 39] : List UInt8)) ++ s13 : List UInt8).length + (([39, 32, 120] : List UInt8) : List UInt8).length ≤ 9223372036854775807)) <|
          (R id_singleTake [AV.bytes ((((([39] : List UInt8) ++ s13) ++ ([39, 39] : List UInt8)) ++ s13) ++ ([39, 32, 120] : List UInt8))]).bind fun r4 =>
          asSIBT r4.v fun s15 i7 b6 =>
          bif b5 then
            (bif s14 == s13 then
              (bif (i6 : Int) == (IntKind.i64.wrap (((s13.length : Nat) : Int) + 2)) then
                (bif b6 then
                  (need (decide (s13.length + (([39] : List UInt8) : List UInt8).length ≤ 9223372036854775807)) <|
                  need (decide ((s13 ++ ([39] : List UInt8)).length + s13.length ≤ 9223372036854775807)) <|
                  bif s15 == ((s13 ++ ([39] : List UInt8)) ++ s13) then
                    (bif (i7 : Int) == (IntKind.i64.wrap ((IntKind.i64.wrap (2 * ((s13.length : Nat) : Int))) + 4)) then
                      ((R id_law05Wakes []).bind fun r5 =>
                      asB r5.v fun b7 =>
                      some ⟨AV.bool b7, false, []⟩)
                    else
                      some ⟨AV.bool false, false, []⟩)
                  else
                    some ⟨AV.bool false, false, []⟩)
                else
                  some ⟨AV.bool false, false, []⟩)
              else
                some ⟨AV.bool false, false, []⟩)
            else
              some ⟨AV.bool false, false, []⟩)
          else
            some ⟨AV.bool false, false, []⟩)
        N s7 [AV.str ([] : List UInt8), AV.str s7, AV.str (([39] : List UInt8) ++ s7), AV.str ((([39] : List UInt8) ++ s7) ++ ([39, 39] : List UInt8)), AV.str ((([39] : List UInt8) ++ s7) ++ ([10, 39] : List UInt8)), AV.str ((([39, 13] : List UInt8) ++ s7) ++ ([39] : List UInt8)), AV.str ((([34] : List UInt8) ++ s7) ++ ([39] : List UInt8)), AV.str ((([32, 39] : List UInt8) ++ s7) ++ ([39] : List UInt8))] (([AV.str ([] : List UInt8), AV.str s7, AV.str (([39] : List UInt8) ++ s7), AV.str ((([39] : List UInt8) ++ s7) ++ ([39, 39] : List UInt8)), AV.str ((([39] : List UInt8) ++ s7) ++ ([10, 39] : List UInt8)), AV.str ((([39, 13] : List UInt8) ++ s7) ++ ([39] : List UInt8)), AV.str ((([34] : List UInt8) ++ s7) ++ ([39] : List UInt8)), AV.str ((([32, 39] : List UInt8) ++ s7) ++ ([39] : List UInt8))].length : Nat) : Int) 0)
    N ([] : List UInt8) s2 ((s2.length : Nat) : Int) 0
theorem law05SingleForms_eq (R : Nat → List AV → Option Res) (N : Nat) (s1 : List UInt8) : runF gl R N law05SingleForms [AV.str s1] = law05SingleFormsr R N s1 := by
  refine Eq.trans (b :=
      (R id_keepText [AV.str s1, AV.int .i64 20]).bind fun r1 =>
      asS r1.v fun s2 =>
      rounds [3, 19, 20, 21] [] (evC gl R N law05SingleForms_c0) (Kblock 0 (Kthen gl R N law05SingleForms_c3 (Kret law05SingleForms.rets []))) N ⟨[(3, .imm (AV.str ([] : List UInt8))), (19, .imm (AV.bytes s2)), (20, .imm (AV.int .i64 ((s2.length : Nat) : Int))), (21, .imm (AV.int .i64 0))], []⟩) (by kernel_rfl) ?_
  simp (config := { maxSteps := 100000000 }) only [law05SingleForms_L1_eq, law05SingleForms_L2_eq]
  refine Eq.trans (b :=
      (R id_keepText [AV.str s1, AV.int .i64 20]).bind fun r1 =>
      asS r1.v fun s2 =>
      law05SingleForms_L1 R N
        (fun s7 =>
          need (decide ((([39] : List UInt8) : List UInt8).length + s7.length ≤ 9223372036854775807)) <|
          need (decide ((([39] : List UInt8) : List UInt8).length + s7.length ≤ 9223372036854775807)) <|
          need (decide ((([39] : List UInt8) ++ s7 : List UInt8).length + (([39, 39] : List UInt8) : List UInt8).length ≤ 9223372036854775807)) <|
          need (decide ((([39] : List UInt8) : List UInt8).length + s7.length ≤ 9223372036854775807)) <|
          need (decide ((([39] : List UInt8) ++ s7 : List UInt8).length + (([10, 39] : List UInt8) : List UInt8).length ≤ 9223372036854775807)) <|
          need (decide ((([39, 13] : List UInt8) : List UInt8).length + s7.length ≤ 9223372036854775807)) <|
          need (decide ((([39, 13] : List UInt8) ++ s7 : List UInt8).length + (([39] : List UInt8) : List UInt8).length ≤ 9223372036854775807)) <|
          need (decide ((([34] : List UInt8) : List UInt8).length + s7.length ≤ 9223372036854775807)) <|
          need (decide ((([34] : List UInt8) ++ s7 : List UInt8).length + (([39] : List UInt8) : List UInt8).length ≤ 9223372036854775807)) <|
          need (decide ((([32, 39] : List UInt8) : List UInt8).length + s7.length ≤ 9223372036854775807)) <|
          need (decide ((([32, 39] : List UInt8) ++ s7 : List UInt8).length + (([39] : List UInt8) : List UInt8).length ≤ 9223372036854775807)) <|
          rounds [3, 59, 60, 61] [] (evC gl R N law05SingleForms_c1) (Kblock 2 (Kthen gl R N law05SingleForms_c2 (Kret law05SingleForms.rets []))) N ⟨[(3, .imm (AV.str s7)), (59, .imm (AV.row 1 [AV.str ([] : List UInt8), AV.str s7, AV.str (([39] : List UInt8) ++ s7), AV.str ((([39] : List UInt8) ++ s7) ++ ([39, 39] : List UInt8)), AV.str ((([39] : List UInt8) ++ s7) ++ ([10, 39] : List UInt8)), AV.str ((([39, 13] : List UInt8) ++ s7) ++ ([39] : List UInt8)), AV.str ((([34] : List UInt8) ++ s7) ++ ([39] : List UInt8)), AV.str ((([32, 39] : List UInt8) ++ s7) ++ ([39] : List UInt8))])), (60, .imm (AV.int .i64 (([AV.str ([] : List UInt8), AV.str s7, AV.str (([39] : List UInt8) ++ s7), AV.str ((([39] : List UInt8) ++ s7) ++ ([39, 39] : List UInt8)), AV.str ((([39] : List UInt8) ++ s7) ++ ([10, 39] : List UInt8)), AV.str ((([39, 13] : List UInt8) ++ s7) ++ ([39] : List UInt8)), AV.str ((([34] : List UInt8) ++ s7) ++ ([39] : List UInt8)), AV.str ((([32, 39] : List UInt8) ++ s7) ++ ([39] : List UInt8))].length : Nat) : Int))), (61, .imm (AV.int .i64 0))], []⟩)
        N ([] : List UInt8) s2 ((s2.length : Nat) : Int) 0) (by kernel_rfl) ?_
  simp (config := { maxSteps := 100000000 }) only [law05SingleForms_L1_eq, law05SingleForms_L2_eq]
  kernel_rfl
theorem law05SingleForms_fit : fitF Tryd.prog law05SingleForms Tryd.f11 = true := by
  kernel_rfl

def ref01TakeSingle_L1s (R : Nat → List AV → Option Res) (N : Nat) (go : List UInt8 → Int → List UInt8 → Option Res) (k0 : List UInt8 → Int → Bool → Option Res) (k1 : Option Res) (s2 : List UInt8) (i1 : Int) (s3 : List UInt8) : Option Res :=
  bif decide ((i1 : Int) < ((s2.length : Nat) : Int)) then
    (need (decide (0 ≤ (i1 : Int))) <|
    (s2[Int.toNat i1]?).bind fun c2 =>
    bif ((c2.toNat : Int) : Int) == 10 then
      (k0 ([] : List UInt8) 0 false)
    else
      need (decide (0 ≤ (i1 : Int))) <|
      (s2[Int.toNat i1]?).bind fun c3 =>
      bif ((c3.toNat : Int) : Int) == 13 then
        (k0 ([] : List UInt8) 0 false)
      else
        need (decide (0 ≤ (i1 : Int))) <|
        (s2[Int.toNat i1]?).bind fun c4 =>
        bif ((c4.toNat : Int) : Int) != 39 then
          (need (decide (0 ≤ (i1 : Int))) <|
          (s2[Int.toNat i1]?).bind fun c5 =>
          need (decide (0 ≤ ((c5.toNat : Int) : Int)) && decide (((c5.toNat : Int) : Int) < 256)) <|
          need (decide (((s3.drop 0).take s3.length).length + ([UInt8.ofNat (Int.toNat (c5.toNat : Int))] : List UInt8).length ≤ 1099511627776)) <|
          go s2 (IntKind.i64.wrap (i1 + 1)) (((s3.drop 0).take s3.length) ++ [UInt8.ofNat (Int.toNat (c5.toNat : Int))]))
        else
          bif decide (((IntKind.i64.wrap (i1 + 1)) : Int) < ((s2.length : Nat) : Int)) then
            (need (decide (0 ≤ (IntKind.i64.wrap (i1 + 1) : Int))) <|
            (s2[Int.toNat (IntKind.i64.wrap (i1 + 1))]?).bind fun c6 =>
            bif ((c6.toNat : Int) : Int) == 39 then
              (need (decide (((s3.drop 0).take s3.length).length + ([39] : List UInt8).length ≤ 1099511627776)) <|
              go s2 (IntKind.i64.wrap ((IntKind.i64.wrap (i1 + 1)) + 1)) (((s3.drop 0).take s3.length) ++ [39]))
            else
              k0 ((s3.drop 0).take s3.length) (IntKind.i64.wrap (i1 + 1)) true)
          else
            k0 ((s3.drop 0).take s3.length) (IntKind.i64.wrap (i1 + 1)) true)
  else
    k1
def ref01TakeSingle_L1 (R : Nat → List AV → Option Res) (N : Nat) (k0 : List UInt8 → Int → Bool → Option Res) (k1 : Option Res) : Nat → List UInt8 → Int → List UInt8 → Option Res
  | 0, _, _, _ => none
  | n + 1, s2, i1, s3 => ref01TakeSingle_L1s R N (ref01TakeSingle_L1 R N k0 k1 n) k0 k1 s2 i1 s3
def ref01TakeSingle_c0 : AC := .seq (.seq (.region [.op (some 16) none (.mv (.t 6)), .op (some 17) none (.mv (.t 0)), .op (some 18) none (.len (.t 17) false), .op (some 19) none (.bin .lss (.t 16) (.t 18))]) (.cond (.t 19) (.skip) (.exit 0 [] []))) (.seq (.block 1 (.block 2 (.seq (.region [.op (some 27) none (.mv (.t 0)), .op (some 28) none (.mv (.t 6)), .op (some 29) none (.iaddr (.t 27) (.t 28) 1 (.int .u8)), .op (some 30) none (.load (.t 29) none (.int .u8)), .op (some 31) none (.bin .eql (.t 30) (.k (AV.int .u8 10))), .op (some 32) none (.mv (.t 31)), .split 32, .op (some 33) (some (32, false)) (.mv (.t 0)), .op (some 34) (some (32, false)) (.mv (.t 6)), .op (some 35) (some (32, false)) (.iaddr (.t 33) (.t 34) 1 (.int .u8)), .op (some 36) (some (32, false)) (.load (.t 35) none (.int .u8)), .op (some 37) (some (32, false)) (.bin .eql (.t 36) (.k (AV.int .u8 13))), .op (some 38) none (.pick (.t 32) (.k (AV.bool true)) (.t 37)), .op (some 26) none (.mv (.t 38))]) (.cond (.t 26) (.seq (.region [.op (some 2) none (.mv (.k (AV.str ([] : List UInt8)))), .op (some 3) none (.mv (.k (AV.int .i64 0))), .op (some 4) none (.mv (.k (AV.bool false)))]) (.ret [2, 3, 4] [])) (.seq (.region [.op (some 40) none (.mv (.t 0)), .op (some 41) none (.mv (.t 6)), .op (some 42) none (.iaddr (.t 40) (.t 41) 1 (.int .u8)), .op (some 43) none (.load (.t 42) none (.int .u8)), .op (some 44) none (.bin .neq (.t 43) (.k (AV.int .u8 39))), .op (some 39) none (.mv (.t 44))]) (.cond (.t 39) (.region [.op (some 45) none (.mv (.t 5)), .op (some 46) none (.mv (.t 0)), .op (some 47) none (.mv (.t 6)), .op (some 48) none (.iaddr (.t 46) (.t 47) 1 (.int .u8)), .op (some 49) none (.load (.t 48) none (.int .u8)), .op (some 50) none (.bslice [.t 49] 1 true), .op (some 51) none (.app 5 (.t 45) (.t 50) 1 .any true), .op (some 5) none (.mv (.t 51))]) (.seq (.region [.op (some 53) none (.mv (.t 6)), .op (some 54) none (.bin .add (.t 53) (.k (AV.int .i64 1))), .op (some 55) none (.mv (.t 0)), .op (some 56) none (.len (.t 55) false), .op (some 57) none (.bin .lss (.t 54) (.t 56)), .op (some 58) none (.mv (.t 57)), .split 58, .op (some 59) (some (58, true)) (.mv (.t 0)), .op (some 60) (some (58, true)) (.mv (.t 6)), .op (some 61) (some (58, true)) (.bin .add (.t 60) (.k (AV.int .i64 1))), .op (some 62) (some (58, true)) (.iaddr (.t 59) (.t 61) 1 (.int .u8)), .op (some 63) (some (58, true)) (.load (.t 62) none (.int .u8)), .op (some 64) (some (58, true)) (.bin .eql (.t 63) (.k (AV.int .u8 39))), .op (some 65) none (.pick (.t 58) (.t 64) (.k (AV.bool false))), .op (some 52) none (.mv (.t 65))]) (.cond (.t 52) (.seq (.region [.op (some 66) none (.mv (.t 5)), .op (some 67) none (.bslice [.k (AV.int .u8 39)] 1 true), .op (some 68) none (.app 5 (.t 66) (.t 67) 1 .any true), .op (some 5) none (.mv (.t 68))]) (.region [.op (some 69) none (.mv (.t 6)), .op (some 70) none (.bin .add (.t 69) (.k (AV.int .i64 1))), .op (some 6) none (.mv (.t 70))])) (.seq (.region [.op (some 22) none (.mv (.t 5)), .op (some 23) none (.cvStr (.t 22)), .op (some 24) none (.mv (.t 6)), .op (some 25) none (.bin .add (.t 24) (.k (AV.int .i64 1))), .op (some 2) none (.mv (.t 23)), .op (some 3) none (.mv (.t 25)), .op (some 4) none (.mv (.k (AV.bool true)))]) (.ret [2, 3, 4] [])))))))))) (.region [.op (some 20) none (.mv (.t 6)), .op (some 21) none (.bin .add (.t 20) (.k (AV.int .i64 1))), .op (some 6) none (.mv (.t 21))]))
theorem ref01TakeSingle_L1s_eq (R : Nat → List AV → Option Res) (N : Nat) (K : Ex → St → Option Res) (W : St → Option Res) (s2 : List UInt8) (i1 : Int) (s3 : List UInt8) :
    evC gl R N ref01TakeSingle_c0 (Kseq (fun st' => W (prune [0, 5, 6] [5] st')) K) ⟨[(0, .imm (AV.bytes s2)), (5, .own 5 0 s3.length none), (6, .imm (AV.int .i64 i1))], [(5, .bytes s3 false)]⟩ =
    ref01TakeSingle_L1s R N (fun (s2 : List UInt8) (i1 : Int) (s3 : List UInt8) => W ⟨[(0, .imm (AV.bytes s2)), (5, .own 5 0 s3.length none), (6, .imm (AV.int .i64 i1))], [(5, .bytes s3 false)]⟩) (fun (s4 : List UInt8) (i2 : Int) (b1 : Bool) => K .ret ⟨[(2, .imm (AV.str s4)), (3, .imm (AV.int .i64 i2)), (4, .imm (AV.bool b1))], []⟩) (K (.exit 0) ⟨[], []⟩) s2 i1 s3 := by
  kernel_rfl
theorem ref01TakeSingle_L1_eq (R : Nat → List AV → Option Res) (N : Nat) (K : Ex → St → Option Res) : ∀ (n : Nat) (s2 : List UInt8) (i1 : Int) (s3 : List UInt8),
    rounds [0, 5, 6] [5] (evC gl R N ref01TakeSingle_c0) K n ⟨[(0, .imm (AV.bytes s2)), (5, .own 5 0 s3.length none), (6, .imm (AV.int .i64 i1))], [(5, .bytes s3 false)]⟩ = ref01TakeSingle_L1 R N (fun (s4 : List UInt8) (i2 : Int) (b1 : Bool) => K .ret ⟨[(2, .imm (AV.str s4)), (3, .imm (AV.int .i64 i2)), (4, .imm (AV.bool b1))], []⟩) (K (.exit 0) ⟨[], []⟩) n s2 i1 s3
  | 0, _, _, _ => rfl
  | n + 1, s2, i1, s3 => (ref01TakeSingle_L1s_eq R N K (rounds [0, 5, 6] [5] (evC gl R N ref01TakeSingle_c0) K n) s2 i1 s3).trans
      (congrArg (fun go => ref01TakeSingle_L1s R N go (fun (s4 : List UInt8) (i2 : Int) (b1 : Bool) => K .ret ⟨[(2, .imm (AV.str s4)), (3, .imm (AV.int .i64 i2)), (4, .imm (AV.bool b1))], []⟩) (K (.exit 0) ⟨[], []⟩) s2 i1 s3) (funext fun s2 => funext fun i1 => funext fun s3 => ref01TakeSingle_L1_eq R N K n s2 i1 s3))
def ref01TakeSingle_c1 : AC := .seq (.region [.op (some 2) none (.mv (.k (AV.str ([] : List UInt8)))), .op (some 3) none (.mv (.k (AV.int .i64 0))), .op (some 4) none (.mv (.k (AV.bool false)))]) (.ret [2, 3, 4] [])
def ref01TakeSingle_c2 : AC := .seq (.region [.op (some 2) none (.mv (.k (AV.str ([] : List UInt8)))), .op (some 3) none (.mv (.k (AV.int .i64 0))), .op (some 4) none (.mv (.k (AV.bool false)))]) (.seq (.seq (.region [.op (some 7) none (.mv (.t 0)), .op (some 8) none (.len (.t 7) false), .op (some 9) none (.bin .eql (.t 8) (.k (AV.int .i64 0))), .op (some 10) none (.mv (.t 9)), .split 10, .op (some 11) (some (10, false)) (.mv (.t 0)), .op (some 12) (some (10, false)) (.iaddr (.t 11) (.k (AV.int .i64 0)) 1 (.int .u8)), .op (some 13) (some (10, false)) (.load (.t 12) none (.int .u8)), .op (some 14) (some (10, false)) (.bin .neq (.t 13) (.k (AV.int .u8 39))), .op (some 15) none (.pick (.t 10) (.k (AV.bool true)) (.t 14))]) (.cond (.t 15) (.seq (.region [.op (some 2) none (.mv (.k (AV.str ([] : List UInt8)))), .op (some 3) none (.mv (.k (AV.int .i64 0))), .op (some 4) none (.mv (.k (AV.bool false)))]) (.ret [2, 3, 4] [])) (.skip))) (.seq (.region [.op (some 5) none (.nilOwn 5 none)]) (.seq (.seq (.region [.op (some 6) none (.mv (.k (AV.int .i64 1)))]) (.block 0 (.loop [0, 5, 6] [5] (ref01TakeSingle_c0)))) (ref01TakeSingle_c1))))
def ref01TakeSingle : AFunc := ⟨1, 71, [.tmp 2, .tmp 3, .tmp 4], ref01TakeSingle_c2⟩
def ref01TakeSingler (R : Nat → List AV → Option Res) (N : Nat) (s1 : List UInt8) : Option Res :=
  bif (((s1.length : Nat) : Int) : Int) == 0 then
    (some ⟨AV.tup [AV.str ([] : List UInt8), AV.int .i64 0, AV.bool false], false, []⟩)
  else
    need (decide (0 ≤ (0 : Int))) <|
    (s1[Int.toNat 0]?).bind fun c1 =>
    bif ((c1.toNat : Int) : Int) != 39 then
      (some ⟨AV.tup [AV.str ([] : List UInt8), AV.int .i64 0, AV.bool false], false, []⟩)
    else
      ref01TakeSingle_L1 R N
        (fun s6 i4 b3 =>
          some ⟨AV.tup [AV.str s6, AV.int .i64 i4, AV.bool b3], false, []⟩)
        (
          some ⟨AV.tup [AV.str ([] : List UInt8), AV.int .i64 0, AV.bool false], false, []⟩)
        N s1 1 []
theorem ref01TakeSingle_eq (R : Nat → List AV → Option Res) (N : Nat) (s1 : List UInt8) : runF gl R N ref01TakeSingle [AV.bytes s1] = ref01TakeSingler R N s1 := by
  refine Eq.trans (b :=
      bif (((s1.length : Nat) : Int) : Int) == 0 then
        (some ⟨AV.tup [AV.str ([] : List UInt8), AV.int .i64 0, AV.bool false], false, []⟩)
      else
        need (decide (0 ≤ (0 : Int))) <|
        (s1[Int.toNat 0]?).bind fun c1 =>
        bif ((c1.toNat : Int) : Int) != 39 then
          (some ⟨AV.tup [AV.str ([] : List UInt8), AV.int .i64 0, AV.bool false], false, []⟩)
        else
          rounds [0, 5, 6] [5] (evC gl R N ref01TakeSingle_c0) (Kblock 0 (Kthen gl R N ref01TakeSingle_c1 (Kret ref01TakeSingle.rets []))) N ⟨[(0, .imm (AV.bytes s1)), (5, .own 5 0 (([] : List UInt8).length) none), (6, .imm (AV.int .i64 1))], [(5, .bytes [] false)]⟩) (by kernel_rfl) ?_
  simp (config := { maxSteps := 100000000 }) only [ref01TakeSingle_L1_eq]
  kernel_rfl
theorem ref01TakeSingle_fit : fitF Tryd.prog ref01TakeSingle Tryd.f30 = true := by
  kernel_rfl

def ref01Clean_L1s (R : Nat → List AV → Option Res) (N : Nat) (go : Bool → List UInt8 → Option Res) (k0 : Bool → Option Res) (k1 : Option Res) (b2 : Bool) (s2 : List UInt8) : Option Res :=
  bif decide ((((s2.length : Nat) : Int) : Int) > 0) then
    ((R id_ref01Rune [AV.bytes s2]).bind fun r1 =>
    asJIBT r1.v fun i1 i2 b3 =>
    bif !b3 then
      (k0 false)
    else
      (R id_ref01Printable [AV.int .i32 i1]).bind fun r2 =>
      asB r2.v fun b4 =>
      bif !b4 then
        (k0 false)
      else
        bif (i1 : Int) == 10 then
          (k0 false)
        else
          bif (i1 : Int) == 13 then
            (k0 false)
          else
            bif (i1 : Int) == 9 then
              (bif !b2 then
                (k0 false)
              else
                need (decide (0 ≤ (i2 : Int)) && decide ((i2 : Int) ≤ ((s2.length : Nat) : Int))) <|
                go b2 ((s2.take s2.length).drop (Int.toNat i2)))
            else
              need (decide (0 ≤ (i2 : Int)) && decide ((i2 : Int) ≤ ((s2.length : Nat) : Int))) <|
              go b2 ((s2.take s2.length).drop (Int.toNat i2)))
  else
    k1
def ref01Clean_L1 (R : Nat → List AV → Option Res) (N : Nat) (k0 : Bool → Option Res) (k1 : Option Res) : Nat → Bool → List UInt8 → Option Res
  | 0, _, _ => none
  | n + 1, b2, s2 => ref01Clean_L1s R N (ref01Clean_L1 R N k0 k1 n) k0 k1 b2 s2
def ref01Clean_c0 : AC := .seq (.seq (.region [.op (some 11) none (.mv (.t 5)), .op (some 12) none (.len (.t 11) false), .op (some 13) none (.bin .gtr (.t 12) (.k (AV.int .i64 0)))]) (.cond (.t 13) (.skip) (.exit 0 [] []))) (.block 1 (.seq (.region [.op (some 15) none (.mv (.t 5)), .op (some 16) none (.call id_ref01Rune [.t 15] (.tup [.int .i32, .int .i64, .bool])), .op (some 14) none (.mv (.t 16)), .op (some 17) none (.extract (.t 14) 0), .op (some 18) none (.extract (.t 14) 1), .op (some 19) none (.extract (.t 14) 2), .op (some 6) none (.mv (.t 17)), .op (some 7) none (.mv (.t 18)), .op (some 8) none (.mv (.t 19))]) (.seq (.seq (.region [.op (some 20) none (.mv (.t 8)), .op (some 21) none (.un .not (.t 20)), .op (some 22) none (.mv (.t 21)), .split 22, .op (some 23) (some (22, false)) (.mv (.t 6)), .op (some 24) (some (22, false)) (.call id_ref01Printable [.t 23] (.bool)), .op (some 25) (some (22, false)) (.un .not (.t 24)), .op (some 26) none (.pick (.t 22) (.k (AV.bool true)) (.t 25)), .op (some 27) none (.mv (.t 26)), .split 27, .op (some 28) (some (27, false)) (.mv (.t 6)), .op (some 29) (some (27, false)) (.bin .eql (.t 28) (.k (AV.int .i32 10))), .op (some 30) none (.pick (.t 27) (.k (AV.bool true)) (.t 29)), .op (some 31) none (.mv (.t 30)), .split 31, .op (some 32) (some (31, false)) (.mv (.t 6)), .op (some 33) (some (31, false)) (.bin .eql (.t 32) (.k (AV.int .i32 13))), .op (some 34) none (.pick (.t 31) (.k (AV.bool true)) (.t 33)), .op (some 35) none (.mv (.t 34)), .split 35, .op (some 36) (some (35, false)) (.mv (.t 6)), .op (some 37) (some (35, false)) (.bin .eql (.t 36) (.k (AV.int .i32 9))), .op (some 38) (some (35, false)) (.mv (.t 37)), .split 38, .op (some 39) (some (38, true)) (.mv (.t 1)), .op (some 40) (some (38, true)) (.un .not (.t 39)), .op (some 41) (some (35, false)) (.pick (.t 38) (.t 40) (.k (AV.bool false))), .op (some 42) none (.pick (.t 35) (.k (AV.bool true)) (.t 41))]) (.cond (.t 42) (.seq (.region [.op (some 4) none (.mv (.k (AV.bool false)))]) (.ret [4] [])) (.skip))) (.region [.op (some 43) none (.mv (.t 5)), .op (some 44) none (.mv (.t 7)), .op (some 45) none (.slice (.t 43) (some (.t 44)) none 1), .op (some 5) none (.mv (.t 45))]))))
theorem ref01Clean_L1s_eq (R : Nat → List AV → Option Res) (N : Nat) (K : Ex → St → Option Res) (W : St → Option Res) (b2 : Bool) (s2 : List UInt8) :
    evC gl R N ref01Clean_c0 (Kseq (fun st' => W (prune [1, 5] [] st')) K) ⟨[(1, .imm (AV.bool b2)), (5, .imm (AV.bytes s2))], []⟩ =
    ref01Clean_L1s R N (fun (b2 : Bool) (s2 : List UInt8) => W ⟨[(1, .imm (AV.bool b2)), (5, .imm (AV.bytes s2))], []⟩) (fun (b5 : Bool) => K .ret ⟨[(4, .imm (AV.bool b5))], []⟩) (K (.exit 0) ⟨[], []⟩) b2 s2 := by
  kernel_rfl
theorem ref01Clean_L1_eq (R : Nat → List AV → Option Res) (N : Nat) (K : Ex → St → Option Res) : ∀ (n : Nat) (b2 : Bool) (s2 : List UInt8),
    rounds [1, 5] [] (evC gl R N ref01Clean_c0) K n ⟨[(1, .imm (AV.bool b2)), (5, .imm (AV.bytes s2))], []⟩ = ref01Clean_L1 R N (fun (b5 : Bool) => K .ret ⟨[(4, .imm (AV.bool b5))], []⟩) (K (.exit 0) ⟨[], []⟩) n b2 s2
  | 0, _, _ => rfl
  | n + 1, b2, s2 => (ref01Clean_L1s_eq R N K (rounds [1, 5] [] (evC gl R N ref01Clean_c0) K n) b2 s2).trans
      (congrArg (fun go => ref01Clean_L1s R N go (fun (b5 : Bool) => K .ret ⟨[(4, .imm (AV.bool b5))], []⟩) (K (.exit 0) ⟨[], []⟩) b2 s2) (funext fun b2 => funext fun s2 => ref01Clean_L1_eq R N K n b2 s2))
def ref01Clean_c1 : AC := .seq (.region [.op (some 4) none (.mv (.k (AV.bool true)))]) (.ret [4] [])
def ref01Clean_c2 : AC := .seq (.region [.op (some 4) none (.mv (.k (AV.bool false)))]) (.seq (.region [.op (some 9) none (.mv (.t 0)), .op (some 10) none (.cvBytes (.t 9)), .op (some 5) none (.mv (.t 10))]) (.seq (.block 0 (.loop [1, 5] [] (ref01Clean_c0))) (ref01Clean_c1)))
def ref01Clean : AFunc := ⟨2, 46, [.tmp 4], ref01Clean_c2⟩
def ref01Cleanr (R : Nat → List AV → Option Res) (N : Nat) (s1 : List UInt8) (b1 : Bool) : Option Res :=
  ref01Clean_L1 R N
    (fun b7 =>
      some ⟨AV.bool b7, false, []⟩)
    (
      some ⟨AV.bool true, false, []⟩)
    N b1 s1
theorem ref01Clean_eq (R : Nat → List AV → Option Res) (N : Nat) (s1 : List UInt8) (b1 : Bool) : runF gl R N ref01Clean [AV.str s1, AV.bool b1] = ref01Cleanr R N s1 b1 := by
  refine Eq.trans (b :=
      rounds [1, 5] [] (evC gl R N ref01Clean_c0) (Kblock 0 (Kthen gl R N ref01Clean_c1 (Kret ref01Clean.rets []))) N ⟨[(1, .imm (AV.bool b1)), (5, .imm (AV.bytes s1))], []⟩) (by kernel_rfl) ?_
  simp (config := { maxSteps := 100000000 }) only [ref01Clean_L1_eq]
  kernel_rfl
theorem ref01Clean_fit : fitF Tryd.prog ref01Clean Tryd.f48 = true := by
  kernel_rfl

def ref01PutSingle_L1s (R : Nat → List AV → Option Res) (N : Nat) (go : List UInt8 → Int → List UInt8 → Option Res) (k0 : List UInt8 → Option Res) (s2 : List UInt8) (i1 : Int) (s3 : List UInt8) : Option Res :=
  bif decide ((i1 : Int) < ((s2.length : Nat) : Int)) then
    (need (decide (0 ≤ (i1 : Int))) <|
    (s2[Int.toNat i1]?).bind fun c1 =>
    bif ((c1.toNat : Int) : Int) == 39 then
      (need (decide (((s3.drop 0).take s3.length).length + ([39] : List UInt8).length ≤ 1099511627776)) <|
      need (decide (0 ≤ (i1 : Int))) <|
      (s2[Int.toNat i1]?).bind fun c2 =>
      need (decide (0 ≤ ((c2.toNat : Int) : Int)) && decide (((c2.toNat : Int) : Int) < 256)) <|
      need (decide ((((((s3.drop 0).take s3.length) ++ [39]).drop 0).take ((((s3.drop 0).take s3.length) ++ [39]).length)).length + ([UInt8.ofNat (Int.toNat (c2.toNat : Int))] : List UInt8).length ≤ 1099511627776)) <|
      go s2 (IntKind.i64.wrap (i1 + 1)) ((((((s3.drop 0).take s3.length) ++ [39]).drop 0).take ((((s3.drop 0).take s3.length) ++ [39]).length)) ++ [UInt8.ofNat (Int.toNat (c2.toNat : Int))]))
    else
      need (decide (0 ≤ (i1 : Int))) <|
      (s2[Int.toNat i1]?).bind fun c3 =>
      need (decide (0 ≤ ((c3.toNat : Int) : Int)) && decide (((c3.toNat : Int) : Int) < 256)) <|
      need (decide (((s3.drop 0).take s3.length).length + ([UInt8.ofNat (Int.toNat (c3.toNat : Int))] : List UInt8).length ≤ 1099511627776)) <|
      go s2 (IntKind.i64.wrap (i1 + 1)) (((s3.drop 0).take s3.length) ++ [UInt8.ofNat (Int.toNat (c3.toNat : Int))]))
  else
    k0 s3
def ref01PutSingle_L1 (R : Nat → List AV → Option Res) (N : Nat) (k0 : List UInt8 → Option Res) : Nat → List UInt8 → Int → List UInt8 → Option Res
  | 0, _, _, _ => none
  | n + 1, s2, i1, s3 => ref01PutSingle_L1s R N (ref01PutSingle_L1 R N k0 n) k0 s2 i1 s3
def ref01PutSingle_c0 : AC := .seq (.seq (.region [.op (some 10) none (.mv (.t 5)), .op (some 11) none (.mv (.t 0)), .op (some 12) none (.len (.t 11) true), .op (some 13) none (.bin .lss (.t 10) (.t 12))]) (.cond (.t 13) (.skip) (.exit 0 [4] [9]))) (.seq (.block 1 (.seq (.seq (.region [.op (some 16) none (.mv (.t 0)), .op (some 17) none (.mv (.t 5)), .op (some 18) none (.index (.t 16) (.t 17)), .op (some 19) none (.bin .eql (.t 18) (.k (AV.int .u8 39)))]) (.cond (.t 19) (.region [.op (some 20) none (.mv (.t 4)), .op (some 21) none (.bslice [.k (AV.int .u8 39)] 1 true), .op (some 22) none (.app 9 (.t 20) (.t 21) 1 .any true), .op (some 4) none (.mv (.t 22))]) (.skip))) (.region [.op (some 23) none (.mv (.t 4)), .op (some 24) none (.mv (.t 0)), .op (some 25) none (.mv (.t 5)), .op (some 26) none (.index (.t 24) (.t 25)), .op (some 27) none (.bslice [.t 26] 1 true), .op (some 28) none (.app 9 (.t 23) (.t 27) 1 .any true), .op (some 4) none (.mv (.t 28))]))) (.region [.op (some 14) none (.mv (.t 5)), .op (some 15) none (.bin .add (.t 14) (.k (AV.int .i64 1))), .op (some 5) none (.mv (.t 15))]))
theorem ref01PutSingle_L1s_eq (R : Nat → List AV → Option Res) (N : Nat) (K : Ex → St → Option Res) (W : St → Option Res) (s2 : List UInt8) (i1 : Int) (s3 : List UInt8) :
    evC gl R N ref01PutSingle_c0 (Kseq (fun st' => W (prune [0, 4, 5] [9] st')) K) ⟨[(0, .imm (AV.str s2)), (4, .own 9 0 s3.length none), (5, .imm (AV.int .i64 i1))], [(9, .bytes s3 false)]⟩ =
    ref01PutSingle_L1s R N (fun (s2 : List UInt8) (i1 : Int) (s3 : List UInt8) => W ⟨[(0, .imm (AV.str s2)), (4, .own 9 0 s3.length none), (5, .imm (AV.int .i64 i1))], [(9, .bytes s3 false)]⟩) (fun (s4 : List UInt8) => K (.exit 0) ⟨[(4, .own 9 0 s4.length none)], [(9, .bytes s4 false)]⟩) s2 i1 s3 := by
  kernel_rfl
theorem ref01PutSingle_L1_eq (R : Nat → List AV → Option Res) (N : Nat) (K : Ex → St → Option Res) : ∀ (n : Nat) (s2 : List UInt8) (i1 : Int) (s3 : List UInt8),
    rounds [0, 4, 5] [9] (evC gl R N ref01PutSingle_c0) K n ⟨[(0, .imm (AV.str s2)), (4, .own 9 0 s3.length none), (5, .imm (AV.int .i64 i1))], [(9, .bytes s3 false)]⟩ = ref01PutSingle_L1 R N (fun (s4 : List UInt8) => K (.exit 0) ⟨[(4, .own 9 0 s4.length none)], [(9, .bytes s4 false)]⟩) n s2 i1 s3
  | 0, _, _, _ => rfl
  | n + 1, s2, i1, s3 => (ref01PutSingle_L1s_eq R N K (rounds [0, 4, 5] [9] (evC gl R N ref01PutSingle_c0) K n) s2 i1 s3).trans
      (congrArg (fun go => ref01PutSingle_L1s R N go (fun (s4 : List UInt8) => K (.exit 0) ⟨[(4, .own 9 0 s4.length none)], [(9, .bytes s4 false)]⟩) s2 i1 s3) (funext fun s2 => funext fun i1 => funext fun s3 => ref01PutSingle_L1_eq R N K n s2 i1 s3))
def ref01PutSingle_c1 : AC := .seq (.region [.op (some 29) none (.mv (.t 4)), .op (some 30) none (.bslice [.k (AV.int .u8 39)] 1 true), .op (some 31) none (.app 9 (.t 29) (.t 30) 1 .any true), .op (some 32) none (.cvStr (.t 31)), .op (some 2) none (.mv (.t 32)), .op (some 3) none (.mv (.k (AV.bool true)))]) (.ret [2, 3] [])
def ref01PutSingle_c2 : AC := .seq (.region [.op (some 2) none (.mv (.k (AV.str ([] : List UInt8)))), .op (some 3) none (.mv (.k (AV.bool false)))]) (.seq (.seq (.region [.op (some 6) none (.mv (.t 0)), .op (some 7) none (.call id_ref01Clean [.t 6, .k (AV.bool true)] (.bool)), .op (some 8) none (.un .not (.t 7))]) (.cond (.t 8) (.seq (.region [.op (some 2) none (.mv (.k (AV.str ([] : List UInt8)))), .op (some 3) none (.mv (.k (AV.bool false)))]) (.ret [2, 3] [])) (.skip))) (.seq (.region [.op (some 9) none (.bsliceOwn 9 [.k (AV.int .u8 39)] 1 .any true), .op (some 4) none (.mv (.t 9))]) (.seq (.seq (.region [.op (some 5) none (.mv (.k (AV.int .i64 0)))]) (.block 0 (.loop [0, 4, 5] [9] (ref01PutSingle_c0)))) (ref01PutSingle_c1))))
def ref01PutSingle : AFunc := ⟨1, 33, [.tmp 2, .tmp 3], ref01PutSingle_c2⟩
def ref01PutSingler (R : Nat → List AV → Option Res) (N : Nat) (s1 : List UInt8) : Option Res :=
  (R id_ref01Clean [AV.str s1, AV.bool true]).bind fun r1 =>
  asB r1.v fun b1 =>
  bif !b1 then
    (some ⟨AV.tup [AV.str ([] : List UInt8), AV.bool false], false, []⟩)
  else
    ref01PutSingle_L1 R N
      (fun s6 =>
        need (decide (((s6.drop 0).take s6.length).length + ([39] : List UInt8).length ≤ 1099511627776)) <|
        some ⟨AV.tup [AV.str (((((s6.drop 0).take s6.length) ++ [39]).drop 0).take ((((s6.drop 0).take s6.length) ++ [39]).length)), AV.bool true], false, []⟩)
      N s1 0 [39]
theorem ref01PutSingle_eq (R : Nat → List AV → Option Res) (N : Nat) (s1 : List UInt8) : runF gl R N ref01PutSingle [AV.str s1] = ref01PutSingler R N s1 := by
  refine Eq.trans (b :=
      (R id_ref01Clean [AV.str s1, AV.bool true]).bind fun r1 =>
      asB r1.v fun b1 =>
      bif !b1 then
        (some ⟨AV.tup [AV.str ([] : List UInt8), AV.bool false], false, []⟩)
      else
        rounds [0, 4, 5] [9] (evC gl R N ref01PutSingle_c0) (Kblock 0 (Kthen gl R N ref01PutSingle_c1 (Kret ref01PutSingle.rets []))) N ⟨[(0, .imm (AV.str s1)), (4, .own 9 0 (([39] : List UInt8).length) none), (5, .imm (AV.int .i64 0))], [(9, .bytes [39] false)]⟩) (by kernel_rfl) ?_
  simp (config := { maxSteps := 100000000 }) only [ref01PutSingle_L1_eq]
  kernel_rfl
theorem ref01PutSingle_fit : fitF Tryd.prog ref01PutSingle Tryd.f31 = true := by
  kernel_rfl

def law05SingleTells_c0 : AC := .seq (.region [.op (some 4) none (.mv (.k (AV.bool false)))]) (.seq (.region [.op (some 17) none (.mv (.t 0)), .op (some 18) none (.call id_keepText [.t 17, .k (AV.int .i64 80)] (.str)), .op (some 0) none (.mv (.t 18))]) (.seq (.seq (.region [.op (some 19) none (.mv (.t 1))]) (.cond (.t 19) (.region [.op (some 20) none (.mv (.t 0)), .op (some 21) none (.bin .add (.k (AV.str ([39] : List UInt8))) (.t 20)), .op (some 0) none (.mv (.t 21))]) (.skip))) (.seq (.region [.op (some 22) none (.mv (.t 0)), .op (some 23) none (.cvBytes (.t 22)), .op (some 5) none (.mv (.t 23))]) (.seq (.region [.op (some 24) none (.mv (.t 5)), .op (some 25) none (.call id_keepLend [.t 24] (.lent)), .op (some 6) none (.mv (.t 25))]) (.seq (.region [.op (some 27) none (.weak (.t 6)), .op (some 28) none (.call id_singleTake [.t 27] (.tup [.str, .int .i64, .bool])), .op (some 26) none (.mv (.t 28)), .op (some 29) none (.extract (.t 26) 0), .op (some 30) none (.extract (.t 26) 1), .op (some 31) none (.extract (.t 26) 2), .op (some 7) none (.mv (.t 29)), .op (some 8) none (.mv (.t 30)), .op (some 9) none (.mv (.t 31))]) (.seq (.region [.op (some 33) none (.mv (.t 5)), .op (some 34) none (.call id_ref01TakeSingle [.t 33] (.tup [.str, .int .i64, .bool])), .op (some 32) none (.mv (.t 34)), .op (some 35) none (.extract (.t 32) 0), .op (some 36) none (.extract (.t 32) 1), .op (some 37) none (.extract (.t 32) 2), .op (some 10) none (.mv (.t 35)), .op (some 11) none (.mv (.t 36)), .op (some 12) none (.mv (.t 37))]) (.seq (.region [.op (some 39) none (.mv (.t 0)), .op (some 40) none (.call id_singlePut [.t 39] (.tup [.str, .bool])), .op (some 38) none (.mv (.t 40)), .op (some 41) none (.extract (.t 38) 0), .op (some 42) none (.extract (.t 38) 1), .op (some 13) none (.mv (.t 41)), .op (some 14) none (.mv (.t 42))]) (.seq (.region [.op (some 44) none (.mv (.t 0)), .op (some 45) none (.call id_ref01PutSingle [.t 44] (.tup [.str, .bool])), .op (some 43) none (.mv (.t 45)), .op (some 46) none (.extract (.t 43) 0), .op (some 47) none (.extract (.t 43) 1), .op (some 15) none (.mv (.t 46)), .op (some 16) none (.mv (.t 47))]) (.seq (.region [.op (some 48) none (.mv (.t 7)), .op (some 49) none (.mv (.t 10)), .op (some 50) none (.bin .eql (.t 48) (.t 49)), .op (some 51) none (.mv (.t 50)), .split 51, .op (some 52) (some (51, true)) (.mv (.t 8)), .op (some 53) (some (51, true)) (.mv (.t 11)), .op (some 54) (some (51, true)) (.bin .eql (.t 52) (.t 53)), .op (some 55) none (.pick (.t 51) (.t 54) (.k (AV.bool false))), .op (some 56) none (.mv (.t 55)), .split 56, .op (some 57) (some (56, true)) (.mv (.t 9)), .op (some 58) (some (56, true)) (.mv (.t 12)), .op (some 59) (some (56, true)) (.binB .eql (.t 57) (.t 58)), .op (some 60) none (.pick (.t 56) (.t 59) (.k (AV.bool false))), .op (some 61) none (.mv (.t 60)), .split 61, .op (some 62) (some (61, true)) (.mv (.t 13)), .op (some 63) (some (61, true)) (.mv (.t 15)), .op (some 64) (some (61, true)) (.bin .eql (.t 62) (.t 63)), .op (some 65) none (.pick (.t 61) (.t 64) (.k (AV.bool false))), .op (some 66) none (.mv (.t 65)), .split 66, .op (some 67) (some (66, true)) (.mv (.t 14)), .op (some 68) (some (66, true)) (.mv (.t 16)), .op (some 69) (some (66, true)) (.binB .eql (.t 67) (.t 68)), .op (some 70) none (.pick (.t 66) (.t 69) (.k (AV.bool false))), .op (some 71) none (.mv (.t 70)), .split 71, .op (some 72) (some (71, true)) (.mv (.t 6)), .op (some 73) (some (71, true)) (.mv (.t 5)), .op (some 74) (some (71, true)) (.call id_keepIntact [.t 72, .t 73] (.bool)), .op (some 75) none (.pick (.t 71) (.t 74) (.k (AV.bool false))), .op (some 76) none (.mv (.t 75)), .split 76, .op (some 77) (some (76, true)) (.call id_law05Wakes [] (.bool)), .op (some 78) none (.pick (.t 76) (.t 77) (.k (AV.bool false))), .op (some 4) none (.mv (.t 78))]) (.ret [4] []))))))))))
def law05SingleTells : AFunc := ⟨2, 79, [.tmp 4], law05SingleTells_c0⟩
def law05SingleTellsr (R : Nat → List AV → Option Res) (N : Nat) (s1 : List UInt8) (b1 : Bool) : Option Res :=
  (R id_keepText [AV.str s1, AV.int .i64 80]).bind fun r1 =>
  asS r1.v fun s2 =>
  bif b1 then
    (need (decide ((([39] : List UInt8) : List UInt8).length + s2.length ≤ 9223372036854775807)) <|
    (R id_keepLend [AV.bytes (([39] : List UInt8) ++ s2)]).bind fun r2 =>
    asL r2.v fun s3 =>
    (R id_singleTake [AV.bytes s3]).bind fun r3 =>
    asSIBT r3.v fun s4 i1 b2 =>
    (R id_ref01TakeSingle [AV.bytes (([39] : List UInt8) ++ s2)]).bind fun r4 =>
    asSIBT r4.v fun s5 i2 b3 =>
    (R id_singlePut [AV.str (([39] : List UInt8) ++ s2)]).bind fun r5 =>
    asSBT r5.v fun s6 b4 =>
    (R id_ref01PutSingle [AV.str (([39] : List UInt8) ++ s2)]).bind fun r6 =>
    asSBT r6.v fun s7 b5 =>
    bif s4 == s5 then
      (bif (i1 : Int) == i2 then
        (bif b2 == b3 then
          (bif s6 == s7 then
            (bif b4 == b5 then
              ((R id_keepIntact [AV.lent s3, AV.bytes (([39] : List UInt8) ++ s2)]).bind fun r7 =>
              asB r7.v fun b6 =>
              bif b6 then
                ((R id_law05Wakes []).bind fun r8 =>
                asB r8.v fun b7 =>
                some ⟨AV.bool b7, false, []⟩)
              else
                some ⟨AV.bool false, false, []⟩)
            else
              some ⟨AV.bool false, false, []⟩)
          else
            some ⟨AV.bool false, false, []⟩)
        else
          some ⟨AV.bool false, false, []⟩)
      else
        some ⟨AV.bool false, false, []⟩)
    else
      some ⟨AV.bool false, false, []⟩)
  else
    (R id_keepLend [AV.bytes s2]).bind fun r9 =>
    asL r9.v fun s8 =>
    (R id_singleTake [AV.bytes s8]).bind fun r10 =>
    asSIBT r10.v fun s9 i3 b8 =>
    (R id_ref01TakeSingle [AV.bytes s2]).bind fun r11 =>
    asSIBT r11.v fun s10 i4 b9 =>
    (R id_singlePut [AV.str s2]).bind fun r12 =>
    asSBT r12.v fun s11 b10 =>
    (R id_ref01PutSingle [AV.str s2]).bind fun r13 =>
    asSBT r13.v fun s12 b11 =>
    bif s9 == s10 then
      (bif (i3 : Int) == i4 then
        (bif b8 == b9 then
          (bif s11 == s12 then
            (bif b10 == b11 then
              ((R id_keepIntact [AV.lent s8, AV.bytes s2]).bind fun r14 =>
              asB r14.v fun b12 =>
              bif b12 then
                ((R id_law05Wakes []).bind fun r15 =>
                asB r15.v fun b13 =>
                some ⟨AV.bool b13, false, []⟩)
              else
                some ⟨AV.bool false, false, []⟩)
            else
              some ⟨AV.bool false, false, []⟩)
          else
            some ⟨AV.bool false, false, []⟩)
        else
          some ⟨AV.bool false, false, []⟩)
      else
        some ⟨AV.bool false, false, []⟩)
    else
      some ⟨AV.bool false, false, []⟩
theorem law05SingleTells_eq (R : Nat → List AV → Option Res) (N : Nat) (s1 : List UInt8) (b1 : Bool) : runF gl R N law05SingleTells [AV.str s1, AV.bool b1] = law05SingleTellsr R N s1 b1 := by
  kernel_rfl
theorem law05SingleTells_fit : fitF Tryd.prog law05SingleTells Tryd.f12 = true := by
  kernel_rfl

def law05SingleBack_c0 : AC := .seq (.region [.op (some 4) none (.mv (.k (AV.bool false)))]) (.seq (.region [.op (some 13) none (.mv (.t 0)), .op (some 14) none (.call id_keepText [.t 13, .k (AV.int .i64 60)] (.str)), .op (some 15) none (.mv (.t 1)), .op (some 16) none (.call id_keepText [.t 15, .k (AV.int .i64 10)] (.str)), .op (some 0) none (.mv (.t 14)), .op (some 1) none (.mv (.t 16))]) (.seq (.seq (.region [.op (some 17) none (.mv (.t 1)), .op (some 18) none (.len (.t 17) true), .op (some 19) none (.bin .gtr (.t 18) (.k (AV.int .i64 0))), .op (some 20) none (.mv (.t 19)), .split 20, .op (some 21) (some (20, true)) (.mv (.t 1)), .op (some 22) (some (20, true)) (.index (.t 21) (.k (AV.int .i64 0))), .op (some 23) (some (20, true)) (.bin .eql (.t 22) (.k (AV.int .u8 39))), .op (some 24) none (.pick (.t 20) (.t 23) (.k (AV.bool false)))]) (.cond (.t 24) (.region [.op (some 25) none (.mv (.t 1)), .op (some 26) none (.bin .add (.k (AV.str ([120] : List UInt8))) (.t 25)), .op (some 1) none (.mv (.t 26))]) (.skip))) (.seq (.region [.op (some 28) none (.mv (.t 0)), .op (some 29) none (.call id_singlePut [.t 28] (.tup [.str, .bool])), .op (some 27) none (.mv (.t 29)), .op (some 30) none (.extract (.t 27) 0), .op (some 31) none (.extract (.t 27) 1), .op (some 5) none (.mv (.t 30)), .op (some 6) none (.mv (.t 31))]) (.seq (.seq (.region [.op (some 32) none (.mv (.t 6)), .op (some 33) none (.un .not (.t 32))]) (.cond (.t 33) (.seq (.region [.op (some 34) none (.mv (.t 5)), .op (some 35) none (.bin .eql (.t 34) (.k (AV.str ([] : List UInt8)))), .op (some 36) none (.mv (.t 35)), .split 36, .op (some 37) (some (36, true)) (.call id_law05Wakes [] (.bool)), .op (some 38) none (.pick (.t 36) (.t 37) (.k (AV.bool false))), .op (some 4) none (.mv (.t 38))]) (.ret [4] [])) (.skip))) (.seq (.seq (.region [.op (some 39) none (.mv (.t 5)), .op (some 40) none (.len (.t 39) true), .op (some 41) none (.bin .eql (.t 40) (.k (AV.int .i64 0)))]) (.cond (.t 41) (.seq (.region [.op (some 4) none (.mv (.k (AV.bool false)))]) (.ret [4] [])) (.skip))) (.seq (.region [.op (some 43) none (.mv (.t 5)), .op (some 44) none (.mv (.t 1)), .op (some 45) none (.bin .add (.t 43) (.t 44)), .op (some 46) none (.cvBytes (.t 45)), .op (some 47) none (.call id_singleTake [.t 46] (.tup [.str, .int .i64, .bool])), .op (some 42) none (.mv (.t 47)), .op (some 48) none (.extract (.t 42) 0), .op (some 49) none (.extract (.t 42) 1), .op (some 50) none (.extract (.t 42) 2), .op (some 7) none (.mv (.t 48)), .op (some 8) none (.mv (.t 49)), .op (some 9) none (.mv (.t 50))]) (.seq (.region [.op (some 52) none (.mv (.t 5)), .op (some 53) none (.mv (.t 5)), .op (some 54) none (.len (.t 53) true), .op (some 55) none (.bin .sub (.t 54) (.k (AV.int .i64 1))), .op (some 56) none (.sliceS (.t 52) none (some (.t 55))), .op (some 57) none (.cvBytes (.t 56)), .op (some 58) none (.call id_singleTake [.t 57] (.tup [.str, .int .i64, .bool])), .op (some 51) none (.mv (.t 58)), .op (some 59) none (.extract (.t 51) 0), .op (some 60) none (.extract (.t 51) 1), .op (some 61) none (.extract (.t 51) 2), .op (some 10) none (.mv (.t 59)), .op (some 11) none (.mv (.t 60)), .op (some 12) none (.mv (.t 61))]) (.seq (.region [.op (some 62) none (.mv (.t 9)), .op (some 63) none (.mv (.t 62)), .split 63, .op (some 64) (some (63, true)) (.mv (.t 7)), .op (some 65) (some (63, true)) (.mv (.t 0)), .op (some 66) (some (63, true)) (.bin .eql (.t 64) (.t 65)), .op (some 67) none (.pick (.t 63) (.t 66) (.k (AV.bool false))), .op (some 68) none (.mv (.t 67)), .split 68, .op (some 69) (some (68, true)) (.mv (.t 8)), .op (some 70) (some (68, true)) (.mv (.t 5)), .op (some 71) (some (68, true)) (.len (.t 70) true), .op (some 72) (some (68, true)) (.bin .eql (.t 69) (.t 71)), .op (some 73) none (.pick (.t 68) (.t 72) (.k (AV.bool false))), .op (some 74) none (.mv (.t 73)), .split 74, .op (some 75) (some (74, true)) (.mv (.t 12)), .op (some 76) (some (74, true)) (.un .not (.t 75)), .op (some 77) none (.pick (.t 74) (.t 76) (.k (AV.bool false))), .op (some 78) none (.mv (.t 77)), .split 78, .op (some 79) (some (78, true)) (.mv (.t 5)), .op (some 80) (some (78, true)) (.len (.t 79) true), .op (some 81) (some (78, true)) (.mv (.t 0)), .op (some 82) (some (78, true)) (.len (.t 81) true), .op (some 83) (some (78, true)) (.bin .add (.t 82) (.k (AV.int .i64 2))), .op (some 84) (some (78, true)) (.bin .geq (.t 80) (.t 83)), .op (some 85) none (.pick (.t 78) (.t 84) (.k (AV.bool false))), .op (some 86) none (.mv (.t 85)), .split 86, .op (some 87) (some (86, true)) (.call id_law05Wakes [] (.bool)), .op (some 88) none (.pick (.t 86) (.t 87) (.k (AV.bool false))), .op (some 4) none (.mv (.t 88))]) (.ret [4] [])))))))))
def law05SingleBack : AFunc := ⟨2, 89, [.tmp 4], law05SingleBack_c0⟩
def law05SingleBackr (R : Nat → List AV → Option Res) (N : Nat) (s1 : List UInt8) (s2 : List UInt8) : Option Res :=
  (R id_keepText [AV.str s1, AV.int .i64 60]).bind fun r1 =>
  asS r1.v fun s3 =>
  (R id_keepText [AV.str s2, AV.int .i64 10]).bind fun r2 =>
  asS r2.v fun s4 =>
  bif decide ((((s4.length : Nat) : Int) : Int) > 0) then
    (need (decide (0 ≤ (0 : Int))) <|
    (s4[Int.toNat 0]?).bind fun c1 =>
    bif ((c1.toNat : Int) : Int) == 39 then
      (need (decide ((([120] : List UInt8) : List UInt8).length + s4.length ≤ 9223372036854775807)) <|
      (R id_singlePut [AV.str s3]).bind fun r3 =>
      asSBT r3.v fun s5 b1 =>
      bif !b1 then
        (bif s5 == ([] : List UInt8) then
          ((R id_law05Wakes []).bind fun r4 =>
          asB r4.v fun b2 =>
          some ⟨AV.bool b2, false, []⟩)
        else
          some ⟨AV.bool false, false, []⟩)
      else
        bif (((s5.length : Nat) : Int) : Int) == 0 then
          (some ⟨AV.bool false, false, []⟩)
        else
          need (decide (s5.length + (([120] : List UInt8) ++ s4 : List UInt8).length ≤ 9223372036854775807)) <|
          (R id_singleTake [AV.bytes (s5 ++ (([120] : List UInt8) ++ s4))]).bind fun r5 =>
          asSIBT r5.v fun s6 i1 b3 =>
          need (decide (0 ≤ (IntKind.i64.wrap (((s5.length : Nat) : Int) - 1) : Int)) && decide ((IntKind.i64.wrap (((s5.length : Nat) : Int) - 1) : Int) ≤ ((s5.length : Nat) : Int))) <|
          (R id_singleTake [AV.bytes ((s5.take (Int.toNat (IntKind.i64.wrap (((s5.length : Nat) : Int) - 1)))).drop 0)]).bind fun r6 =>
          asSIBT r6.v fun s7 i2 b4 =>
          bif b3 then
            (bif s6 == s3 then
              (bif (i1 : Int) == ((s5.length : Nat) : Int) then
                (bif !b4 then
                  (bif decide ((((s5.length : Nat) : Int) : Int) ≥ (IntKind.i64.wrap (((s3.length : Nat) : Int) + 2))) then
                    ((R id_law05Wakes []).bind fun r7 =>
                    asB r7.v fun b5 =>
                    some ⟨AV.bool b5, false, []⟩)
                  else
                    some ⟨AV.bool false, false, []⟩)
                else
                  some ⟨AV.bool false, false, []⟩)
              else
                some ⟨AV.bool false, false, []⟩)
            else
              some ⟨AV.bool false, false, []⟩)
          else
            some ⟨AV.bool false, false, []⟩)
    else
      (R id_singlePut [AV.str s3]).bind fun r8 =>
      asSBT r8.v fun s8 b6 =>
      bif !b6 then
        (bif s8 == ([] : List UInt8) then
          ((R id_law05Wakes []).bind fun r9 =>
          asB r9.v fun b7 =>
          some ⟨AV.bool b7, false, []⟩)
        else
          some ⟨AV.bool false, false, []⟩)
      else
        bif (((s8.length : Nat) : Int) : Int) == 0 then
          (some ⟨AV.bool false, false, []⟩)
        else
          need (decide (s8.length + s4.length ≤ 9223372036854775807)) <|
          (R id_singleTake [AV.bytes (s8 ++ s4)]).bind fun r10 =>
          asSIBT r10.v fun s9 i3 b8 =>
          need (decide (0 ≤ (IntKind.i64.wrap (((s8.length : Nat) : Int) - 1) : Int)) && decide ((IntKind.i64.wrap (((s8.length : Nat) : Int) - 1) : Int) ≤ ((s8.length : Nat) : Int))) <|
          (R id_singleTake [AV.bytes ((s8.take (Int.toNat (IntKind.i64.wrap (((s8.length : Nat) : Int) - 1)))).drop 0)]).bind fun r11 =>
          asSIBT r11.v fun s10 i4 b9 =>
          bif b8 then
            (bif s9 == s3 then
              (bif (i3 : Int) == ((s8.length : Nat) : Int) then
                (bif !b9 then
                  (bif decide ((((s8.length : Nat) : Int) : Int) ≥ (IntKind.i64.wrap (((s3.length : Nat) : Int) + 2))) then
                    ((R id_law05Wakes []).bind fun r12 =>
                    asB r12.v fun b10 =>
                    some ⟨AV.bool b10, false, []⟩)
                  else
                    some ⟨AV.bool false, false, []⟩)
                else
                  some ⟨AV.bool false, false, []⟩)
              else
                some ⟨AV.bool false, false, []⟩)
            else
              some ⟨AV.bool false, false, []⟩)
          else
            some ⟨AV.bool false, false, []⟩)
  else
    (R id_singlePut [AV.str s3]).bind fun r13 =>
    asSBT r13.v fun s11 b11 =>
    bif !b11 then
      (bif s11 == ([] : List UInt8) then
        ((R id_law05Wakes []).bind fun r14 =>
        asB r14.v fun b12 =>
        some ⟨AV.bool b12, false, []⟩)
      else
        some ⟨AV.bool false, false, []⟩)
    else
      bif (((s11.length : Nat) : Int) : Int) == 0 then
        (some ⟨AV.bool false, false, []⟩)
      else
        need (decide (s11.length + s4.length ≤ 9223372036854775807)) <|
        (R id_singleTake [AV.bytes (s11 ++ s4)]).bind fun r15 =>
        asSIBT r15.v fun s12 i5 b13 =>
        need (decide (0 ≤ (IntKind.i64.wrap (((s11.length : Nat) : Int) - 1) : Int)) && decide ((IntKind.i64.wrap (((s11.length : Nat) : Int) - 1) : Int) ≤ ((s11.length : Nat) : Int))) <|
        (R id_singleTake [AV.bytes ((s11.take (Int.toNat (IntKind.i64.wrap (((s11.length : Nat) : Int) - 1)))).drop 0)]).bind fun r16 =>
        asSIBT r16.v fun s13 i6 b14 =>
        bif b13 then
          (bif s12 == s3 then
            (bif (i5 : Int) == ((s11.length : Nat) : Int) then
              (bif !b14 then
                (bif decide ((((s11.length : Nat) : Int) : Int) ≥ (IntKind.i64.wrap (((s3.length : Nat) : Int) + 2))) then
                  ((R id_law05Wakes []).bind fun r17 =>
                  asB r17.v fun b15 =>
                  some ⟨AV.bool b15, false, []⟩)
                else
                  some ⟨AV.bool false, false, []⟩)
              else
                some ⟨AV.bool false, false, []⟩)
            else
              some ⟨AV.bool false, false, []⟩)
          else
            some ⟨AV.bool false, false, []⟩)
        else
          some ⟨AV.bool false, false, []⟩
theorem law05SingleBack_eq (R : Nat → List AV → Option Res) (N : Nat) (s1 : List UInt8) (s2 : List UInt8) : runF gl R N law05SingleBack [AV.str s1, AV.str s2] = law05SingleBackr R N s1 s2 := by
  kernel_rfl
theorem law05SingleBack_fit : fitF Tryd.prog law05SingleBack Tryd.f13 = true := by
  kernel_rfl

def law05SingleApart_c0 : AC := .seq (.region [.op (some 4) none (.mv (.k (AV.bool false)))]) (.seq (.region [.op (some 12) none (.mv (.t 0)), .op (some 13) none (.call id_keepText [.t 12, .k (AV.int .i64 40)] (.str)), .op (some 14) none (.mv (.t 1)), .op (some 15) none (.call id_keepText [.t 14, .k (AV.int .i64 40)] (.str)), .op (some 0) none (.mv (.t 13)), .op (some 1) none (.mv (.t 15))]) (.seq (.region [.op (some 17) none (.mv (.t 0)), .op (some 18) none (.call id_singlePut [.t 17] (.tup [.str, .bool])), .op (some 16) none (.mv (.t 18)), .op (some 19) none (.extract (.t 16) 0), .op (some 20) none (.extract (.t 16) 1), .op (some 5) none (.mv (.t 19)), .op (some 6) none (.mv (.t 20))]) (.seq (.region [.op (some 22) none (.mv (.t 1)), .op (some 23) none (.call id_singlePut [.t 22] (.tup [.str, .bool])), .op (some 21) none (.mv (.t 23)), .op (some 24) none (.extract (.t 21) 0), .op (some 25) none (.extract (.t 21) 1), .op (some 7) none (.mv (.t 24)), .op (some 8) none (.mv (.t 25))]) (.seq (.seq (.region [.op (some 26) none (.mv (.t 6)), .op (some 27) none (.un .not (.t 26)), .op (some 28) none (.mv (.t 27)), .split 28, .op (some 29) (some (28, false)) (.mv (.t 8)), .op (some 30) (some (28, false)) (.un .not (.t 29)), .op (some 31) none (.pick (.t 28) (.k (AV.bool true)) (.t 30))]) (.cond (.t 31) (.seq (.region [.op (some 32) none (.call id_law05Wakes [] (.bool)), .op (some 4) none (.mv (.t 32))]) (.ret [4] [])) (.skip))) (.seq (.seq (.region [.op (some 33) none (.mv (.t 5)), .op (some 34) none (.mv (.t 7)), .op (some 35) none (.bin .eql (.t 33) (.t 34)), .op (some 36) none (.mv (.t 0)), .op (some 37) none (.mv (.t 1)), .op (some 38) none (.bin .eql (.t 36) (.t 37)), .op (some 39) none (.binB .neq (.t 35) (.t 38))]) (.cond (.t 39) (.seq (.region [.op (some 4) none (.mv (.k (AV.bool false)))]) (.ret [4] [])) (.skip))) (.seq (.region [.op (some 41) none (.mv (.t 5)), .op (some 42) none (.mv (.t 7)), .op (some 43) none (.bin .add (.t 41) (.t 42)), .op (some 44) none (.cvBytes (.t 43)), .op (some 45) none (.call id_singleTake [.t 44] (.tup [.str, .int .i64, .bool])), .op (some 40) none (.mv (.t 45)), .op (some 46) none (.extract (.t 40) 0), .op (some 47) none (.extract (.t 40) 1), .op (some 48) none (.extract (.t 40) 2), .op (some 9) none (.mv (.t 46)), .op (some 10) none (.mv (.t 47)), .op (some 11) none (.mv (.t 48))]) (.seq (.seq (.region [.op (some 49) none (.mv (.t 11)), .op (some 50) none (.un .not (.t 49))]) (.cond (.t 50) (.seq (.region [.op (some 4) none (.mv (.k (AV.bool false)))]) (.ret [4] [])) (.skip))) (.seq (.region [.op (some 51) none (.mv (.t 9)), .op (some 52) none (.mv (.t 0)), .op (some 53) none (.bin .add (.t 52) (.k (AV.str ([39] : List UInt8)))), .op (some 54) none (.mv (.t 1)), .op (some 55) none (.bin .add (.t 53) (.t 54)), .op (some 56) none (.bin .eql (.t 51) (.t 55)), .op (some 57) none (.mv (.t 56)), .split 57, .op (some 58) (some (57, true)) (.mv (.t 10)), .op (some 59) (some (57, true)) (.mv (.t 5)), .op (some 60) (some (57, true)) (.len (.t 59) true), .op (some 61) (some (57, true)) (.mv (.t 7)), .op (some 62) (some (57, true)) (.len (.t 61) true), .op (some 63) (some (57, true)) (.bin .add (.t 60) (.t 62)), .op (some 64) (some (57, true)) (.bin .eql (.t 58) (.t 63)), .op (some 65) none (.pick (.t 57) (.t 64) (.k (AV.bool false))), .op (some 66) none (.mv (.t 65)), .split 66, .op (some 67) (some (66, true)) (.call id_law05Wakes [] (.bool)), .op (some 68) none (.pick (.t 66) (.t 67) (.k (AV.bool false))), .op (some 4) none (.mv (.t 68))]) (.ret [4] [])))))))))
def law05SingleApart : AFunc := ⟨2, 69, [.tmp 4], law05SingleApart_c0⟩
def law05SingleApartr (R : Nat → List AV → Option Res) (N : Nat) (s1 : List UInt8) (s2 : List UInt8) : Option Res :=
  (R id_keepText [AV.str s1, AV.int .i64 40]).bind fun r1 =>
  asS r1.v fun s3 =>
  (R id_keepText [AV.str s2, AV.int .i64 40]).bind fun r2 =>
  asS r2.v fun s4 =>
  (R id_singlePut [AV.str s3]).bind fun r3 =>
  asSBT r3.v fun s5 b1 =>
  (R id_singlePut [AV.str s4]).bind fun r4 =>
  asSBT r4.v fun s6 b2 =>
  bif !b1 then
    ((R id_law05Wakes []).bind fun r5 =>
    asB r5.v fun b3 =>
    some ⟨AV.bool b3, false, []⟩)
  else
    bif !b2 then
      ((R id_law05Wakes []).bind fun r6 =>
      asB r6.v fun b4 =>
      some ⟨AV.bool b4, false, []⟩)
    else
      bif !((s5 == s6) == (s3 == s4)) then
        (some ⟨AV.bool false, false, []⟩)
      else
        need (decide (s5.length + s6.length ≤ 9223372036854775807)) <|
        (R id_singleTake [AV.bytes (s5 ++ s6)]).bind fun r7 =>
        asSIBT r7.v fun s7 i1 b5 =>
        bif !b5 then
          (some ⟨AV.bool false, false, []⟩)
        else
          need (decide (s3.length + (([39] : List UInt8) : List UInt8).length ≤ 9223372036854775807)) <|
          need (decide ((s3 ++ ([39] : List UInt8)).length + s4.length ≤ 9223372036854775807)) <|
          bif s7 == ((s3 ++ ([39] : List UInt8)) ++ s4) then
            (bif (i1 : Int) == (IntKind.i64.wrap (((s5.length : Nat) : Int) + ((s6.length : Nat) : Int))) then
              ((R id_law05Wakes []).bind fun r8 =>
              asB r8.v fun b6 =>
              some ⟨AV.bool b6, false, []⟩)
            else
              some ⟨AV.bool false, false, []⟩)
          else
            some ⟨AV.bool false, false, []⟩
theorem law05SingleApart_eq (R : Nat → List AV → Option Res) (N : Nat) (s1 : List UInt8) (s2 : List UInt8) : runF gl R N law05SingleApart [AV.str s1, AV.str s2] = law05SingleApartr R N s1 s2 := by
  kernel_rfl
theorem law05SingleApart_fit : fitF Tryd.prog law05SingleApart Tryd.f14 = true := by
  kernel_rfl

def table : List (Nat × AFunc) := [(id_keepWithin, keepWithin), (id_doubleHex, doubleHex), (id_unicodeUtf8WordString, unicodeUtf8WordString), (id_charsPrintable, charsPrintable), (id_doubleRunes, doubleRunes), (id_doubleOne, doubleOne), (id_law06Wakes, law06Wakes), (id_law06DoubleHex, law06DoubleHex), (id_internalStringsliteIndexByte, internalStringsliteIndexByte), (id_stringsIndexByte, stringsIndexByte), (id_doubleDigits, doubleDigits), (id_doubleNumber, doubleNumber), (id_doubleEscape, doubleEscape), (id_unicodeUtf8AppendRuneNonASCII, unicodeUtf8AppendRuneNonASCII), (id_unicodeUtf8AppendRune, unicodeUtf8AppendRune), (id_doubleTake, doubleTake), (id_law06DoubleEscapes, law06DoubleEscapes), (id_keepText, keepText), (id_law06DoubleForms, law06DoubleForms), (id_keepLend, keepLend), (id_ref01Escape, ref01Escape), (id_ref01Utf8, ref01Utf8), (id_ref01Digit, ref01Digit), (id_ref01TakeDouble, ref01TakeDouble), (id_ref01Hex, ref01Hex), (id_ref01Rune, ref01Rune), (id_ref01Printable, ref01Printable), (id_ref01PutDouble, ref01PutDouble), (id_keepIntact, keepIntact), (id_law06DoubleTells, law06DoubleTells), (id_ref01Marked, ref01Marked), (id_ref01Check, ref01Check), (id_law06DoubleBack, law06DoubleBack), (id_law06DoubleRunes, law06DoubleRunes), (id_law06DoubleApart, law06DoubleApart), (id_unicodeUtf8DecodeRuneSlow, unicodeUtf8DecodeRuneSlow), (id_unicodeUtf8DecodeRune, unicodeUtf8DecodeRune), (id_charsRune, charsRune), (id_internalBytealgCutover, internalBytealgCutover), (id_internalBytealgHashStrString, internalBytealgHashStrString), (id_unicodeUtf8DecodeRuneInStringSlow, unicodeUtf8DecodeRuneInStringSlow), (id_unicodeUtf8DecodeRuneInString, unicodeUtf8DecodeRuneInString), (id_singlePut, singlePut), (id_law05Wakes, law05Wakes), (id_law05SingleQuotes, law05SingleQuotes), (id_singleTake, singleTake), (id_law05SingleForms, law05SingleForms), (id_ref01TakeSingle, ref01TakeSingle), (id_ref01Clean, ref01Clean), (id_ref01PutSingle, ref01PutSingle), (id_law05SingleTells, law05SingleTells), (id_law05SingleBack, law05SingleBack), (id_law05SingleApart, law05SingleApart)]
theorem table_fits : Fits Tryd.prog table := ⟨⟨_, Tryd.func15, keepWithin_fit⟩, ⟨_, Tryd.func16, doubleHex_fit⟩, ⟨_, Tryd.func54, unicodeUtf8WordString_fit⟩, ⟨_, Tryd.func46, charsPrintable_fit⟩, ⟨_, Tryd.func50, doubleRunes_fit⟩, ⟨_, Tryd.func40, doubleOne_fit⟩, ⟨_, Tryd.func17, law06Wakes_fit⟩, ⟨_, Tryd.func3, law06DoubleHex_fit⟩, ⟨_, Tryd.func58, internalStringsliteIndexByte_fit⟩, ⟨_, Tryd.func49, stringsIndexByte_fit⟩, ⟨_, Tryd.func51, doubleDigits_fit⟩, ⟨_, Tryd.func52, doubleNumber_fit⟩, ⟨_, Tryd.func32, doubleEscape_fit⟩, ⟨_, Tryd.func53, unicodeUtf8AppendRuneNonASCII_fit⟩, ⟨_, Tryd.func33, unicodeUtf8AppendRune_fit⟩, ⟨_, Tryd.func18, doubleTake_fit⟩, ⟨_, Tryd.func4, law06DoubleEscapes_fit⟩, ⟨_, Tryd.func19, keepText_fit⟩, ⟨_, Tryd.func5, law06DoubleForms_fit⟩, ⟨_, Tryd.func20, keepLend_fit⟩, ⟨_, Tryd.func34, ref01Escape_fit⟩, ⟨_, Tryd.func35, ref01Utf8_fit⟩, ⟨_, Tryd.func36, ref01Digit_fit⟩, ⟨_, Tryd.func21, ref01TakeDouble_fit⟩, ⟨_, Tryd.func24, ref01Hex_fit⟩, ⟨_, Tryd.func42, ref01Rune_fit⟩, ⟨_, Tryd.func43, ref01Printable_fit⟩, ⟨_, Tryd.func23, ref01PutDouble_fit⟩, ⟨_, Tryd.func25, keepIntact_fit⟩, ⟨_, Tryd.func6, law06DoubleTells_fit⟩, ⟨_, Tryd.func44, ref01Marked_fit⟩, ⟨_, Tryd.func26, ref01Check_fit⟩, ⟨_, Tryd.func7, law06DoubleBack_fit⟩, ⟨_, Tryd.func8, law06DoubleRunes_fit⟩, ⟨_, Tryd.func9, law06DoubleApart_fit⟩, ⟨_, Tryd.func60, unicodeUtf8DecodeRuneSlow_fit⟩, ⟨_, Tryd.func56, unicodeUtf8DecodeRune_fit⟩, ⟨_, Tryd.func45, charsRune_fit⟩, ⟨_, Tryd.func73, internalBytealgCutover_fit⟩, ⟨_, Tryd.func75, internalBytealgHashStrString_fit⟩, ⟨_, Tryd.func70, unicodeUtf8DecodeRuneInStringSlow_fit⟩, ⟨_, Tryd.func64, unicodeUtf8DecodeRuneInString_fit⟩, ⟨_, Tryd.func27, singlePut_fit⟩, ⟨_, Tryd.func28, law05Wakes_fit⟩, ⟨_, Tryd.func10, law05SingleQuotes_fit⟩, ⟨_, Tryd.func29, singleTake_fit⟩, ⟨_, Tryd.func11, law05SingleForms_fit⟩, ⟨_, Tryd.func30, ref01TakeSingle_fit⟩, ⟨_, Tryd.func48, ref01Clean_fit⟩, ⟨_, Tryd.func31, ref01PutSingle_fit⟩, ⟨_, Tryd.func12, law05SingleTells_fit⟩, ⟨_, Tryd.func13, law05SingleBack_fit⟩, ⟨_, Tryd.func14, law05SingleApart_fit⟩, trivial⟩
theorem table_fit : ∀ f F, get table f = some F → ∃ fn, Tryd.prog.funcs[f]? = some fn ∧ fitF Tryd.prog F fn = true := table_fits.get
end Go.Proofs.YtpgcjcggnfagfaaDoor.Vf
