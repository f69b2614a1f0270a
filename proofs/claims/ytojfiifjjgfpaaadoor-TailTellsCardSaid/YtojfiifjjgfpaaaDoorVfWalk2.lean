/- The code of the functions that the statements reach, as our evaluator takes it, and what each of them comes to, readably: printed by a program of ours. No condition. -/
import Derived.Test.YtojfiifjjgfpaaaDoorVfWalk1
namespace Go.Proofs.YtojfiifjjgfpaaaDoor.Vf
set_option linter.unusedVariables false
set_option linter.unusedSimpArgs false
set_option maxRecDepth 100000


def law11TailTells_L1s (R : Nat → List AV → Option Res) (N : Nat) (go : List UInt8 → List UInt8 → Int → Bool → Int → Bool → Int → List UInt8 → Option Res) (k0 : List UInt8 → List UInt8 → Int → Bool → Int → Bool → Int → List UInt8 → Option Res) (s6 : List UInt8) (s7 : List UInt8) (i5 : Int) (b3 : Bool) (i6 : Int) (b4 : Bool) (i7 : Int) (s8 : List UInt8) : Option Res :=
  bif decide ((i7 : Int) < ((s6.length : Nat) : Int)) then
    (need (decide (0 ≤ (i7 : Int))) <|
    (s6[Int.toNat i7]?).bind fun c1 =>
    bif ((c1.toNat : Int) : Int) == 32 then
      (go s6 s7 i5 b3 i6 b4 (IntKind.i64.wrap (i7 + 1)) s8)
    else
      k0 s6 s7 i5 b3 i6 b4 i7 s8)
  else
    k0 s6 s7 i5 b3 i6 b4 i7 s8
def law11TailTells_L1 (R : Nat → List AV → Option Res) (N : Nat) (k0 : List UInt8 → List UInt8 → Int → Bool → Int → Bool → Int → List UInt8 → Option Res) : Nat → List UInt8 → List UInt8 → Int → Bool → Int → Bool → Int → List UInt8 → Option Res
  | 0, _, _, _, _, _, _, _, _ => none
  | n + 1, s6, s7, i5, b3, i6, b4, i7, s8 => law11TailTells_L1s R N (law11TailTells_L1 R N k0 n) k0 s6 s7 i5 b3 i6 b4 i7 s8
def law11TailTells_c0 : AC := .seq (.seq (.region [.op (some 39) none (.mv (.t 12)), .op (some 40) none (.mv (.t 5)), .op (some 41) none (.len (.t 40) false), .op (some 42) none (.bin .lss (.t 39) (.t 41)), .op (some 43) none (.mv (.t 42)), .split 43, .op (some 44) (some (43, true)) (.mv (.t 5)), .op (some 45) (some (43, true)) (.mv (.t 12)), .op (some 46) (some (43, true)) (.iaddr (.t 44) (.t 45) 1 (.int .u8)), .op (some 47) (some (43, true)) (.load (.t 46) none (.int .u8)), .op (some 48) (some (43, true)) (.bin .eql (.t 47) (.k (AV.int .u8 32))), .op (some 49) none (.pick (.t 43) (.t 48) (.k (AV.bool false)))]) (.cond (.t 49) (.skip) (.exit 0 [5, 6, 7, 8, 9, 10, 11, 12] [38]))) (.block 1 (.region [.op (some 50) none (.mv (.t 12)), .op (some 51) none (.bin .add (.t 50) (.k (AV.int .i64 1))), .op (some 12) none (.mv (.t 51))]))
theorem law11TailTells_L1s_eq (R : Nat → List AV → Option Res) (N : Nat) (K : Ex → St → Option Res) (W : St → Option Res) (s6 : List UInt8) (s7 : List UInt8) (i5 : Int) (b3 : Bool) (i6 : Int) (b4 : Bool) (i7 : Int) (s8 : List UInt8) :
    evC gl R N law11TailTells_c0 (Kseq (fun st' => W (prune [5, 6, 7, 8, 9, 10, 11, 12] [38] st')) K) ⟨[(5, .imm (AV.bytes s6)), (6, .imm (AV.lent s7)), (7, .imm (AV.int .i64 i5)), (8, .imm (AV.bool b3)), (9, .imm (AV.int .i64 i6)), (10, .imm (AV.bool b4)), (11, .own 38 0 s8.length none), (12, .imm (AV.int .i64 i7))], [(38, .bytes s8 false)]⟩ =
    law11TailTells_L1s R N (fun (s6 : List UInt8) (s7 : List UInt8) (i5 : Int) (b3 : Bool) (i6 : Int) (b4 : Bool) (i7 : Int) (s8 : List UInt8) => W ⟨[(5, .imm (AV.bytes s6)), (6, .imm (AV.lent s7)), (7, .imm (AV.int .i64 i5)), (8, .imm (AV.bool b3)), (9, .imm (AV.int .i64 i6)), (10, .imm (AV.bool b4)), (11, .own 38 0 s8.length none), (12, .imm (AV.int .i64 i7))], [(38, .bytes s8 false)]⟩) (fun (s9 : List UInt8) (s10 : List UInt8) (i8 : Int) (b5 : Bool) (i9 : Int) (b6 : Bool) (i10 : Int) (s11 : List UInt8) => K (.exit 0) ⟨[(5, .imm (AV.bytes s9)), (6, .imm (AV.lent s10)), (7, .imm (AV.int .i64 i8)), (8, .imm (AV.bool b5)), (9, .imm (AV.int .i64 i9)), (10, .imm (AV.bool b6)), (11, .own 38 0 s11.length none), (12, .imm (AV.int .i64 i10))], [(38, .bytes s11 false)]⟩) s6 s7 i5 b3 i6 b4 i7 s8 := by
  kernel_rfl
theorem law11TailTells_L1_eq (R : Nat → List AV → Option Res) (N : Nat) (K : Ex → St → Option Res) : ∀ (n : Nat) (s6 : List UInt8) (s7 : List UInt8) (i5 : Int) (b3 : Bool) (i6 : Int) (b4 : Bool) (i7 : Int) (s8 : List UInt8),
    rounds [5, 6, 7, 8, 9, 10, 11, 12] [38] (evC gl R N law11TailTells_c0) K n ⟨[(5, .imm (AV.bytes s6)), (6, .imm (AV.lent s7)), (7, .imm (AV.int .i64 i5)), (8, .imm (AV.bool b3)), (9, .imm (AV.int .i64 i6)), (10, .imm (AV.bool b4)), (11, .own 38 0 s8.length none), (12, .imm (AV.int .i64 i7))], [(38, .bytes s8 false)]⟩ = law11TailTells_L1 R N (fun (s9 : List UInt8) (s10 : List UInt8) (i8 : Int) (b5 : Bool) (i9 : Int) (b6 : Bool) (i10 : Int) (s11 : List UInt8) => K (.exit 0) ⟨[(5, .imm (AV.bytes s9)), (6, .imm (AV.lent s10)), (7, .imm (AV.int .i64 i8)), (8, .imm (AV.bool b5)), (9, .imm (AV.int .i64 i9)), (10, .imm (AV.bool b6)), (11, .own 38 0 s11.length none), (12, .imm (AV.int .i64 i10))], [(38, .bytes s11 false)]⟩) n s6 s7 i5 b3 i6 b4 i7 s8
  | 0, _, _, _, _, _, _, _, _ => rfl
  | n + 1, s6, s7, i5, b3, i6, b4, i7, s8 => (law11TailTells_L1s_eq R N K (rounds [5, 6, 7, 8, 9, 10, 11, 12] [38] (evC gl R N law11TailTells_c0) K n) s6 s7 i5 b3 i6 b4 i7 s8).trans
      (congrArg (fun go => law11TailTells_L1s R N go (fun (s9 : List UInt8) (s10 : List UInt8) (i8 : Int) (b5 : Bool) (i9 : Int) (b6 : Bool) (i10 : Int) (s11 : List UInt8) => K (.exit 0) ⟨[(5, .imm (AV.bytes s9)), (6, .imm (AV.lent s10)), (7, .imm (AV.int .i64 i8)), (8, .imm (AV.bool b5)), (9, .imm (AV.int .i64 i9)), (10, .imm (AV.bool b6)), (11, .own 38 0 s11.length none), (12, .imm (AV.int .i64 i10))], [(38, .bytes s11 false)]⟩) s6 s7 i5 b3 i6 b4 i7 s8) (funext fun s6 => funext fun s7 => funext fun i5 => funext fun b3 => funext fun i6 => funext fun b4 => funext fun i7 => funext fun s8 => law11TailTells_L1_eq R N K n s6 s7 i5 b3 i6 b4 i7 s8))
def law11TailTells_c1 : AC := .seq (.region [.op (some 52) none (.mv (.t 11)), .op (some 53) none (.mv (.t 5)), .op (some 54) none (.mv (.t 12)), .op (some 55) none (.slice (.t 53) (some (.t 54)) none 1), .op (some 56) none (.call id_keepSameByte [.t 52, .t 55] (.bool)), .op (some 13) none (.mv (.t 56))]) (.seq (.region [.op (some 57) none (.mv (.t 11)), .op (some 58) none (.callM none id_keepSpoil [.t 57] [true] [none] (.tup []))]) (.seq (.region [.op (some 59) none (.mv (.t 13)), .op (some 60) none (.mv (.t 59)), .split 60, .op (some 61) (some (60, true)) (.mv (.t 7)), .op (some 62) (some (60, true)) (.mv (.t 9)), .op (some 63) (some (60, true)) (.bin .eql (.t 61) (.t 62)), .op (some 64) none (.pick (.t 60) (.t 63) (.k (AV.bool false))), .op (some 65) none (.mv (.t 64)), .split 65, .op (some 66) (some (65, true)) (.mv (.t 8)), .op (some 67) (some (65, true)) (.mv (.t 10)), .op (some 68) (some (65, true)) (.binB .eql (.t 66) (.t 67)), .op (some 69) none (.pick (.t 65) (.t 68) (.k (AV.bool false))), .op (some 70) none (.mv (.t 69)), .split 70, .op (some 71) (some (70, true)) (.weak (.t 6)), .op (some 72) (some (70, true)) (.call id_tailClear [.t 71] (.bool)), .op (some 73) (some (70, true)) (.mv (.t 5)), .op (some 74) (some (70, true)) (.call id_ref08Clear [.t 73] (.bool)), .op (some 75) (some (70, true)) (.binB .eql (.t 72) (.t 74)), .op (some 76) none (.pick (.t 70) (.t 75) (.k (AV.bool false))), .op (some 77) none (.mv (.t 76)), .split 77, .op (some 78) (some (77, true)) (.weak (.t 6)), .op (some 79) (some (77, true)) (.call id_tailMarker [.t 78] (.int .i64)), .op (some 80) (some (77, true)) (.mv (.t 5)), .op (some 81) (some (77, true)) (.call id_ref08Marker [.t 80] (.int .i64)), .op (some 82) (some (77, true)) (.bin .eql (.t 79) (.t 81)), .op (some 83) none (.pick (.t 77) (.t 82) (.k (AV.bool false))), .op (some 84) none (.mv (.t 83)), .split 84, .op (some 85) (some (84, true)) (.mv (.t 6)), .op (some 86) (some (84, true)) (.mv (.t 5)), .op (some 87) (some (84, true)) (.call id_keepIntact [.t 85, .t 86] (.bool)), .op (some 88) none (.pick (.t 84) (.t 87) (.k (AV.bool false))), .op (some 89) none (.mv (.t 88)), .split 89, .op (some 90) (some (89, true)) (.call id_law11Wakes [] (.bool)), .op (some 91) none (.pick (.t 89) (.t 90) (.k (AV.bool false))), .op (some 4) none (.mv (.t 91))]) (.ret [4] [])))
def law11TailTells_c2 : AC := .seq (.region [.op (some 4) none (.mv (.k (AV.bool false)))]) (.seq (.region [.op (some 14) none (.mv (.t 0)), .op (some 15) none (.call id_keepText [.t 14, .k (AV.int .i64 40)] (.str)), .op (some 0) none (.mv (.t 15))]) (.seq (.region [.op (some 16) none (.bslice [.k (AV.str ([] : List UInt8)), .k (AV.str ([45, 45, 45] : List UInt8)), .k (AV.str ([46, 46, 46] : List UInt8)), .k (AV.str ([32] : List UInt8)), .k (AV.str ([32, 32, 35] : List UInt8)), .k (AV.str ([45, 45, 45, 32] : List UInt8)), .k (AV.str ([35] : List UInt8)), .k (AV.str ([46, 46, 46, 32, 35] : List UInt8)), .k (AV.str ([45, 45] : List UInt8)), .k (AV.str ([45, 45, 45, 9] : List UInt8))] 1 false), .op (some 17) none (.mv (.t 1)), .op (some 18) none (.call id_keepWithin [.t 17, .k (AV.int .i64 10)] (.int .i64)), .op (some 19) none (.iaddr (.t 16) (.t 18) 1 (.str)), .op (some 20) none (.load (.t 19) none (.str)), .op (some 21) none (.mv (.t 0)), .op (some 22) none (.bin .add (.t 20) (.t 21)), .op (some 0) none (.mv (.t 22))]) (.seq (.region [.op (some 23) none (.mv (.t 0)), .op (some 24) none (.cvBytes (.t 23)), .op (some 5) none (.mv (.t 24))]) (.seq (.region [.op (some 25) none (.mv (.t 5)), .op (some 26) none (.call id_keepLend [.t 25] (.lent)), .op (some 6) none (.mv (.t 26))]) (.seq (.region [.op (some 28) none (.weak (.t 6)), .op (some 29) none (.call id_tailComment [.t 28] (.tup [.int .i64, .bool])), .op (some 27) none (.mv (.t 29)), .op (some 30) none (.extract (.t 27) 0), .op (some 31) none (.extract (.t 27) 1), .op (some 7) none (.mv (.t 30)), .op (some 8) none (.mv (.t 31))]) (.seq (.region [.op (some 33) none (.mv (.t 5)), .op (some 34) none (.call id_ref08Comment [.t 33] (.tup [.int .i64, .bool])), .op (some 32) none (.mv (.t 34)), .op (some 35) none (.extract (.t 32) 0), .op (some 36) none (.extract (.t 32) 1), .op (some 9) none (.mv (.t 35)), .op (some 10) none (.mv (.t 36))]) (.seq (.region [.op (some 37) none (.weak (.t 6)), .op (some 38) none (.callOwn 38 id_tailRest [.t 37] 1 .any true), .op (some 11) none (.mv (.t 38))]) (.seq (.region [.op (some 12) none (.mv (.k (AV.int .i64 0)))]) (.seq (.block 0 (.loop [5, 6, 7, 8, 9, 10, 11, 12] [38] (law11TailTells_c0))) (law11TailTells_c1))))))))))
def law11TailTells : AFunc := ⟨2, 92, [.tmp 4], law11TailTells_c2⟩
def law11TailTellsr (R : Nat → List AV → Option Res) (N : Nat) (s1 : List UInt8) (i1 : Int) : Option Res :=
  (R id_keepText [AV.str s1, AV.int .i64 40]).bind fun r1 =>
  asS r1.v fun s2 =>
  (R id_keepWithin [AV.int .i64 i1, AV.int .i64 10]).bind fun r2 =>
  asI .i64 r2.v fun i2 =>
  need (decide (0 ≤ (i2 : Int))) <|
  (([AV.str ([] : List UInt8), AV.str ([45, 45, 45] : List UInt8), AV.str ([46, 46, 46] : List UInt8), AV.str ([32] : List UInt8), AV.str ([32, 32, 35] : List UInt8), AV.str ([45, 45, 45, 32] : List UInt8), AV.str ([35] : List UInt8), AV.str ([46, 46, 46, 32, 35] : List UInt8), AV.str ([45, 45] : List UInt8), AV.str ([45, 45, 45, 9] : List UInt8)] : List AV)[Int.toNat i2]?).bind fun e1 =>
  asS e1 fun s3 =>
  need (decide (s3.length + s2.length ≤ 9223372036854775807)) <|
  (R id_keepLend [AV.bytes (s3 ++ s2)]).bind fun r3 =>
  asL r3.v fun s4 =>
  (R id_tailComment [AV.bytes s4]).bind fun r4 =>
  asIBT r4.v fun i3 b1 =>
  (R id_ref08Comment [AV.bytes (s3 ++ s2)]).bind fun r5 =>
  asIBT r5.v fun i4 b2 =>
  (R id_tailRest [AV.bytes s4]).bind fun r6 =>
  need r6.own <|
  asY r6.v fun s5 =>
  law11TailTells_L1 R N
    (fun s15 s16 i14 b9 i15 b10 i16 s17 =>
      need (decide (0 ≤ (i16 : Int)) && decide ((i16 : Int) ≤ ((s15.length : Nat) : Int))) <|
      (R id_keepSameByte [AV.bytes ((s17.drop 0).take s17.length), AV.bytes ((s15.take s15.length).drop (Int.toNat i16))]).bind fun r7 =>
      asB r7.v fun b11 =>
      need (Nat.beq s17.length s17.length) <|
      (R id_keepSpoil [AV.ref (AV.bytes s17)]).bind fun r8 =>
      asC r8.outs fun o1 q1 =>
      asN q1 <|
      as0T r8.v <|
      bif b11 then
        (bif (i14 : Int) == i15 then
          (bif b9 == b10 then
            ((R id_tailClear [AV.bytes s16]).bind fun r9 =>
            asB r9.v fun b12 =>
            (R id_ref08Clear [AV.bytes s15]).bind fun r10 =>
            asB r10.v fun b13 =>
            bif b12 == b13 then
              ((R id_tailMarker [AV.bytes s16]).bind fun r11 =>
              asI .i64 r11.v fun i17 =>
              (R id_ref08Marker [AV.bytes s15]).bind fun r12 =>
              asI .i64 r12.v fun i18 =>
              bif (i17 : Int) == i18 then
                ((R id_keepIntact [AV.lent s16, AV.bytes s15]).bind fun r13 =>
                asB r13.v fun b14 =>
                bif b14 then
                  ((R id_law11Wakes []).bind fun r14 =>
                  asB r14.v fun b15 =>
                  some ⟨AV.bool b15, false, []⟩)
                else
                  some ⟨AV.bool false, false, []⟩)
              else
                some ⟨AV.bool false, false, []⟩)
            else
              some ⟨AV.bool false, false, []⟩)
          else
            some ⟨AV.bool false, false, []⟩)
        else
          some ⟨AV.bool false, false, []⟩)
      else
        some ⟨AV.bool false, false, []⟩)
    N (s3 ++ s2) s4 i3 b1 i4 b2 0 s5
theorem law11TailTells_eq (R : Nat → List AV → Option Res) (N : Nat) (s1 : List UInt8) (i1 : Int) : runF gl R N law11TailTells [AV.str s1, AV.int .i64 i1] = law11TailTellsr R N s1 i1 := by
  refine Eq.trans (b :=
      (R id_keepText [AV.str s1, AV.int .i64 40]).bind fun r1 =>
      asS r1.v fun s2 =>
      (R id_keepWithin [AV.int .i64 i1, AV.int .i64 10]).bind fun r2 =>
      asI .i64 r2.v fun i2 =>
      need (decide (0 ≤ (i2 : Int))) <|
      (([AV.str ([] : List UInt8), AV.str ([45, 45, 45] : List UInt8), AV.str ([46, 46, 46] : List UInt8), AV.str ([32] : List UInt8), AV.str ([32, 32, 35] : List UInt8), AV.str ([45, 45, 45, 32] : List UInt8), AV.str ([35] : List UInt8), AV.str ([46, 46, 46, 32, 35] : List UInt8), AV.str ([45, 45] : List UInt8), AV.str ([45, 45, 45, 9] : List UInt8)] : List AV)[Int.toNat i2]?).bind fun e1 =>
      asS e1 fun s3 =>
      need (decide (s3.length + s2.length ≤ 9223372036854775807)) <|
      (R id_keepLend [AV.bytes (s3 ++ s2)]).bind fun r3 =>
      asL r3.v fun s4 =>
      (R id_tailComment [AV.bytes s4]).bind fun r4 =>
      asIBT r4.v fun i3 b1 =>
      (R id_ref08Comment [AV.bytes (s3 ++ s2)]).bind fun r5 =>
      asIBT r5.v fun i4 b2 =>
      (R id_tailRest [AV.bytes s4]).bind fun r6 =>
      need r6.own <|
      asY r6.v fun s5 =>
      rounds [5, 6, 7, 8, 9, 10, 11, 12] [38] (evC gl R N law11TailTells_c0) (Kblock 0 (Kthen gl R N law11TailTells_c1 (Kret law11TailTells.rets []))) N ⟨[(5, .imm (AV.bytes (s3 ++ s2))), (6, .imm (AV.lent s4)), (7, .imm (AV.int .i64 i3)), (8, .imm (AV.bool b1)), (9, .imm (AV.int .i64 i4)), (10, .imm (AV.bool b2)), (11, .own 38 0 s5.length none), (12, .imm (AV.int .i64 0))], [(38, .bytes s5 false)]⟩) (by kernel_rfl) ?_
  simp (config := { maxSteps := 100000000 }) only [law11TailTells_L1_eq]
  kernel_rfl
theorem law11TailTells_fit : fitF Tryd.prog law11TailTells Tryd.f9 = true := by
  kernel_rfl

def law11TailComments_L1s (R : Nat → List AV → Option Res) (N : Nat) (go : Int → List UInt8 → Int → List UInt8 → Int → Option Res) (k0 : Int → List UInt8 → Int → List UInt8 → Option Res) (i4 : Int) (s3 : List UInt8) (i5 : Int) (s4 : List UInt8) (i6 : Int) : Option Res :=
  bif decide ((i6 : Int) < i4) then
    (need (decide (s4.length + (([32] : List UInt8) : List UInt8).length ≤ 9223372036854775807)) <|
    go i4 s3 i5 (s4 ++ ([32] : List UInt8)) (IntKind.i64.wrap (i6 + 1)))
  else
    k0 i4 s3 i5 s4
def law11TailComments_L1 (R : Nat → List AV → Option Res) (N : Nat) (k0 : Int → List UInt8 → Int → List UInt8 → Option Res) : Nat → Int → List UInt8 → Int → List UInt8 → Int → Option Res
  | 0, _, _, _, _, _ => none
  | n + 1, i4, s3, i5, s4, i6 => law11TailComments_L1s R N (law11TailComments_L1 R N k0 n) k0 i4 s3 i5 s4 i6
def law11TailComments_c0 : AC := .seq (.seq (.region [.op (some 15) none (.mv (.t 8)), .op (some 16) none (.mv (.t 0)), .op (some 17) none (.bin .lss (.t 15) (.t 16))]) (.cond (.t 17) (.skip) (.exit 0 [0, 1, 2, 7] []))) (.seq (.block 1 (.region [.op (some 20) none (.mv (.t 7)), .op (some 21) none (.bin .add (.t 20) (.k (AV.str ([32] : List UInt8)))), .op (some 7) none (.mv (.t 21))])) (.region [.op (some 18) none (.mv (.t 8)), .op (some 19) none (.bin .add (.t 18) (.k (AV.int .i64 1))), .op (some 8) none (.mv (.t 19))]))
theorem law11TailComments_L1s_eq (R : Nat → List AV → Option Res) (N : Nat) (K : Ex → St → Option Res) (W : St → Option Res) (i4 : Int) (s3 : List UInt8) (i5 : Int) (s4 : List UInt8) (i6 : Int) :
    evC gl R N law11TailComments_c0 (Kseq (fun st' => W (prune [0, 1, 2, 7, 8] [] st')) K) ⟨[(0, .imm (AV.int .i64 i4)), (1, .imm (AV.str s3)), (2, .imm (AV.int .u8 i5)), (7, .imm (AV.str s4)), (8, .imm (AV.int .i64 i6))], []⟩ =
    law11TailComments_L1s R N (fun (i4 : Int) (s3 : List UInt8) (i5 : Int) (s4 : List UInt8) (i6 : Int) => W ⟨[(0, .imm (AV.int .i64 i4)), (1, .imm (AV.str s3)), (2, .imm (AV.int .u8 i5)), (7, .imm (AV.str s4)), (8, .imm (AV.int .i64 i6))], []⟩) (fun (i7 : Int) (s5 : List UInt8) (i8 : Int) (s6 : List UInt8) => K (.exit 0) ⟨[(0, .imm (AV.int .i64 i7)), (1, .imm (AV.str s5)), (2, .imm (AV.int .u8 i8)), (7, .imm (AV.str s6))], []⟩) i4 s3 i5 s4 i6 := by
  kernel_rfl
theorem law11TailComments_L1_eq (R : Nat → List AV → Option Res) (N : Nat) (K : Ex → St → Option Res) : ∀ (n : Nat) (i4 : Int) (s3 : List UInt8) (i5 : Int) (s4 : List UInt8) (i6 : Int),
    rounds [0, 1, 2, 7, 8] [] (evC gl R N law11TailComments_c0) K n ⟨[(0, .imm (AV.int .i64 i4)), (1, .imm (AV.str s3)), (2, .imm (AV.int .u8 i5)), (7, .imm (AV.str s4)), (8, .imm (AV.int .i64 i6))], []⟩ = law11TailComments_L1 R N (fun (i7 : Int) (s5 : List UInt8) (i8 : Int) (s6 : List UInt8) => K (.exit 0) ⟨[(0, .imm (AV.int .i64 i7)), (1, .imm (AV.str s5)), (2, .imm (AV.int .u8 i8)), (7, .imm (AV.str s6))], []⟩) n i4 s3 i5 s4 i6
  | 0, _, _, _, _, _ => rfl
  | n + 1, i4, s3, i5, s4, i6 => (law11TailComments_L1s_eq R N K (rounds [0, 1, 2, 7, 8] [] (evC gl R N law11TailComments_c0) K n) i4 s3 i5 s4 i6).trans
      (congrArg (fun go => law11TailComments_L1s R N go (fun (i7 : Int) (s5 : List UInt8) (i8 : Int) (s6 : List UInt8) => K (.exit 0) ⟨[(0, .imm (AV.int .i64 i7)), (1, .imm (AV.str s5)), (2, .imm (AV.int .u8 i8)), (7, .imm (AV.str s6))], []⟩) i4 s3 i5 s4 i6) (funext fun i4 => funext fun s3 => funext fun i5 => funext fun s4 => funext fun i6 => law11TailComments_L1_eq R N K n i4 s3 i5 s4 i6))
def law11TailComments_c1 : AC := .seq (.region [.op (some 23) none (.mv (.t 7)), .op (some 24) none (.bin .add (.t 23) (.k (AV.str ([35] : List UInt8)))), .op (some 25) none (.mv (.t 1)), .op (some 26) none (.bin .add (.t 24) (.t 25)), .op (some 27) none (.cvBytes (.t 26)), .op (some 28) none (.call id_tailComment [.t 27] (.tup [.int .i64, .bool])), .op (some 22) none (.mv (.t 28)), .op (some 29) none (.extract (.t 22) 0), .op (some 30) none (.extract (.t 22) 1), .op (some 9) none (.mv (.t 29)), .op (some 10) none (.mv (.t 30))]) (.seq (.seq (.region [.op (some 31) none (.mv (.t 7)), .op (some 32) none (.cvBytes (.t 31)), .op (some 33) none (.call id_tailClear [.t 32] (.bool)), .op (some 34) none (.un .not (.t 33)), .op (some 35) none (.mv (.t 34)), .split 35, .op (some 36) (some (35, false)) (.mv (.t 7)), .op (some 37) (some (35, false)) (.bin .add (.t 36) (.k (AV.str ([35] : List UInt8)))), .op (some 38) (some (35, false)) (.mv (.t 1)), .op (some 39) (some (35, false)) (.bin .add (.t 37) (.t 38)), .op (some 40) (some (35, false)) (.cvBytes (.t 39)), .op (some 41) (some (35, false)) (.call id_tailClear [.t 40] (.bool)), .op (some 42) (some (35, false)) (.mv (.t 0)), .op (some 43) (some (35, false)) (.bin .gtr (.t 42) (.k (AV.int .i64 0))), .op (some 44) (some (35, false)) (.binB .neq (.t 41) (.t 43)), .op (some 45) none (.pick (.t 35) (.k (AV.bool true)) (.t 44)), .op (some 46) none (.mv (.t 45)), .split 46, .op (some 47) (some (46, false)) (.mv (.t 10)), .op (some 48) (some (46, false)) (.mv (.t 0)), .op (some 49) (some (46, false)) (.bin .gtr (.t 48) (.k (AV.int .i64 0))), .op (some 50) (some (46, false)) (.binB .neq (.t 47) (.t 49)), .op (some 51) none (.pick (.t 46) (.k (AV.bool true)) (.t 50)), .op (some 52) none (.mv (.t 51)), .split 52, .op (some 53) (some (52, false)) (.mv (.t 10)), .op (some 54) (some (52, false)) (.mv (.t 53)), .split 54, .op (some 55) (some (54, true)) (.mv (.t 9)), .op (some 56) (some (54, true)) (.mv (.t 0)), .op (some 57) (some (54, true)) (.bin .neq (.t 55) (.t 56)), .op (some 58) (some (52, false)) (.pick (.t 54) (.t 57) (.k (AV.bool false))), .op (some 59) none (.pick (.t 52) (.k (AV.bool true)) (.t 58))]) (.cond (.t 59) (.seq (.region [.op (some 6) none (.mv (.k (AV.bool false)))]) (.ret [6] [])) (.skip))) (.seq (.seq (.region [.op (some 60) none (.mv (.t 2)), .op (some 61) none (.bin .eql (.t 60) (.k (AV.int .u8 32))), .op (some 62) none (.mv (.t 61)), .split 62, .op (some 63) (some (62, false)) (.mv (.t 2)), .op (some 64) (some (62, false)) (.bin .eql (.t 63) (.k (AV.int .u8 35))), .op (some 65) none (.pick (.t 62) (.k (AV.bool true)) (.t 64))]) (.cond (.t 65) (.seq (.region [.op (some 66) none (.call id_law11Wakes [] (.bool)), .op (some 6) none (.mv (.t 66))]) (.ret [6] [])) (.skip))) (.seq (.region [.op (some 67) none (.mv (.t 7)), .op (some 68) none (.mv (.t 2)), .op (some 69) none (.bslice [.t 68] 1 true), .op (some 70) none (.cvStr (.t 69)), .op (some 71) none (.bin .add (.t 67) (.t 70)), .op (some 72) none (.mv (.t 1)), .op (some 73) none (.bin .add (.t 71) (.t 72)), .op (some 74) none (.cvBytes (.t 73)), .op (some 75) none (.call id_tailClear [.t 74] (.bool)), .op (some 76) none (.un .not (.t 75)), .op (some 77) none (.mv (.t 76)), .split 77, .op (some 78) (some (77, true)) (.mv (.t 7)), .op (some 79) (some (77, true)) (.bin .add (.k (AV.str ([45, 45, 45] : List UInt8))) (.t 78)), .op (some 80) (some (77, true)) (.cvBytes (.t 79)), .op (some 81) (some (77, true)) (.call id_tailMarker [.t 80] (.int .i64)), .op (some 82) (some (77, true)) (.bin .eql (.t 81) (.k (AV.int .i64 1))), .op (some 83) none (.pick (.t 77) (.t 82) (.k (AV.bool false))), .op (some 84) none (.mv (.t 83)), .split 84, .op (some 85) (some (84, true)) (.mv (.t 7)), .op (some 86) (some (84, true)) (.bin .add (.k (AV.str ([46, 46, 46] : List UInt8))) (.t 85)), .op (some 87) (some (84, true)) (.cvBytes (.t 86)), .op (some 88) (some (84, true)) (.call id_tailMarker [.t 87] (.int .i64)), .op (some 89) (some (84, true)) (.bin .eql (.t 88) (.k (AV.int .i64 2))), .op (some 90) none (.pick (.t 84) (.t 89) (.k (AV.bool false))), .op (some 91) none (.mv (.t 90)), .split 91, .op (some 92) (some (91, true)) (.mv (.t 7)), .op (some 93) (some (91, true)) (.bin .add (.k (AV.str ([45, 45] : List UInt8))) (.t 92)), .op (some 94) (some (91, true)) (.cvBytes (.t 93)), .op (some 95) (some (91, true)) (.call id_tailMarker [.t 94] (.int .i64)), .op (some 96) (some (91, true)) (.bin .eql (.t 95) (.k (AV.int .i64 0))), .op (some 97) none (.pick (.t 91) (.t 96) (.k (AV.bool false))), .op (some 98) none (.mv (.t 97)), .split 98, .op (some 99) (some (98, true)) (.mv (.t 1)), .op (some 100) (some (98, true)) (.bin .add (.k (AV.str ([45, 45, 45, 32, 120] : List UInt8))) (.t 99)), .op (some 101) (some (98, true)) (.cvBytes (.t 100)), .op (some 102) (some (98, true)) (.call id_tailMarker [.t 101] (.int .i64)), .op (some 103) (some (98, true)) (.bin .eql (.t 102) (.k (AV.int .i64 3))), .op (some 104) none (.pick (.t 98) (.t 103) (.k (AV.bool false))), .op (some 105) none (.mv (.t 104)), .split 105, .op (some 106) (some (105, true)) (.mv (.t 1)), .op (some 107) (some (105, true)) (.bin .add (.k (AV.str ([45, 45, 45, 120] : List UInt8))) (.t 106)), .op (some 108) (some (105, true)) (.cvBytes (.t 107)), .op (some 109) (some (105, true)) (.call id_tailMarker [.t 108] (.int .i64)), .op (some 110) (some (105, true)) (.bin .eql (.t 109) (.k (AV.int .i64 0))), .op (some 111) none (.pick (.t 105) (.t 110) (.k (AV.bool false))), .op (some 112) none (.mv (.t 111)), .split 112, .op (some 113) (some (112, true)) (.mv (.t 7)), .op (some 114) (some (112, true)) (.bin .add (.k (AV.str ([32, 45, 45, 45] : List UInt8))) (.t 113)), .op (some 115) (some (112, true)) (.cvBytes (.t 114)), .op (some 116) (some (112, true)) (.call id_tailMarker [.t 115] (.int .i64)), .op (some 117) (some (112, true)) (.bin .eql (.t 116) (.k (AV.int .i64 0))), .op (some 118) none (.pick (.t 112) (.t 117) (.k (AV.bool false))), .op (some 119) none (.mv (.t 118)), .split 119, .op (some 120) (some (119, true)) (.call id_law11Wakes [] (.bool)), .op (some 121) none (.pick (.t 119) (.t 120) (.k (AV.bool false))), .op (some 6) none (.mv (.t 121))]) (.ret [6] []))))
def law11TailComments_c2 : AC := .seq (.region [.op (some 6) none (.mv (.k (AV.bool false)))]) (.seq (.region [.op (some 11) none (.mv (.t 0)), .op (some 12) none (.call id_keepWithin [.t 11, .k (AV.int .i64 6)] (.int .i64)), .op (some 13) none (.mv (.t 1)), .op (some 14) none (.call id_keepText [.t 13, .k (AV.int .i64 20)] (.str)), .op (some 0) none (.mv (.t 12)), .op (some 1) none (.mv (.t 14))]) (.seq (.region [.op (some 7) none (.mv (.k (AV.str ([] : List UInt8))))]) (.seq (.seq (.region [.op (some 8) none (.mv (.k (AV.int .i64 0)))]) (.block 0 (.loop [0, 1, 2, 7, 8] [] (law11TailComments_c0)))) (law11TailComments_c1))))
def law11TailComments : AFunc := ⟨3, 122, [.tmp 6], law11TailComments_c2⟩
def law11TailCommentsr (R : Nat → List AV → Option Res) (N : Nat) (i1 : Int) (s1 : List UInt8) (i2 : Int) : Option Res :=
  (R id_keepWithin [AV.int .i64 i1, AV.int .i64 6]).bind fun r1 =>
  asI .i64 r1.v fun i3 =>
  (R id_keepText [AV.str s1, AV.int .i64 20]).bind fun r2 =>
  asS r2.v fun s2 =>
  law11TailComments_L1 R N
    (fun i11 s9 i12 s10 =>
      need (decide (s10.length + (([35] : List UInt8) : List UInt8).length ≤ 9223372036854775807)) <|
      need (decide ((s10 ++ ([35] : List UInt8)).length + s9.length ≤ 9223372036854775807)) <|
      (R id_tailComment [AV.bytes ((s10 ++ ([35] : List UInt8)) ++ s9)]).bind fun r3 =>
      asIBT r3.v fun i13 b1 =>
      (R id_tailClear [AV.bytes s10]).bind fun r4 =>
      asB r4.v fun b2 =>
      bif !b2 then
        (some ⟨AV.bool false, false, []⟩)
      else
        need (decide (s10.length + (([35] : List UInt8) : List UInt8).length ≤ 9223372036854775807)) <|
        need (decide ((s10 ++ ([35] : List UInt8)).length + s9.length ≤ 9223372036854775807)) <|
        (R id_tailClear [AV.bytes ((s10 ++ ([35] : List UInt8)) ++ s9)]).bind fun r5 =>
        asB r5.v fun b3 =>
        bif !(b3 == (decide ((i11 : Int) > 0))) then
          (some ⟨AV.bool false, false, []⟩)
        else
          bif !(b1 == (decide ((i11 : Int) > 0))) then
            (some ⟨AV.bool false, false, []⟩)
          else
            bif b1 then
              (bif (i13 : Int) != i11 then
                (some ⟨AV.bool false, false, []⟩)
              else
                bif (i12 : Int) == 32 then
                  ((R id_law11Wakes []).bind fun r6 =>
                  asB r6.v fun b4 =>
                  some ⟨AV.bool b4, false, []⟩)
                else
                  bif (i12 : Int) == 35 then
                    ((R id_law11Wakes []).bind fun r7 =>
                    asB r7.v fun b5 =>
                    some ⟨AV.bool b5, false, []⟩)
                  else
                    need (decide (0 ≤ (i12 : Int)) && decide ((i12 : Int) < 256)) <|
                    need (decide (s10.length + ([UInt8.ofNat (Int.toNat i12)] : List UInt8).length ≤ 9223372036854775807)) <|
                    need (decide ((s10 ++ [UInt8.ofNat (Int.toNat i12)]).length + s9.length ≤ 9223372036854775807)) <|
                    (R id_tailClear [AV.bytes ((s10 ++ [UInt8.ofNat (Int.toNat i12)]) ++ s9)]).bind fun r8 =>
                    asB r8.v fun b6 =>
                    bif !b6 then
                      (need (decide ((([45, 45, 45] : List UInt8) : List UInt8).length + s10.length ≤ 9223372036854775807)) <|
                      (R id_tailMarker [AV.bytes (([45, 45, 45] : List UInt8) ++ s10)]).bind fun r9 =>
                      asI .i64 r9.v fun i14 =>
                      bif (i14 : Int) == 1 then
                        (need (decide ((([46, 46, 46] : List UInt8) : List UInt8).length + s10.length ≤ 9223372036854775807)) <|
                        (R id_tailMarker [AV.bytes (([46, 46, 46] : List UInt8) ++ s10)]).bind fun r10 =>
                        asI .i64 r10.v fun i15 =>
                        bif (i15 : Int) == 2 then
                          (need (decide ((([45, 45] : List UInt8) : List UInt8).length + s10.length ≤ 9223372036854775807)) <|
                          (R id_tailMarker [AV.bytes (([45, 45] : List UInt8) ++ s10)]).bind fun r11 =>
                          asI .i64 r11.v fun i16 =>
                          bif (i16 : Int) == 0 then
                            (need (decide ((([45, 45, 45, 32, 120] : List UInt8) : List UInt8).length + s9.length ≤ 9223372036854775807)) <|
                            (R id_tailMarker [AV.bytes (([45, 45, 45, 32, 120] : List UInt8) ++ s9)]).bind fun r12 =>
                            asI .i64 r12.v fun i17 =>
                            bif (i17 : Int) == 3 then
                              (need (decide ((([45, 45, 45, 120] : List UInt8) : List UInt8).length + s9.length ≤ 9223372036854775807)) <|
                              (R id_tailMarker [AV.bytes (([45, 45, 45, 120] : List UInt8) ++ s9)]).bind fun r13 =>
                              asI .i64 r13.v fun i18 =>
                              bif (i18 : Int) == 0 then
                                (need (decide ((([32, 45, 45, 45] : List UInt8) : List UInt8).length + s10.length ≤ 9223372036854775807)) <|
                                (R id_tailMarker [AV.bytes (([32, 45, 45, 45] : List UInt8) ++ s10)]).bind fun r14 =>
                                asI .i64 r14.v fun i19 =>
                                bif (i19 : Int) == 0 then
                                  ((R id_law11Wakes []).bind fun r15 =>
                                  asB r15.v fun b7 =>
                                  some ⟨AV.bool b7, false, []⟩)
                                else
                                  some ⟨AV.bool false, false, []⟩)
                              else
                                some ⟨AV.bool false, false, []⟩)
                            else
                              some ⟨AV.bool false, false, []⟩)
                          else
                            some ⟨AV.bool false, false, []⟩)
                        else
                          some ⟨AV.bool false, false, []⟩)
                      else
                        some ⟨AV.bool false, false, []⟩)
                    else
                      some ⟨AV.bool false, false, []⟩)
            else
              bif (i12 : Int) == 32 then
                ((R id_law11Wakes []).bind fun r16 =>
                asB r16.v fun b8 =>
                some ⟨AV.bool b8, false, []⟩)
              else
                bif (i12 : Int) == 35 then
                  ((R id_law11Wakes []).bind fun r17 =>
                  asB r17.v fun b9 =>
                  some ⟨AV.bool b9, false, []⟩)
                else
                  need (decide (0 ≤ (i12 : Int)) && decide ((i12 : Int) < 256)) <|
                  need (decide (s10.length + ([UInt8.ofNat (Int.toNat i12)] : List UInt8).length ≤ 9223372036854775807)) <|
                  need (decide ((s10 ++ [UInt8.ofNat (Int.toNat i12)]).length + s9.length ≤ 9223372036854775807)) <|
                  (R id_tailClear [AV.bytes ((s10 ++ [UInt8.ofNat (Int.toNat i12)]) ++ s9)]).bind fun r18 =>
                  asB r18.v fun b10 =>
                  bif !b10 then
                    (need (decide ((([45, 45, 45] : List UInt8) : List UInt8).length + s10.length ≤ 9223372036854775807)) <|
                    (R id_tailMarker [AV.bytes (([45, 45, 45] : List UInt8) ++ s10)]).bind fun r19 =>
                    asI .i64 r19.v fun i20 =>
                    bif (i20 : Int) == 1 then
                      (need (decide ((([46, 46, 46] : List UInt8) : List UInt8).length + s10.length ≤ 9223372036854775807)) <|
                      (R id_tailMarker [AV.bytes (([46, 46, 46] : List UInt8) ++ s10)]).bind fun r20 =>
                      asI .i64 r20.v fun i21 =>
                      bif (i21 : Int) == 2 then
                        (need (decide ((([45, 45] : List UInt8) : List UInt8).length + s10.length ≤ 9223372036854775807)) <|
                        (R id_tailMarker [AV.bytes (([45, 45] : List UInt8) ++ s10)]).bind fun r21 =>
                        asI .i64 r21.v fun i22 =>
                        bif (i22 : Int) == 0 then
                          (need (decide ((([45, 45, 45, 32, 120] : List UInt8) : List UInt8).length + s9.length ≤ 9223372036854775807)) <|
                          (R id_tailMarker [AV.bytes (([45, 45, 45, 32, 120] : List UInt8) ++ s9)]).bind fun r22 =>
                          asI .i64 r22.v fun i23 =>
                          bif (i23 : Int) == 3 then
                            (need (decide ((([45, 45, 45, 120] : List UInt8) : List UInt8).length + s9.length ≤ 9223372036854775807)) <|
                            (R id_tailMarker [AV.bytes (([45, 45, 45, 120] : List UInt8) ++ s9)]).bind fun r23 =>
                            asI .i64 r23.v fun i24 =>
                            bif (i24 : Int) == 0 then
                              (need (decide ((([32, 45, 45, 45] : List UInt8) : List UInt8).length + s10.length ≤ 9223372036854775807)) <|
                              (R id_tailMarker [AV.bytes (([32, 45, 45, 45] : List UInt8) ++ s10)]).bind fun r24 =>
                              asI .i64 r24.v fun i25 =>
                              bif (i25 : Int) == 0 then
                                ((R id_law11Wakes []).bind fun r25 =>
                                asB r25.v fun b11 =>
                                some ⟨AV.bool b11, false, []⟩)
                              else
                                some ⟨AV.bool false, false, []⟩)
                            else
                              some ⟨AV.bool false, false, []⟩)
                          else
                            some ⟨AV.bool false, false, []⟩)
                        else
                          some ⟨AV.bool false, false, []⟩)
                      else
                        some ⟨AV.bool false, false, []⟩)
                    else
                      some ⟨AV.bool false, false, []⟩)
                  else
                    some ⟨AV.bool false, false, []⟩)
    N i3 s2 i2 ([] : List UInt8) 0
theorem law11TailComments_eq (R : Nat → List AV → Option Res) (N : Nat) (i1 : Int) (s1 : List UInt8) (i2 : Int) : runF gl R N law11TailComments [AV.int .i64 i1, AV.str s1, AV.int .u8 i2] = law11TailCommentsr R N i1 s1 i2 := by
  refine Eq.trans (b :=
      (R id_keepWithin [AV.int .i64 i1, AV.int .i64 6]).bind fun r1 =>
      asI .i64 r1.v fun i3 =>
      (R id_keepText [AV.str s1, AV.int .i64 20]).bind fun r2 =>
      asS r2.v fun s2 =>
      rounds [0, 1, 2, 7, 8] [] (evC gl R N law11TailComments_c0) (Kblock 0 (Kthen gl R N law11TailComments_c1 (Kret law11TailComments.rets []))) N ⟨[(0, .imm (AV.int .i64 i3)), (1, .imm (AV.str s2)), (2, .imm (AV.int .u8 i2)), (7, .imm (AV.str ([] : List UInt8))), (8, .imm (AV.int .i64 0))], []⟩) (by kernel_rfl) ?_
  simp (config := { maxSteps := 100000000 }) only [law11TailComments_L1_eq]
  kernel_rfl
theorem law11TailComments_fit : fitF Tryd.prog law11TailComments Tryd.f10 = true := by
  kernel_rfl

def table : List (Nat × AFunc) := [(id_keepText, keepText), (id_internalStringsliteIndexByte, internalStringsliteIndexByte), (id_stringsIndexByte, stringsIndexByte), (id_unicodeUtf8DecodeRuneSlow, unicodeUtf8DecodeRuneSlow), (id_unicodeUtf8DecodeRune, unicodeUtf8DecodeRune), (id_charsRune, charsRune), (id_charsPrintable, charsPrintable), (id_keepWithin, keepWithin), (id_keepLend, keepLend), (id_ref01In, ref01In), (id_ref01PlainStarts, ref01PlainStarts), (id_ref01PlainLength, ref01PlainLength), (id_ref01Rune, ref01Rune), (id_ref01Printable, ref01Printable), (id_ref01Clean, ref01Clean), (id_ref01PlainValid, ref01PlainValid), (id_keepIntact, keepIntact), (id_slicesCloneByteByte, slicesCloneByteByte), (id_bytesTrimLeftByte, bytesTrimLeftByte), (id_bytesMakeASCIISet, bytesMakeASCIISet), (id_bytesContainsRune, bytesContainsRune), (id_bytesTrimLeftUnicode, bytesTrimLeftUnicode), (id_bytesTrimLeft, bytesTrimLeft), (id_tailRest, tailRest), (id_tailComment, tailComment), (id_tailClear, tailClear), (id_bytesEqual, bytesEqual), (id_bytesHasPrefix, bytesHasPrefix), (id_bytesCutPrefix, bytesCutPrefix), (id_tailMarker, tailMarker), (id_law11Wakes, law11Wakes), (id_law11TailMarkers, law11TailMarkers), (id_keepSameByte, keepSameByte), (id_law11TailRests, law11TailRests), (id_ref08Blanks, ref08Blanks), (id_ref08Clear, ref08Clear), (id_ref08Comment, ref08Comment), (id_ref08Marker, ref08Marker), (id_law11TailTells, law11TailTells), (id_law11TailComments, law11TailComments)]
theorem table_fits : Fits Tryd.prog table := ⟨⟨_, Tryd.func11, keepText_fit⟩, ⟨_, Tryd.func46, internalStringsliteIndexByte_fit⟩, ⟨_, Tryd.func36, stringsIndexByte_fit⟩, ⟨_, Tryd.func54, unicodeUtf8DecodeRuneSlow_fit⟩, ⟨_, Tryd.func44, unicodeUtf8DecodeRune_fit⟩, ⟨_, Tryd.func32, charsRune_fit⟩, ⟨_, Tryd.func33, charsPrintable_fit⟩, ⟨_, Tryd.func13, keepWithin_fit⟩, ⟨_, Tryd.func17, keepLend_fit⟩, ⟨_, Tryd.func38, ref01In_fit⟩, ⟨_, Tryd.func18, ref01PlainStarts_fit⟩, ⟨_, Tryd.func19, ref01PlainLength_fit⟩, ⟨_, Tryd.func47, ref01Rune_fit⟩, ⟨_, Tryd.func48, ref01Printable_fit⟩, ⟨_, Tryd.func39, ref01Clean_fit⟩, ⟨_, Tryd.func20, ref01PlainValid_fit⟩, ⟨_, Tryd.func21, keepIntact_fit⟩, ⟨_, Tryd.func41, slicesCloneByteByte_fit⟩, ⟨_, Tryd.func50, bytesTrimLeftByte_fit⟩, ⟨_, Tryd.func51, bytesMakeASCIISet_fit⟩, ⟨_, Tryd.func58, bytesContainsRune_fit⟩, ⟨_, Tryd.func53, bytesTrimLeftUnicode_fit⟩, ⟨_, Tryd.func42, bytesTrimLeft_fit⟩, ⟨_, Tryd.func24, tailRest_fit⟩, ⟨_, Tryd.func27, tailComment_fit⟩, ⟨_, Tryd.func29, tailClear_fit⟩, ⟨_, Tryd.func56, bytesEqual_fit⟩, ⟨_, Tryd.func49, bytesHasPrefix_fit⟩, ⟨_, Tryd.func40, bytesCutPrefix_fit⟩, ⟨_, Tryd.func22, tailMarker_fit⟩, ⟨_, Tryd.func23, law11Wakes_fit⟩, ⟨_, Tryd.func7, law11TailMarkers_fit⟩, ⟨_, Tryd.func25, keepSameByte_fit⟩, ⟨_, Tryd.func8, law11TailRests_fit⟩, ⟨_, Tryd.func43, ref08Blanks_fit⟩, ⟨_, Tryd.func30, ref08Clear_fit⟩, ⟨_, Tryd.func28, ref08Comment_fit⟩, ⟨_, Tryd.func31, ref08Marker_fit⟩, ⟨_, Tryd.func9, law11TailTells_fit⟩, ⟨_, Tryd.func10, law11TailComments_fit⟩, trivial⟩
theorem table_fit : ∀ f F, get table f = some F → ∃ fn, Tryd.prog.funcs[f]? = some fn ∧ fitF Tryd.prog F fn = true := table_fits.get
end Go.Proofs.YtojfiifjjgfpaaaDoor.Vf
