/- The code of the functions that the statements reach, as our evaluator takes it, and what each of them comes to, readably: printed by a program of ours. No condition. -/
import Derived.Test.YthdefengmkcacaaDoorVfWalk1
namespace Go.Proofs.YthdefengmkcacaaDoor.Vf
set_option linter.unusedVariables false
set_option linter.unusedSimpArgs false
set_option maxRecDepth 100000
variable (R : Nat → List AV → Option Res) (N : Nat) (K : Ex → St → Option Res) (W : St → Option Res)


def ref18Valid_J11 (R : RT) (N : Nat) (k0 : LA → Int → Int → Int → Int → Int → LA → Int → Int → Int → LB → LB → LA → OR) (l33 : LA) (i63 i64 : Int) (i65 i66 i67 : Int) (l34 : LA) (i68 i69 i70 : Int) (s29 s30 : LB) (l35 : LA) : OR :=
  posN N <|
  k0 l33 i63 i64 (IntKind.i64.wrap (i65 + 2)) i66 i67 l34 i68 i69 i70 s29 s30 l35
def ref18Valid_c0 : AC := .region [oM 114 7, oP 115 (.bin .add (.t 114) (.k (.int .i64 2))), oM 7 115]
def ref18Valid_c1 : AC := .meet [0, 4, 5, 6, 7, 10, 11, 82, 83, 84] [1004] ref18Valid_c0
theorem ref18Valid_J11_eq (k0 : LA → Int → Int → Int → Int → Int → LA → Int → Int → Int → LB → LB → LA → OR) (h0 : ∀ (l42 : LA) (i87 i88 : Int) (i89 i90 i91 : Int) (l43 : LA) (i92 i93 i94 : Int) (s35 s36 : LB) (l44 : LA), K .normal ⟨[vR 0 4 l42, (4, .ptr 1004 0 0), vI 5 i87, vI 6 i88, vI 7 i89, vI 10 i90, vI 11 i91, vR 82 1 l43, vI 83 i92, vI 84 i93], [(1004, .box [.imm (AV.int .i64 i94), .imm (AV.str s35), .imm (AV.str s36), .imm (AV.row 1 l44)])]⟩ = k0 l42 i87 i88 i89 i90 i91 l43 i92 i93 i94 s35 s36 l44) (l33 : LA) (i63 i64 : Int) (i65 i66 i67 : Int) (l34 : LA) (i68 i69 i70 : Int) (s29 s30 : LB) (l35 : LA) : ref18Valid_J11 R N k0 l33 i63 i64 i65 i66 i67 l34 i68 i69 i70 s29 s30 l35 =
    runJ [0, 4, 5, 6, 7, 10, 11, 82, 83, 84] [1004] (evC gl R N ref18Valid_c0) K N ⟨[vR 0 4 l33, (4, .ptr 1004 0 0), vI 5 i63, vI 6 i64, vI 7 i65, vI 10 i66, vI 11 i67, vR 82 1 l34, vI 83 i68, vI 84 i69], [(1004, .box [.imm (AV.int .i64 i70), .imm (AV.str s29), .imm (AV.str s30), .imm (AV.row 1 l35)])]⟩ := by
  unfold ref18Valid_J11
  refine (congrArg (posN N) ?_).trans (runJ_eq _ _ _ _ _ _).symm
  simp (disch := (intros; refine id ?_; kernel_rfl)) only [← h0]
  kernel_rfl
def ref18Valid_J10 (R : RT) (N : Nat) (k0 : Bool → OR) (k1 : LA → Int → Int → Int → Int → Int → LA → Int → Int → Int → LB → LB → LA → OR) (l26 : LA) (i50 i51 : Int) (i52 i53 i54 : Int) (l27 : LA) (i55 i56 i57 : Int) (s19 s20 : LB) (l28 : LA) : OR :=
  posN N <|
  need (decide (0 ≤ (i52 : Int))) <|
  (l28[Int.toNat i52]?).bind fun e4 =>
  asI .i64 e4 fun i58 =>
  bif decide ((i58 : Int) ≥ 0) then
    (bif decide ((i58 : Int) < ((l26.length : Nat) : Int)) then
    (need (decide (0 ≤ (i58 : Int))) <|
    (l26[Int.toNat i58]?).bind fun e5 =>
    asISSRA e5 fun i59 s21 s22 l29 =>
    need (decide (0 ≤ (i51 : Int))) <|
    (l26[Int.toNat i51]?).bind fun e6 =>
    asISSRA e6 fun i60 s23 s24 l30 =>
    bif s21 == s23 then
    (need (decide (0 ≤ (i58 : Int))) <|
    (l26[Int.toNat i58]?).bind fun e7 =>
    asISSRA e7 fun i61 s25 s26 l31 =>
    need (decide (0 ≤ (i51 : Int))) <|
    (l26[Int.toNat i51]?).bind fun e8 =>
    asISSRA e8 fun i62 s27 s28 l32 =>
    bif s26 == s28 then
    (k0 false)
    else
    ref18Valid_J11 R N
      (fun l45 i95 i96 i97 i98 i99 l46 i100 i101 i102 s37 s38 l47 =>
    k1 l45 i95 i96 i97 i98 i99 l46 i100 i101 i102 s37 s38 l47)
       l26 i50 i51 i52 i53 i54 l27 i55 i56 i57 s19 s20 l28)
    else
    ref18Valid_J11 R N
      (fun l48 i103 i104 i105 i106 i107 l49 i108 i109 i110 s39 s40 l50 =>
    k1 l48 i103 i104 i105 i106 i107 l49 i108 i109 i110 s39 s40 l50)
       l26 i50 i51 i52 i53 i54 l27 i55 i56 i57 s19 s20 l28)
    else
    ref18Valid_J11 R N
      (fun l51 i111 i112 i113 i114 i115 l52 i116 i117 i118 s41 s42 l53 =>
    k1 l51 i111 i112 i113 i114 i115 l52 i116 i117 i118 s41 s42 l53)
       l26 i50 i51 i52 i53 i54 l27 i55 i56 i57 s19 s20 l28)
  else
    ref18Valid_J11 R N
      (fun l54 i119 i120 i121 i122 i123 l55 i124 i125 i126 s43 s44 l56 =>
    k1 l54 i119 i120 i121 i122 i123 l55 i124 i125 i126 s43 s44 l56)
       l26 i50 i51 i52 i53 i54 l27 i55 i56 i57 s19 s20 l28
def ref18Valid_c2 : AC := .seq (.join [0, 4, 5, 6, 7, 10, 11, 82, 83, 84] [1004] (.block 5 (.seq (.region [oP 116 (.faddr (.t 4) 3), oP 117 (.load (.t 116) none (.row 1)), oM 118 7, oP 119 (.iaddr (.t 117) (.t 118) 1 tI), oP 120 (.load (.t 119) none tI), oM 8 120]) (.seq (.regionD [0, 4, 5, 6, 7, 10, 11, 82, 83, 84, 154] [1004] [oM 121 8, oP 122 (.bin .geq (.t 121) (.k (.int .i64 0))), oM 123 122, .split 123, oG 124 123 true (.mv (.t 8)), oG 125 123 true (.mv (.t 0)), oG 126 123 true (.len (.t 125) false), oG 127 123 true (.bin .lss (.t 124) (.t 126)), oP 128 (.pick (.t 123) (.t 127) (.k (.bool false))), oM 129 128, .split 129, oG 130 129 true (.mv (.t 0)), oG 131 129 true (.mv (.t 8)), oG 132 129 true (.iaddr (.t 130) (.t 131) 4 tT), oG 133 129 true (.faddr (.t 132) 1), oG 134 129 true (.load (.t 133) none (.str)), oG 135 129 true (.mv (.t 0)), oG 136 129 true (.mv (.t 6)), oG 137 129 true (.iaddr (.t 135) (.t 136) 4 tT), oG 138 129 true (.faddr (.t 137) 1), oG 139 129 true (.load (.t 138) none (.str)), oG 140 129 true (.bin .eql (.t 134) (.t 139)), oP 141 (.pick (.t 129) (.t 140) (.k (.bool false))), oM 142 141, .split 142, oG 143 142 true (.mv (.t 0)), oG 144 142 true (.mv (.t 8)), oG 145 142 true (.iaddr (.t 143) (.t 144) 4 tT), oG 146 142 true (.faddr (.t 145) 2), oG 147 142 true (.load (.t 146) none (.str)), oG 148 142 true (.mv (.t 0)), oG 149 142 true (.mv (.t 6)), oG 150 142 true (.iaddr (.t 148) (.t 149) 4 tT), oG 151 142 true (.faddr (.t 150) 2), oG 152 142 true (.load (.t 151) none (.str)), oG 153 142 true (.bin .eql (.t 147) (.t 152)), oP 154 (.pick (.t 142) (.t 153) (.k (.bool false)))] []) (.cond (.t 154) (.seq (.region [kB 2 false]) (.ret [2] [])) (.skip)))))) (ref18Valid_c1)
def ref18Valid_c3 : AC := .meet [0, 4, 5, 6, 7, 10, 11, 82, 83, 84] [1004] ref18Valid_c2
theorem ref18Valid_J10_eq (k0 : Bool → OR) (k1 : LA → Int → Int → Int → Int → Int → LA → Int → Int → Int → LB → LB → LA → OR) (h0 : ∀ (b5 : Bool), K .ret ⟨[vB 2 b5], []⟩ = k0 b5) (h1 : ∀ (l63 : LA) (i143 i144 : Int) (i145 i146 i147 : Int) (l64 : LA) (i148 i149 i150 : Int) (s49 s50 : LB) (l65 : LA), K .normal ⟨[vR 0 4 l63, (4, .ptr 1004 0 0), vI 5 i143, vI 6 i144, vI 7 i145, vI 10 i146, vI 11 i147, vR 82 1 l64, vI 83 i148, vI 84 i149], [(1004, .box [.imm (AV.int .i64 i150), .imm (AV.str s49), .imm (AV.str s50), .imm (AV.row 1 l65)])]⟩ = k1 l63 i143 i144 i145 i146 i147 l64 i148 i149 i150 s49 s50 l65) (l26 : LA) (i50 i51 : Int) (i52 i53 i54 : Int) (l27 : LA) (i55 i56 i57 : Int) (s19 s20 : LB) (l28 : LA) : ref18Valid_J10 R N k0 k1 l26 i50 i51 i52 i53 i54 l27 i55 i56 i57 s19 s20 l28 =
    runJ [0, 4, 5, 6, 7, 10, 11, 82, 83, 84] [1004] (evC gl R N ref18Valid_c2) K N ⟨[vR 0 4 l26, (4, .ptr 1004 0 0), vI 5 i50, vI 6 i51, vI 7 i52, vI 10 i53, vI 11 i54, vR 82 1 l27, vI 83 i55, vI 84 i56], [(1004, .box [.imm (AV.int .i64 i57), .imm (AV.str s19), .imm (AV.str s20), .imm (AV.row 1 l28)])]⟩ := by
  unfold ref18Valid_J10
  refine (congrArg (posN N) ?_).trans (runJ_eq _ _ _ _ _ _).symm
  simp (disch := (intros; refine id ?_; kernel_rfl)) only [← h0, ← h1, ref18Valid_J11_eq R N (Kjoin [0, 4, 5, 6, 7, 10, 11, 82, 83, 84] [1004] K)]
  kernel_rfl
def ref18Valid_L9s (R : RT) (N : Nat) (go : LA → Int → Int → Int → Int → Int → LA → Int → Int → Int → LB → LB → LA → OR) (k0 : Bool → OR) (k1 : LA → Int → Int → LA → Int → Int → Int → LB → LB → LA → OR) (l23 : LA) (i42 i43 : Int) (i44 i45 i46 : Int) (l24 : LA) (i47 i48 i49 : Int) (s17 s18 : LB) (l25 : LA) : OR :=
  bif decide ((i44 : Int) < i42) then
    (ref18Valid_J10 R N
      (fun b6 =>
    k0 b6)
      (fun l66 i151 i152 i153 i154 i155 l67 i156 i157 i158 s51 s52 l68 =>
    go l66 i151 i152 i153 i154 i155 l67 i156 i157 i158 s51 s52 l68)
       l23 i42 i43 i44 i45 i46 l24 i47 i48 i49 s17 s18 l25)
  else
    k1 l23 i45 i46 l24 i47 i48 i49 s17 s18 l25
def ref18Valid_L9 (R : RT) (N : Nat) (k0 : Bool → OR) (k1 : LA → Int → Int → LA → Int → Int → Int → LB → LB → LA → OR) : Nat → LA → Int → Int → Int → Int → Int → LA → Int → Int → Int → LB → LB → LA → OR
  | 0, _, _, _, _, _, _, _, _, _, _, _, _, _ => none
  | n + 1, l23, i42, i43, i44, i45, i46, l24, i47, i48, i49, s17, s18, l25 => ref18Valid_L9s R N (ref18Valid_L9 R N k0 k1 n) k0 k1 l23 i42 i43 i44 i45 i46 l24 i47 i48 i49 s17 s18 l25
def ref18Valid_c4 : AC := .seq (.join [0, 4, 5, 6, 7, 10, 11, 82, 83, 84] [1004] (.seq (.region [oM 111 7, oM 112 5, oP 113 (.bin .lss (.t 111) (.t 112))]) (.cond (.t 113) (.skip) (.exit 4 [0, 4, 10, 11, 82, 83, 84] [1004])))) (ref18Valid_c3)
theorem ref18Valid_L9s_eq (k0 : Bool → OR) (k1 : LA → Int → Int → LA → Int → Int → Int → LB → LB → LA → OR) (h0 : ∀ (b8 : Bool), K .ret ⟨[vB 2 b8], []⟩ = k0 b8) (h1 : ∀ (l72 : LA) (i164 i165 : Int) (l73 : LA) (i166 i167 i168 : Int) (s55 s56 : LB) (l74 : LA), K (.exit 4) ⟨[vR 0 4 l72, (4, .ptr 1004 0 0), vI 10 i164, vI 11 i165, vR 82 1 l73, vI 83 i166, vI 84 i167], [(1004, .box [.imm (AV.int .i64 i168), .imm (AV.str s55), .imm (AV.str s56), .imm (AV.row 1 l74)])]⟩ = k1 l72 i164 i165 l73 i166 i167 i168 s55 s56 l74) (l23 : LA) (i42 i43 : Int) (i44 i45 i46 : Int) (l24 : LA) (i47 i48 i49 : Int) (s17 s18 : LB) (l25 : LA) : ref18Valid_L9s R N (fun (l23 : LA) (i42 i43 : Int) (i44 i45 i46 : Int) (l24 : LA) (i47 i48 i49 : Int) (s17 s18 : LB) (l25 : LA) => W ⟨[vR 0 4 l23, (4, .ptr 1004 0 0), vI 5 i42, vI 6 i43, vI 7 i44, vI 10 i45, vI 11 i46, vR 82 1 l24, vI 83 i47, vI 84 i48], [(1004, .box [.imm (AV.int .i64 i49), .imm (AV.str s17), .imm (AV.str s18), .imm (AV.row 1 l25)])]⟩) k0 k1 l23 i42 i43 i44 i45 i46 l24 i47 i48 i49 s17 s18 l25 =
    evC gl R N ref18Valid_c4 (Kseq (fun st' => W (prune [0, 4, 5, 6, 7, 10, 11, 82, 83, 84] [1004] st')) K) ⟨[vR 0 4 l23, (4, .ptr 1004 0 0), vI 5 i42, vI 6 i43, vI 7 i44, vI 10 i45, vI 11 i46, vR 82 1 l24, vI 83 i47, vI 84 i48], [(1004, .box [.imm (AV.int .i64 i49), .imm (AV.str s17), .imm (AV.str s18), .imm (AV.row 1 l25)])]⟩ := by
  unfold ref18Valid_L9s
  simp (disch := (intros; refine id ?_; kernel_rfl)) only [← h0, ← h1, ref18Valid_J10_eq R N (Kseq (fun st' => W (prune [0, 4, 5, 6, 7, 10, 11, 82, 83, 84] [1004] st')) K)]
  kernel_rfl
theorem ref18Valid_L9_eq (k0 : Bool → OR) (k1 : LA → Int → Int → LA → Int → Int → Int → LB → LB → LA → OR) (h0 : ∀ (b8 : Bool), K .ret ⟨[vB 2 b8], []⟩ = k0 b8) (h1 : ∀ (l72 : LA) (i164 i165 : Int) (l73 : LA) (i166 i167 i168 : Int) (s55 s56 : LB) (l74 : LA), K (.exit 4) ⟨[vR 0 4 l72, (4, .ptr 1004 0 0), vI 10 i164, vI 11 i165, vR 82 1 l73, vI 83 i166, vI 84 i167], [(1004, .box [.imm (AV.int .i64 i168), .imm (AV.str s55), .imm (AV.str s56), .imm (AV.row 1 l74)])]⟩ = k1 l72 i164 i165 l73 i166 i167 i168 s55 s56 l74) : ∀ (n : Nat) (l23 : LA) (i42 i43 : Int) (i44 i45 i46 : Int) (l24 : LA) (i47 i48 i49 : Int) (s17 s18 : LB) (l25 : LA), ref18Valid_L9 R N k0 k1 n l23 i42 i43 i44 i45 i46 l24 i47 i48 i49 s17 s18 l25 = rounds [0, 4, 5, 6, 7, 10, 11, 82, 83, 84] [1004] (evC gl R N ref18Valid_c4) K n ⟨[vR 0 4 l23, (4, .ptr 1004 0 0), vI 5 i42, vI 6 i43, vI 7 i44, vI 10 i45, vI 11 i46, vR 82 1 l24, vI 83 i47, vI 84 i48], [(1004, .box [.imm (AV.int .i64 i49), .imm (AV.str s17), .imm (AV.str s18), .imm (AV.row 1 l25)])]⟩
  | 0, _, _, _, _, _, _, _, _, _, _, _, _, _ => rfl
  | n + 1, l23, i42, i43, i44, i45, i46, l24, i47, i48, i49, s17, s18, l25 => (congrArg (fun go => ref18Valid_L9s R N go k0 k1 l23 i42 i43 i44 i45 i46 l24 i47 i48 i49 s17 s18 l25) (funext fun l23 => funext fun i42 => funext fun i43 => funext fun i44 => funext fun i45 => funext fun i46 => funext fun l24 => funext fun i47 => funext fun i48 => funext fun i49 => funext fun s17 => funext fun s18 => funext fun l25 => ref18Valid_L9_eq k0 k1 h0 h1 n l23 i42 i43 i44 i45 i46 l24 i47 i48 i49 s17 s18 l25)).trans (ref18Valid_L9s_eq R N K (rounds [0, 4, 5, 6, 7, 10, 11, 82, 83, 84] [1004] (evC gl R N ref18Valid_c4) K n) k0 k1 h0 h1 l23 i42 i43 i44 i45 i46 l24 i47 i48 i49 s17 s18 l25)
def ref18Valid_J8 (R : RT) (N : Nat) (k0 : Bool → OR) (k1 : LA → Int → Int → LA → Int → Int → Int → LB → LB → LA → OR) (l20 : LA) (i35 i36 : Int) (i37 i38 : Int) (l21 : LA) (i39 i40 i41 : Int) (s15 s16 : LB) (l22 : LA) : OR :=
  posN N <|
  ref18Valid_L9 R N
    (fun b9 =>
    k0 b9)
    (fun l75 i169 i170 l76 i171 i172 i173 s57 s58 l77 =>
    k1 l75 i169 i170 l76 i171 i172 i173 s57 s58 l77)
    N l20 i35 i36 0 i37 i38 l21 i39 i40 i41 s15 s16 l22
def ref18Valid_c5 : AC := .seq (.region [kI 7 0]) (.block 4 (.loop [0, 4, 5, 6, 7, 10, 11, 82, 83, 84] [1004] (ref18Valid_c4)))
def ref18Valid_c6 : AC := .meet [0, 4, 10, 11, 82, 83, 84] [1004] ref18Valid_c5
theorem ref18Valid_J8_eq (k0 : Bool → OR) (k1 : LA → Int → Int → LA → Int → Int → Int → LB → LB → LA → OR) (h0 : ∀ (b12 : Bool), K .ret ⟨[vB 2 b12], []⟩ = k0 b12) (h1 : ∀ (l84 : LA) (i184 i185 : Int) (l85 : LA) (i186 i187 i188 : Int) (s63 s64 : LB) (l86 : LA), K .normal ⟨[vR 0 4 l84, (4, .ptr 1004 0 0), vI 10 i184, vI 11 i185, vR 82 1 l85, vI 83 i186, vI 84 i187], [(1004, .box [.imm (AV.int .i64 i188), .imm (AV.str s63), .imm (AV.str s64), .imm (AV.row 1 l86)])]⟩ = k1 l84 i184 i185 l85 i186 i187 i188 s63 s64 l86) (l20 : LA) (i35 i36 : Int) (i37 i38 : Int) (l21 : LA) (i39 i40 i41 : Int) (s15 s16 : LB) (l22 : LA) : ref18Valid_J8 R N k0 k1 l20 i35 i36 i37 i38 l21 i39 i40 i41 s15 s16 l22 =
    runJ [0, 4, 10, 11, 82, 83, 84] [1004] (evC gl R N ref18Valid_c5) K N ⟨[vR 0 4 l20, (4, .ptr 1004 0 0), vI 5 i35, vI 6 i36, vI 10 i37, vI 11 i38, vR 82 1 l21, vI 83 i39, vI 84 i40], [(1004, .box [.imm (AV.int .i64 i41), .imm (AV.str s15), .imm (AV.str s16), .imm (AV.row 1 l22)])]⟩ := by
  unfold ref18Valid_J8
  refine (congrArg (posN N) ?_).trans (runJ_eq _ _ _ _ _ _).symm
  simp (disch := (intros; refine id ?_; kernel_rfl)) only [← h0, ← h1, ref18Valid_L9_eq R N (Kblock 4 (Kjoin [0, 4, 10, 11, 82, 83, 84] [1004] K))]
  kernel_rfl
def ref18Valid_J7 (R : RT) (N : Nat) (k0 : Bool → OR) (k1 : LA → Int → Int → LA → Int → Int → Int → LB → LB → LA → OR) (l16 : LA) (i27 i28 : Int) (i29 i30 : Int) (l17 : LA) (i31 i32 i33 : Int) (s11 s12 : LB) (l18 : LA) : OR :=
  posN N <|
  need (decide (0 ≤ (i28 : Int))) <|
  (l16[Int.toNat i28]?).bind fun e3 =>
  asISSRA e3 fun i34 s13 s14 l19 =>
  bif (i34 : Int) != 1 then
    (k0 false)
  else
    ref18Valid_J8 R N
      (fun b13 =>
    k0 b13)
      (fun l87 i189 i190 l88 i191 i192 i193 s65 s66 l89 =>
    k1 l87 i189 i190 l88 i191 i192 i193 s65 s66 l89)
       l16 i27 i28 i29 i30 l17 i31 i32 i33 s11 s12 l18
def ref18Valid_c7 : AC := .seq (.join [0, 4, 5, 6, 10, 11, 82, 83, 84] [1004] (.seq (.region [oM 105 0, oM 106 6, oP 107 (.iaddr (.t 105) (.t 106) 4 tT), oP 108 (.faddr (.t 107) 0), oP 109 (.load (.t 108) none tI), oP 110 (.bin .neq (.t 109) (.k (.int .i64 1)))]) (.cond (.t 110) (.seq (.region [kB 2 false]) (.ret [2] [])) (.skip)))) (ref18Valid_c6)
def ref18Valid_c8 : AC := .meet [0, 4, 10, 11, 82, 83, 84] [1004] ref18Valid_c7
theorem ref18Valid_J7_eq (k0 : Bool → OR) (k1 : LA → Int → Int → LA → Int → Int → Int → LB → LB → LA → OR) (h0 : ∀ (b16 : Bool), K .ret ⟨[vB 2 b16], []⟩ = k0 b16) (h1 : ∀ (l96 : LA) (i204 i205 : Int) (l97 : LA) (i206 i207 i208 : Int) (s71 s72 : LB) (l98 : LA), K .normal ⟨[vR 0 4 l96, (4, .ptr 1004 0 0), vI 10 i204, vI 11 i205, vR 82 1 l97, vI 83 i206, vI 84 i207], [(1004, .box [.imm (AV.int .i64 i208), .imm (AV.str s71), .imm (AV.str s72), .imm (AV.row 1 l98)])]⟩ = k1 l96 i204 i205 l97 i206 i207 i208 s71 s72 l98) (l16 : LA) (i27 i28 : Int) (i29 i30 : Int) (l17 : LA) (i31 i32 i33 : Int) (s11 s12 : LB) (l18 : LA) : ref18Valid_J7 R N k0 k1 l16 i27 i28 i29 i30 l17 i31 i32 i33 s11 s12 l18 =
    runJ [0, 4, 10, 11, 82, 83, 84] [1004] (evC gl R N ref18Valid_c7) K N ⟨[vR 0 4 l16, (4, .ptr 1004 0 0), vI 5 i27, vI 6 i28, vI 10 i29, vI 11 i30, vR 82 1 l17, vI 83 i31, vI 84 i32], [(1004, .box [.imm (AV.int .i64 i33), .imm (AV.str s11), .imm (AV.str s12), .imm (AV.row 1 l18)])]⟩ := by
  unfold ref18Valid_J7
  refine (congrArg (posN N) ?_).trans (runJ_eq _ _ _ _ _ _).symm
  simp (disch := (intros; refine id ?_; kernel_rfl)) only [← h0, ← h1, ref18Valid_J8_eq R N (Kjoin [0, 4, 10, 11, 82, 83, 84] [1004] K)]
  kernel_rfl
def ref18Valid_J6 (R : RT) (N : Nat) (k0 : LA → Int → Int → LA → Int → Int → Int → LB → LB → LA → OR) (k1 : Bool → OR) (k2 : LA → Int → Int → LA → Int → Int → Int → LB → LB → LA → OR) (l13 : LA) (i20 i21 : Int) (i22 i23 : Int) (l14 : LA) (i24 i25 i26 : Int) (s9 s10 : LB) (l15 : LA) : OR :=
  posN N <|
  bif (i26 : Int) != 3 then
    (k0 l13 i22 i23 l14 i24 i25 i26 s9 s10 l15)
  else
    need (!decide (2 = 0)) <|
    bif ((Int.tmod i20 2) : Int) != 0 then
    (k0 l13 i22 i23 l14 i24 i25 i26 s9 s10 l15)
    else
    ref18Valid_J7 R N
      (fun b17 =>
    k1 b17)
      (fun l99 i209 i210 l100 i211 i212 i213 s73 s74 l101 =>
    k2 l99 i209 i210 l100 i211 i212 i213 s73 s74 l101)
       l13 i20 i21 i22 i23 l14 i24 i25 i26 s9 s10 l15
def ref18Valid_c9 : AC := .seq (.join [0, 4, 5, 6, 10, 11, 82, 83, 84] [1004] (.seq (.region [oP 97 (.faddr (.t 4) 0), oP 98 (.load (.t 97) none tI), oP 99 (.bin .neq (.t 98) (.k (.int .i64 3))), oM 100 99, .split 100, oG 101 100 false (.mv (.t 5)), oG 102 100 false (.bin .rem (.t 101) (.k (.int .i64 2))), oG 103 100 false (.bin .neq (.t 102) (.k (.int .i64 0))), oP 104 (.pick (.t 100) (.k (.bool true)) (.t 103))]) (.cond (.t 104) (.exit 3 [0, 4, 10, 11, 82, 83, 84] [1004]) (.skip)))) (ref18Valid_c8)
def ref18Valid_c10 : AC := .meet [0, 4, 10, 11, 82, 83, 84] [1004] ref18Valid_c9
theorem ref18Valid_J6_eq (k0 : LA → Int → Int → LA → Int → Int → Int → LB → LB → LA → OR) (k1 : Bool → OR) (k2 : LA → Int → Int → LA → Int → Int → Int → LB → LB → LA → OR) (h0 : ∀ (l114 : LA) (i234 i235 : Int) (l115 : LA) (i236 i237 i238 : Int) (s83 s84 : LB) (l116 : LA), K (.exit 3) ⟨[vR 0 4 l114, (4, .ptr 1004 0 0), vI 10 i234, vI 11 i235, vR 82 1 l115, vI 83 i236, vI 84 i237], [(1004, .box [.imm (AV.int .i64 i238), .imm (AV.str s83), .imm (AV.str s84), .imm (AV.row 1 l116)])]⟩ = k0 l114 i234 i235 l115 i236 i237 i238 s83 s84 l116) (h1 : ∀ (b20 : Bool), K .ret ⟨[vB 2 b20], []⟩ = k1 b20) (h2 : ∀ (l117 : LA) (i239 i240 : Int) (l118 : LA) (i241 i242 i243 : Int) (s85 s86 : LB) (l119 : LA), K .normal ⟨[vR 0 4 l117, (4, .ptr 1004 0 0), vI 10 i239, vI 11 i240, vR 82 1 l118, vI 83 i241, vI 84 i242], [(1004, .box [.imm (AV.int .i64 i243), .imm (AV.str s85), .imm (AV.str s86), .imm (AV.row 1 l119)])]⟩ = k2 l117 i239 i240 l118 i241 i242 i243 s85 s86 l119) (l13 : LA) (i20 i21 : Int) (i22 i23 : Int) (l14 : LA) (i24 i25 i26 : Int) (s9 s10 : LB) (l15 : LA) : ref18Valid_J6 R N k0 k1 k2 l13 i20 i21 i22 i23 l14 i24 i25 i26 s9 s10 l15 =
    runJ [0, 4, 10, 11, 82, 83, 84] [1004] (evC gl R N ref18Valid_c9) K N ⟨[vR 0 4 l13, (4, .ptr 1004 0 0), vI 5 i20, vI 6 i21, vI 10 i22, vI 11 i23, vR 82 1 l14, vI 83 i24, vI 84 i25], [(1004, .box [.imm (AV.int .i64 i26), .imm (AV.str s9), .imm (AV.str s10), .imm (AV.row 1 l15)])]⟩ := by
  unfold ref18Valid_J6
  refine (congrArg (posN N) ?_).trans (runJ_eq _ _ _ _ _ _).symm
  simp (disch := (intros; refine id ?_; kernel_rfl)) only [← h0, ← h1, ← h2, ref18Valid_J7_eq R N (Kjoin [0, 4, 10, 11, 82, 83, 84] [1004] K)]
  kernel_rfl
def ref18Valid_J12 (R : RT) (N : Nat) (k0 : LA → Int → Int → LA → Int → Int → Int → LB → LB → LA → OR) (l123 : LA) (i249 i250 : Int) (l124 : LA) (i251 i252 i253 : Int) (s89 s90 : LB) (l125 : LA) : OR :=
  posN N <|
  k0 l123 i249 i250 l124 i251 (IntKind.i64.wrap (i252 + 1)) i253 s89 s90 l125
def ref18Valid_c11 : AC := .region [oP 155 (.bin .add (.t 84) (.k (.int .i64 1))), oM 84 155]
def ref18Valid_c12 : AC := .meet [0, 4, 10, 11, 82, 83, 84] [1004] ref18Valid_c11
theorem ref18Valid_J12_eq (k0 : LA → Int → Int → LA → Int → Int → Int → LB → LB → LA → OR) (h0 : ∀ (l132 : LA) (i264 i265 : Int) (l133 : LA) (i266 i267 i268 : Int) (s95 s96 : LB) (l134 : LA), K .normal ⟨[vR 0 4 l132, (4, .ptr 1004 0 0), vI 10 i264, vI 11 i265, vR 82 1 l133, vI 83 i266, vI 84 i267], [(1004, .box [.imm (AV.int .i64 i268), .imm (AV.str s95), .imm (AV.str s96), .imm (AV.row 1 l134)])]⟩ = k0 l132 i264 i265 l133 i266 i267 i268 s95 s96 l134) (l123 : LA) (i249 i250 : Int) (l124 : LA) (i251 i252 i253 : Int) (s89 s90 : LB) (l125 : LA) : ref18Valid_J12 R N k0 l123 i249 i250 l124 i251 i252 i253 s89 s90 l125 =
    runJ [0, 4, 10, 11, 82, 83, 84] [1004] (evC gl R N ref18Valid_c11) K N ⟨[vR 0 4 l123, (4, .ptr 1004 0 0), vI 10 i249, vI 11 i250, vR 82 1 l124, vI 83 i251, vI 84 i252], [(1004, .box [.imm (AV.int .i64 i253), .imm (AV.str s89), .imm (AV.str s90), .imm (AV.row 1 l125)])]⟩ := by
  unfold ref18Valid_J12
  refine (congrArg (posN N) ?_).trans (runJ_eq _ _ _ _ _ _).symm
  simp (disch := (intros; refine id ?_; kernel_rfl)) only [← h0]
  kernel_rfl
def ref18Valid_J5 (R : RT) (N : Nat) (k0 : Bool → OR) (k1 : LA → Int → Int → LA → Int → Int → Int → LB → LB → LA → OR) (l10 : LA) (i14 i15 : Int) (l11 : LA) (i16 i17 i18 : Int) (s7 s8 : LB) (l12 : LA) : OR :=
  posN N <|
  need (decide (0 ≤ (i17 : Int))) <|
  (l11[Int.toNat i17]?).bind fun e2 =>
  asI .i64 e2 fun i19 =>
  bif decide ((i19 : Int) < 0) then
    (k0 false)
  else
    bif decide ((i19 : Int) ≥ ((l10.length : Nat) : Int)) then
    (k0 false)
    else
    ref18Valid_J6 R N
      (fun l120 i244 i245 l121 i246 i247 i248 s87 s88 l122 =>
    ref18Valid_J12 R N
      (fun l135 i269 i270 l136 i271 i272 i273 s97 s98 l137 =>
    k1 l135 i269 i270 l136 i271 i272 i273 s97 s98 l137)
       l120 i244 i245 l121 i246 i247 i248 s87 s88 l122)
      (fun b21 =>
    k0 b21)
      (fun l138 i274 i275 l139 i276 i277 i278 s99 s100 l140 =>
    ref18Valid_J12 R N
      (fun l141 i279 i280 l142 i281 i282 i283 s101 s102 l143 =>
    k1 l141 i279 i280 l142 i281 i282 i283 s101 s102 l143)
       l138 i274 i275 l139 i276 i277 i278 s99 s100 l140)
       l10 i17 i19 i14 i15 l11 i16 i17 i18 s7 s8 l12
def ref18Valid_c13 : AC := .seq (.join [0, 4, 10, 11, 82, 83, 84] [1004] (.block 3 (.seq (.region [oM 86 84, oP 87 (.iaddr (.t 82) (.t 84) 1 tI), oP 88 (.load (.t 87) none tI), oM 5 86, oM 6 88]) (.seq (.join [0, 4, 5, 6, 10, 11, 82, 83, 84] [1004] (.seq (.region [oM 89 6, oP 90 (.bin .lss (.t 89) (.k (.int .i64 0))), oM 91 90, .split 91, oG 92 91 false (.mv (.t 6)), oG 93 91 false (.mv (.t 0)), oG 94 91 false (.len (.t 93) false), oG 95 91 false (.bin .geq (.t 92) (.t 94)), oP 96 (.pick (.t 91) (.k (.bool true)) (.t 95))]) (.cond (.t 96) (.seq (.region [kB 2 false]) (.ret [2] [])) (.skip)))) (ref18Valid_c10))))) (ref18Valid_c12)
def ref18Valid_c14 : AC := .meet [0, 4, 10, 11, 82, 83, 84] [1004] ref18Valid_c13
theorem ref18Valid_J5_eq (k0 : Bool → OR) (k1 : LA → Int → Int → LA → Int → Int → Int → LB → LB → LA → OR) (h0 : ∀ (b24 : Bool), K .ret ⟨[vB 2 b24], []⟩ = k0 b24) (h1 : ∀ (l150 : LA) (i294 i295 : Int) (l151 : LA) (i296 i297 i298 : Int) (s107 s108 : LB) (l152 : LA), K .normal ⟨[vR 0 4 l150, (4, .ptr 1004 0 0), vI 10 i294, vI 11 i295, vR 82 1 l151, vI 83 i296, vI 84 i297], [(1004, .box [.imm (AV.int .i64 i298), .imm (AV.str s107), .imm (AV.str s108), .imm (AV.row 1 l152)])]⟩ = k1 l150 i294 i295 l151 i296 i297 i298 s107 s108 l152) (l10 : LA) (i14 i15 : Int) (l11 : LA) (i16 i17 i18 : Int) (s7 s8 : LB) (l12 : LA) : ref18Valid_J5 R N k0 k1 l10 i14 i15 l11 i16 i17 i18 s7 s8 l12 =
    runJ [0, 4, 10, 11, 82, 83, 84] [1004] (evC gl R N ref18Valid_c13) K N ⟨[vR 0 4 l10, (4, .ptr 1004 0 0), vI 10 i14, vI 11 i15, vR 82 1 l11, vI 83 i16, vI 84 i17], [(1004, .box [.imm (AV.int .i64 i18), .imm (AV.str s7), .imm (AV.str s8), .imm (AV.row 1 l12)])]⟩ := by
  unfold ref18Valid_J5
  refine (congrArg (posN N) ?_).trans (runJ_eq _ _ _ _ _ _).symm
  simp (disch := (intros; refine id ?_; kernel_rfl)) only [← h0, ← h1, ref18Valid_J6_eq R N (Kblock 3 (Kjoin [0, 4, 10, 11, 82, 83, 84] [1004] (Kthen gl R N ref18Valid_c12 (Kjoin [0, 4, 10, 11, 82, 83, 84] [1004] K)))), ref18Valid_J12_eq R N (Kjoin [0, 4, 10, 11, 82, 83, 84] [1004] K)]
  kernel_rfl
def ref18Valid_L4s (R : RT) (N : Nat) (go : LA → Int → Int → LA → Int → Int → Int → LB → LB → LA → OR) (k0 : Bool → OR) (k1 : LA → Int → Int → OR) (l7 : LA) (i9 i10 : Int) (l8 : LA) (i11 i12 i13 : Int) (s5 s6 : LB) (l9 : LA) : OR :=
  bif decide ((i12 : Int) < i11) then
    (ref18Valid_J5 R N
      (fun b25 =>
    k0 b25)
      (fun l153 i299 i300 l154 i301 i302 i303 s109 s110 l155 =>
    go l153 i299 i300 l154 i301 i302 i303 s109 s110 l155)
       l7 i9 i10 l8 i11 i12 i13 s5 s6 l9)
  else
    k1 l7 i9 i10
def ref18Valid_L4 (R : RT) (N : Nat) (k0 : Bool → OR) (k1 : LA → Int → Int → OR) : Nat → LA → Int → Int → LA → Int → Int → Int → LB → LB → LA → OR
  | 0, _, _, _, _, _, _, _, _, _, _ => none
  | n + 1, l7, i9, i10, l8, i11, i12, i13, s5, s6, l9 => ref18Valid_L4s R N (ref18Valid_L4 R N k0 k1 n) k0 k1 l7 i9 i10 l8 i11 i12 i13 s5 s6 l9
def ref18Valid_c15 : AC := .seq (.region [oP 85 (.bin .lss (.t 84) (.t 83))]) (.seq (.join [0, 4, 10, 11, 82, 83, 84] [1004] (.cond (.t 85) (.skip) (.exit 2 [0, 10, 11] []))) (ref18Valid_c14))
theorem ref18Valid_L4s_eq (k0 : Bool → OR) (k1 : LA → Int → Int → OR) (h0 : ∀ (b27 : Bool), K .ret ⟨[vB 2 b27], []⟩ = k0 b27) (h1 : ∀ (l157 : LA) (i306 i307 : Int), K (.exit 2) ⟨[vR 0 4 l157, vI 10 i306, vI 11 i307], []⟩ = k1 l157 i306 i307) (l7 : LA) (i9 i10 : Int) (l8 : LA) (i11 i12 i13 : Int) (s5 s6 : LB) (l9 : LA) : ref18Valid_L4s R N (fun (l7 : LA) (i9 i10 : Int) (l8 : LA) (i11 i12 i13 : Int) (s5 s6 : LB) (l9 : LA) => W ⟨[vR 0 4 l7, (4, .ptr 1004 0 0), vI 10 i9, vI 11 i10, vR 82 1 l8, vI 83 i11, vI 84 i12], [(1004, .box [.imm (AV.int .i64 i13), .imm (AV.str s5), .imm (AV.str s6), .imm (AV.row 1 l9)])]⟩) k0 k1 l7 i9 i10 l8 i11 i12 i13 s5 s6 l9 =
    evC gl R N ref18Valid_c15 (Kseq (fun st' => W (prune [0, 4, 10, 11, 82, 83, 84] [1004] st')) K) ⟨[vR 0 4 l7, (4, .ptr 1004 0 0), vI 10 i9, vI 11 i10, vR 82 1 l8, vI 83 i11, vI 84 i12], [(1004, .box [.imm (AV.int .i64 i13), .imm (AV.str s5), .imm (AV.str s6), .imm (AV.row 1 l9)])]⟩ := by
  unfold ref18Valid_L4s
  simp (disch := (intros; refine id ?_; kernel_rfl)) only [← h0, ← h1, ref18Valid_J5_eq R N (Kseq (fun st' => W (prune [0, 4, 10, 11, 82, 83, 84] [1004] st')) K)]
  kernel_rfl
theorem ref18Valid_L4_eq (k0 : Bool → OR) (k1 : LA → Int → Int → OR) (h0 : ∀ (b27 : Bool), K .ret ⟨[vB 2 b27], []⟩ = k0 b27) (h1 : ∀ (l157 : LA) (i306 i307 : Int), K (.exit 2) ⟨[vR 0 4 l157, vI 10 i306, vI 11 i307], []⟩ = k1 l157 i306 i307) : ∀ (n : Nat) (l7 : LA) (i9 i10 : Int) (l8 : LA) (i11 i12 i13 : Int) (s5 s6 : LB) (l9 : LA), ref18Valid_L4 R N k0 k1 n l7 i9 i10 l8 i11 i12 i13 s5 s6 l9 = rounds [0, 4, 10, 11, 82, 83, 84] [1004] (evC gl R N ref18Valid_c15) K n ⟨[vR 0 4 l7, (4, .ptr 1004 0 0), vI 10 i9, vI 11 i10, vR 82 1 l8, vI 83 i11, vI 84 i12], [(1004, .box [.imm (AV.int .i64 i13), .imm (AV.str s5), .imm (AV.str s6), .imm (AV.row 1 l9)])]⟩
  | 0, _, _, _, _, _, _, _, _, _, _ => rfl
  | n + 1, l7, i9, i10, l8, i11, i12, i13, s5, s6, l9 => (congrArg (fun go => ref18Valid_L4s R N go k0 k1 l7 i9 i10 l8 i11 i12 i13 s5 s6 l9) (funext fun l7 => funext fun i9 => funext fun i10 => funext fun l8 => funext fun i11 => funext fun i12 => funext fun i13 => funext fun s5 => funext fun s6 => funext fun l9 => ref18Valid_L4_eq k0 k1 h0 h1 n l7 i9 i10 l8 i11 i12 i13 s5 s6 l9)).trans (ref18Valid_L4s_eq R N K (rounds [0, 4, 10, 11, 82, 83, 84] [1004] (evC gl R N ref18Valid_c15) K n) k0 k1 h0 h1 l7 i9 i10 l8 i11 i12 i13 s5 s6 l9)
def ref18Valid_J3 (R : RT) (N : Nat) (k0 : Bool → OR) (k1 : LA → Int → Int → OR) (l5 : LA) (i6 i7 i8 : Int) (s3 s4 : LB) (l6 : LA) : OR :=
  posN N <|
  ref18Valid_L4 R N
    (fun b28 =>
    k0 b28)
    (fun l158 i308 i309 =>
    k1 l158 i308 i309)
    N l5 i6 i7 l6 ((l6.length : Nat) : Int) 0 i8 s3 s4 l6
def ref18Valid_c16 : AC := .seq (.region [oP 81 (.faddr (.t 4) 3), oP 82 (.load (.t 81) none (.row 1)), oP 83 (.len (.t 82) false), kI 84 0]) (.block 2 (.loop [0, 4, 10, 11, 82, 83, 84] [1004] (ref18Valid_c15)))
def ref18Valid_c17 : AC := .meet [0, 10, 11] [] ref18Valid_c16
theorem ref18Valid_J3_eq (k0 : Bool → OR) (k1 : LA → Int → Int → OR) (h0 : ∀ (b31 : Bool), K .ret ⟨[vB 2 b31], []⟩ = k0 b31) (h1 : ∀ (l161 : LA) (i314 i315 : Int), K .normal ⟨[vR 0 4 l161, vI 10 i314, vI 11 i315], []⟩ = k1 l161 i314 i315) (l5 : LA) (i6 i7 i8 : Int) (s3 s4 : LB) (l6 : LA) : ref18Valid_J3 R N k0 k1 l5 i6 i7 i8 s3 s4 l6 =
    runJ [0, 10, 11] [] (evC gl R N ref18Valid_c16) K N ⟨[vR 0 4 l5, (4, .ptr 1004 0 0), vI 10 i6, vI 11 i7], [(1004, .box [.imm (AV.int .i64 i8), .imm (AV.str s3), .imm (AV.str s4), .imm (AV.row 1 l6)])]⟩ := by
  unfold ref18Valid_J3
  refine (congrArg (posN N) ?_).trans (runJ_eq _ _ _ _ _ _).symm
  simp (disch := (intros; refine id ?_; kernel_rfl)) only [← h0, ← h1, ref18Valid_L4_eq R N (Kblock 2 (Kjoin [0, 10, 11] [] K))]
  kernel_rfl
def ref18Valid_J13 (R : RT) (N : Nat) (k0 : LA → Int → Int → OR) (l163 : LA) (i318 i319 : Int) : OR :=
  posN N <|
  k0 l163 i318 (IntKind.i64.wrap (i319 + 1))
def ref18Valid_c18 : AC := .region [oP 156 (.bin .add (.t 11) (.k (.int .i64 1))), oM 11 156]
def ref18Valid_c19 : AC := .meet [0, 10, 11] [] ref18Valid_c18
theorem ref18Valid_J13_eq (k0 : LA → Int → Int → OR) (h0 : ∀ (l166 : LA) (i324 i325 : Int), K .normal ⟨[vR 0 4 l166, vI 10 i324, vI 11 i325], []⟩ = k0 l166 i324 i325) (l163 : LA) (i318 i319 : Int) : ref18Valid_J13 R N k0 l163 i318 i319 =
    runJ [0, 10, 11] [] (evC gl R N ref18Valid_c18) K N ⟨[vR 0 4 l163, vI 10 i318, vI 11 i319], []⟩ := by
  unfold ref18Valid_J13
  refine (congrArg (posN N) ?_).trans (runJ_eq _ _ _ _ _ _).symm
  simp (disch := (intros; refine id ?_; kernel_rfl)) only [← h0]
  kernel_rfl
def ref18Valid_J2 (R : RT) (N : Nat) (k0 : Bool → OR) (k1 : LA → Int → Int → OR) (l3 : LA) (i3 i4 : Int) : OR :=
  posN N <|
  need (decide (0 ≤ (i4 : Int))) <|
  (l3[Int.toNat i4]?).bind fun e1 =>
  asISSRA e1 fun i5 s1 s2 l4 =>
  bif (i5 : Int) != 1 then
    (bif (i5 : Int) != 2 then
    (bif (i5 : Int) != 3 then
    (k0 false)
    else
    bif (i5 : Int) == 1 then
    (bif decide ((((l4.length : Nat) : Int) : Int) > 0) then
    (k0 false)
    else
    bif (i5 : Int) != 1 then
    (bif !(s2 == ([] : LB)) then
    (k0 false)
    else
    bif (i5 : Int) == 3 then
    (need (!decide (2 = 0)) <|
    bif ((Int.tmod ((l4.length : Nat) : Int) 2) : Int) != 0 then
    (k0 false)
    else
    bif s1 == ([33] : LB) then
    (k0 false)
    else
    (R id_ref08ValidTag [AV.str s1]).bind fun r1 =>
    asB r1.v fun b1 =>
    bif !b1 then
    (k0 false)
    else
    (R id_ref18Utf8 [AV.str s2]).bind fun r2 =>
    asB r2.v fun b2 =>
    bif !b2 then
    (k0 false)
    else
    ref18Valid_J3 R N
      (fun b32 =>
    k0 b32)
      (fun l162 i316 i317 =>
    ref18Valid_J13 R N
      (fun l167 i326 i327 =>
    k1 l167 i326 i327)
       l162 i316 i317)
       l3 i3 i4 i5 s1 s2 l4)
    else
    bif s1 == ([33] : LB) then
    (k0 false)
    else
    (R id_ref08ValidTag [AV.str s1]).bind fun r3 =>
    asB r3.v fun b33 =>
    bif !b33 then
    (k0 false)
    else
    (R id_ref18Utf8 [AV.str s2]).bind fun r4 =>
    asB r4.v fun b34 =>
    bif !b34 then
    (k0 false)
    else
    ref18Valid_J3 R N
      (fun b35 =>
    k0 b35)
      (fun l168 i328 i329 =>
    ref18Valid_J13 R N
      (fun l169 i330 i331 =>
    k1 l169 i330 i331)
       l168 i328 i329)
       l3 i3 i4 i5 s1 s2 l4)
    else
    bif (i5 : Int) == 3 then
    (need (!decide (2 = 0)) <|
    bif ((Int.tmod ((l4.length : Nat) : Int) 2) : Int) != 0 then
    (k0 false)
    else
    bif s1 == ([33] : LB) then
    (k0 false)
    else
    (R id_ref08ValidTag [AV.str s1]).bind fun r5 =>
    asB r5.v fun b36 =>
    bif !b36 then
    (k0 false)
    else
    (R id_ref18Utf8 [AV.str s2]).bind fun r6 =>
    asB r6.v fun b37 =>
    bif !b37 then
    (k0 false)
    else
    ref18Valid_J3 R N
      (fun b38 =>
    k0 b38)
      (fun l170 i332 i333 =>
    ref18Valid_J13 R N
      (fun l171 i334 i335 =>
    k1 l171 i334 i335)
       l170 i332 i333)
       l3 i3 i4 i5 s1 s2 l4)
    else
    bif s1 == ([33] : LB) then
    (k0 false)
    else
    (R id_ref08ValidTag [AV.str s1]).bind fun r7 =>
    asB r7.v fun b39 =>
    bif !b39 then
    (k0 false)
    else
    (R id_ref18Utf8 [AV.str s2]).bind fun r8 =>
    asB r8.v fun b40 =>
    bif !b40 then
    (k0 false)
    else
    ref18Valid_J3 R N
      (fun b41 =>
    k0 b41)
      (fun l172 i336 i337 =>
    ref18Valid_J13 R N
      (fun l173 i338 i339 =>
    k1 l173 i338 i339)
       l172 i336 i337)
       l3 i3 i4 i5 s1 s2 l4)
    else
    bif (i5 : Int) != 1 then
    (bif !(s2 == ([] : LB)) then
    (k0 false)
    else
    bif (i5 : Int) == 3 then
    (need (!decide (2 = 0)) <|
    bif ((Int.tmod ((l4.length : Nat) : Int) 2) : Int) != 0 then
    (k0 false)
    else
    bif s1 == ([33] : LB) then
    (k0 false)
    else
    (R id_ref08ValidTag [AV.str s1]).bind fun r9 =>
    asB r9.v fun b42 =>
    bif !b42 then
    (k0 false)
    else
    (R id_ref18Utf8 [AV.str s2]).bind fun r10 =>
    asB r10.v fun b43 =>
    bif !b43 then
    (k0 false)
    else
    ref18Valid_J3 R N
      (fun b44 =>
    k0 b44)
      (fun l174 i340 i341 =>
    ref18Valid_J13 R N
      (fun l175 i342 i343 =>
    k1 l175 i342 i343)
       l174 i340 i341)
       l3 i3 i4 i5 s1 s2 l4)
    else
    bif s1 == ([33] : LB) then
    (k0 false)
    else
    (R id_ref08ValidTag [AV.str s1]).bind fun r11 =>
    asB r11.v fun b45 =>
    bif !b45 then
    (k0 false)
    else
    (R id_ref18Utf8 [AV.str s2]).bind fun r12 =>
    asB r12.v fun b46 =>
    bif !b46 then
    (k0 false)
    else
    ref18Valid_J3 R N
      (fun b47 =>
    k0 b47)
      (fun l176 i344 i345 =>
    ref18Valid_J13 R N
      (fun l177 i346 i347 =>
    k1 l177 i346 i347)
       l176 i344 i345)
       l3 i3 i4 i5 s1 s2 l4)
    else
    bif (i5 : Int) == 3 then
    (need (!decide (2 = 0)) <|
    bif ((Int.tmod ((l4.length : Nat) : Int) 2) : Int) != 0 then
    (k0 false)
    else
    bif s1 == ([33] : LB) then
    (k0 false)
    else
    (R id_ref08ValidTag [AV.str s1]).bind fun r13 =>
    asB r13.v fun b48 =>
    bif !b48 then
    (k0 false)
    else
    (R id_ref18Utf8 [AV.str s2]).bind fun r14 =>
    asB r14.v fun b49 =>
    bif !b49 then
    (k0 false)
    else
    ref18Valid_J3 R N
      (fun b50 =>
    k0 b50)
      (fun l178 i348 i349 =>
    ref18Valid_J13 R N
      (fun l179 i350 i351 =>
    k1 l179 i350 i351)
       l178 i348 i349)
       l3 i3 i4 i5 s1 s2 l4)
    else
    bif s1 == ([33] : LB) then
    (k0 false)
    else
    (R id_ref08ValidTag [AV.str s1]).bind fun r15 =>
    asB r15.v fun b51 =>
    bif !b51 then
    (k0 false)
    else
    (R id_ref18Utf8 [AV.str s2]).bind fun r16 =>
    asB r16.v fun b52 =>
    bif !b52 then
    (k0 false)
    else
    ref18Valid_J3 R N
      (fun b53 =>
    k0 b53)
      (fun l180 i352 i353 =>
    ref18Valid_J13 R N
      (fun l181 i354 i355 =>
    k1 l181 i354 i355)
       l180 i352 i353)
       l3 i3 i4 i5 s1 s2 l4)
    else
    bif (i5 : Int) == 1 then
    (bif decide ((((l4.length : Nat) : Int) : Int) > 0) then
    (k0 false)
    else
    bif (i5 : Int) != 1 then
    (bif !(s2 == ([] : LB)) then
    (k0 false)
    else
    bif (i5 : Int) == 3 then
    (need (!decide (2 = 0)) <|
    bif ((Int.tmod ((l4.length : Nat) : Int) 2) : Int) != 0 then
    (k0 false)
    else
    bif s1 == ([33] : LB) then
    (k0 false)
    else
    (R id_ref08ValidTag [AV.str s1]).bind fun r17 =>
    asB r17.v fun b54 =>
    bif !b54 then
    (k0 false)
    else
    (R id_ref18Utf8 [AV.str s2]).bind fun r18 =>
    asB r18.v fun b55 =>
    bif !b55 then
    (k0 false)
    else
    ref18Valid_J3 R N
      (fun b56 =>
    k0 b56)
      (fun l182 i356 i357 =>
    ref18Valid_J13 R N
      (fun l183 i358 i359 =>
    k1 l183 i358 i359)
       l182 i356 i357)
       l3 i3 i4 i5 s1 s2 l4)
    else
    bif s1 == ([33] : LB) then
    (k0 false)
    else
    (R id_ref08ValidTag [AV.str s1]).bind fun r19 =>
    asB r19.v fun b57 =>
    bif !b57 then
    (k0 false)
    else
    (R id_ref18Utf8 [AV.str s2]).bind fun r20 =>
    asB r20.v fun b58 =>
    bif !b58 then
    (k0 false)
    else
    ref18Valid_J3 R N
      (fun b59 =>
    k0 b59)
      (fun l184 i360 i361 =>
    ref18Valid_J13 R N
      (fun l185 i362 i363 =>
    k1 l185 i362 i363)
       l184 i360 i361)
       l3 i3 i4 i5 s1 s2 l4)
    else
    bif (i5 : Int) == 3 then
    (need (!decide (2 = 0)) <|
    bif ((Int.tmod ((l4.length : Nat) : Int) 2) : Int) != 0 then
    (k0 false)
    else
    bif s1 == ([33] : LB) then
    (k0 false)
    else
    (R id_ref08ValidTag [AV.str s1]).bind fun r21 =>
    asB r21.v fun b60 =>
    bif !b60 then
    (k0 false)
    else
    (R id_ref18Utf8 [AV.str s2]).bind fun r22 =>
    asB r22.v fun b61 =>
    bif !b61 then
    (k0 false)
    else
    ref18Valid_J3 R N
      (fun b62 =>
    k0 b62)
      (fun l186 i364 i365 =>
    ref18Valid_J13 R N
      (fun l187 i366 i367 =>
    k1 l187 i366 i367)
       l186 i364 i365)
       l3 i3 i4 i5 s1 s2 l4)
    else
    bif s1 == ([33] : LB) then
    (k0 false)
    else
    (R id_ref08ValidTag [AV.str s1]).bind fun r23 =>
    asB r23.v fun b63 =>
    bif !b63 then
    (k0 false)
    else
    (R id_ref18Utf8 [AV.str s2]).bind fun r24 =>
    asB r24.v fun b64 =>
    bif !b64 then
    (k0 false)
    else
    ref18Valid_J3 R N
      (fun b65 =>
    k0 b65)
      (fun l188 i368 i369 =>
    ref18Valid_J13 R N
      (fun l189 i370 i371 =>
    k1 l189 i370 i371)
       l188 i368 i369)
       l3 i3 i4 i5 s1 s2 l4)
    else
    bif (i5 : Int) != 1 then
    (bif !(s2 == ([] : LB)) then
    (k0 false)
    else
    bif (i5 : Int) == 3 then
    (need (!decide (2 = 0)) <|
    bif ((Int.tmod ((l4.length : Nat) : Int) 2) : Int) != 0 then
    (k0 false)
    else
    bif s1 == ([33] : LB) then
    (k0 false)
    else
    (R id_ref08ValidTag [AV.str s1]).bind fun r25 =>
    asB r25.v fun b66 =>
    bif !b66 then
    (k0 false)
    else
    (R id_ref18Utf8 [AV.str s2]).bind fun r26 =>
    asB r26.v fun b67 =>
    bif !b67 then
    (k0 false)
    else
    ref18Valid_J3 R N
      (fun b68 =>
    k0 b68)
      (fun l190 i372 i373 =>
    ref18Valid_J13 R N
      (fun l191 i374 i375 =>
    k1 l191 i374 i375)
       l190 i372 i373)
       l3 i3 i4 i5 s1 s2 l4)
    else
    bif s1 == ([33] : LB) then
    (k0 false)
    else
    (R id_ref08ValidTag [AV.str s1]).bind fun r27 =>
    asB r27.v fun b69 =>
    bif !b69 then
    (k0 false)
    else
    (R id_ref18Utf8 [AV.str s2]).bind fun r28 =>
    asB r28.v fun b70 =>
    bif !b70 then
    (k0 false)
    else
    ref18Valid_J3 R N
      (fun b71 =>
    k0 b71)
      (fun l192 i376 i377 =>
    ref18Valid_J13 R N
      (fun l193 i378 i379 =>
    k1 l193 i378 i379)
       l192 i376 i377)
       l3 i3 i4 i5 s1 s2 l4)
    else
    bif (i5 : Int) == 3 then
    (need (!decide (2 = 0)) <|
    bif ((Int.tmod ((l4.length : Nat) : Int) 2) : Int) != 0 then
    (k0 false)
    else
    bif s1 == ([33] : LB) then
    (k0 false)
    else
    (R id_ref08ValidTag [AV.str s1]).bind fun r29 =>
    asB r29.v fun b72 =>
    bif !b72 then
    (k0 false)
    else
    (R id_ref18Utf8 [AV.str s2]).bind fun r30 =>
    asB r30.v fun b73 =>
    bif !b73 then
    (k0 false)
    else
    ref18Valid_J3 R N
      (fun b74 =>
    k0 b74)
      (fun l194 i380 i381 =>
    ref18Valid_J13 R N
      (fun l195 i382 i383 =>
    k1 l195 i382 i383)
       l194 i380 i381)
       l3 i3 i4 i5 s1 s2 l4)
    else
    bif s1 == ([33] : LB) then
    (k0 false)
    else
    (R id_ref08ValidTag [AV.str s1]).bind fun r31 =>
    asB r31.v fun b75 =>
    bif !b75 then
    (k0 false)
    else
    (R id_ref18Utf8 [AV.str s2]).bind fun r32 =>
    asB r32.v fun b76 =>
    bif !b76 then
    (k0 false)
    else
    ref18Valid_J3 R N
      (fun b77 =>
    k0 b77)
      (fun l196 i384 i385 =>
    ref18Valid_J13 R N
      (fun l197 i386 i387 =>
    k1 l197 i386 i387)
       l196 i384 i385)
       l3 i3 i4 i5 s1 s2 l4)
  else
    bif (i5 : Int) == 1 then
    (bif decide ((((l4.length : Nat) : Int) : Int) > 0) then
    (k0 false)
    else
    bif (i5 : Int) != 1 then
    (bif !(s2 == ([] : LB)) then
    (k0 false)
    else
    bif (i5 : Int) == 3 then
    (need (!decide (2 = 0)) <|
    bif ((Int.tmod ((l4.length : Nat) : Int) 2) : Int) != 0 then
    (k0 false)
    else
    bif s1 == ([33] : LB) then
    (k0 false)
    else
    (R id_ref08ValidTag [AV.str s1]).bind fun r33 =>
    asB r33.v fun b78 =>
    bif !b78 then
    (k0 false)
    else
    (R id_ref18Utf8 [AV.str s2]).bind fun r34 =>
    asB r34.v fun b79 =>
    bif !b79 then
    (k0 false)
    else
    ref18Valid_J3 R N
      (fun b80 =>
    k0 b80)
      (fun l198 i388 i389 =>
    ref18Valid_J13 R N
      (fun l199 i390 i391 =>
    k1 l199 i390 i391)
       l198 i388 i389)
       l3 i3 i4 i5 s1 s2 l4)
    else
    bif s1 == ([33] : LB) then
    (k0 false)
    else
    (R id_ref08ValidTag [AV.str s1]).bind fun r35 =>
    asB r35.v fun b81 =>
    bif !b81 then
    (k0 false)
    else
    (R id_ref18Utf8 [AV.str s2]).bind fun r36 =>
    asB r36.v fun b82 =>
    bif !b82 then
    (k0 false)
    else
    ref18Valid_J3 R N
      (fun b83 =>
    k0 b83)
      (fun l200 i392 i393 =>
    ref18Valid_J13 R N
      (fun l201 i394 i395 =>
    k1 l201 i394 i395)
       l200 i392 i393)
       l3 i3 i4 i5 s1 s2 l4)
    else
    bif (i5 : Int) == 3 then
    (need (!decide (2 = 0)) <|
    bif ((Int.tmod ((l4.length : Nat) : Int) 2) : Int) != 0 then
    (k0 false)
    else
    bif s1 == ([33] : LB) then
    (k0 false)
    else
    (R id_ref08ValidTag [AV.str s1]).bind fun r37 =>
    asB r37.v fun b84 =>
    bif !b84 then
    (k0 false)
    else
    (R id_ref18Utf8 [AV.str s2]).bind fun r38 =>
    asB r38.v fun b85 =>
    bif !b85 then
    (k0 false)
    else
    ref18Valid_J3 R N
      (fun b86 =>
    k0 b86)
      (fun l202 i396 i397 =>
    ref18Valid_J13 R N
      (fun l203 i398 i399 =>
    k1 l203 i398 i399)
       l202 i396 i397)
       l3 i3 i4 i5 s1 s2 l4)
    else
    bif s1 == ([33] : LB) then
    (k0 false)
    else
    (R id_ref08ValidTag [AV.str s1]).bind fun r39 =>
    asB r39.v fun b87 =>
    bif !b87 then
    (k0 false)
    else
    (R id_ref18Utf8 [AV.str s2]).bind fun r40 =>
    asB r40.v fun b88 =>
    bif !b88 then
    (k0 false)
    else
    ref18Valid_J3 R N
      (fun b89 =>
    k0 b89)
      (fun l204 i400 i401 =>
    ref18Valid_J13 R N
      (fun l205 i402 i403 =>
    k1 l205 i402 i403)
       l204 i400 i401)
       l3 i3 i4 i5 s1 s2 l4)
    else
    bif (i5 : Int) != 1 then
    (bif !(s2 == ([] : LB)) then
    (k0 false)
    else
    bif (i5 : Int) == 3 then
    (need (!decide (2 = 0)) <|
    bif ((Int.tmod ((l4.length : Nat) : Int) 2) : Int) != 0 then
    (k0 false)
    else
    bif s1 == ([33] : LB) then
    (k0 false)
    else
    (R id_ref08ValidTag [AV.str s1]).bind fun r41 =>
    asB r41.v fun b90 =>
    bif !b90 then
    (k0 false)
    else
    (R id_ref18Utf8 [AV.str s2]).bind fun r42 =>
    asB r42.v fun b91 =>
    bif !b91 then
    (k0 false)
    else
    ref18Valid_J3 R N
      (fun b92 =>
    k0 b92)
      (fun l206 i404 i405 =>
    ref18Valid_J13 R N
      (fun l207 i406 i407 =>
    k1 l207 i406 i407)
       l206 i404 i405)
       l3 i3 i4 i5 s1 s2 l4)
    else
    bif s1 == ([33] : LB) then
    (k0 false)
    else
    (R id_ref08ValidTag [AV.str s1]).bind fun r43 =>
    asB r43.v fun b93 =>
    bif !b93 then
    (k0 false)
    else
    (R id_ref18Utf8 [AV.str s2]).bind fun r44 =>
    asB r44.v fun b94 =>
    bif !b94 then
    (k0 false)
    else
    ref18Valid_J3 R N
      (fun b95 =>
    k0 b95)
      (fun l208 i408 i409 =>
    ref18Valid_J13 R N
      (fun l209 i410 i411 =>
    k1 l209 i410 i411)
       l208 i408 i409)
       l3 i3 i4 i5 s1 s2 l4)
    else
    bif (i5 : Int) == 3 then
    (need (!decide (2 = 0)) <|
    bif ((Int.tmod ((l4.length : Nat) : Int) 2) : Int) != 0 then
    (k0 false)
    else
    bif s1 == ([33] : LB) then
    (k0 false)
    else
    (R id_ref08ValidTag [AV.str s1]).bind fun r45 =>
    asB r45.v fun b96 =>
    bif !b96 then
    (k0 false)
    else
    (R id_ref18Utf8 [AV.str s2]).bind fun r46 =>
    asB r46.v fun b97 =>
    bif !b97 then
    (k0 false)
    else
    ref18Valid_J3 R N
      (fun b98 =>
    k0 b98)
      (fun l210 i412 i413 =>
    ref18Valid_J13 R N
      (fun l211 i414 i415 =>
    k1 l211 i414 i415)
       l210 i412 i413)
       l3 i3 i4 i5 s1 s2 l4)
    else
    bif s1 == ([33] : LB) then
    (k0 false)
    else
    (R id_ref08ValidTag [AV.str s1]).bind fun r47 =>
    asB r47.v fun b99 =>
    bif !b99 then
    (k0 false)
    else
    (R id_ref18Utf8 [AV.str s2]).bind fun r48 =>
    asB r48.v fun b100 =>
    bif !b100 then
    (k0 false)
    else
    ref18Valid_J3 R N
      (fun b101 =>
    k0 b101)
      (fun l212 i416 i417 =>
    ref18Valid_J13 R N
      (fun l213 i418 i419 =>
    k1 l213 i418 i419)
       l212 i416 i417)
       l3 i3 i4 i5 s1 s2 l4
def ref18Valid_c20 : AC := .seq (.join [0, 10, 11] [] (.block 1 (.seq (.region [oM 13 11, oM 3 13]) (.seq (.region [oM 14 0, oM 15 3, oP 16 (.iaddr (.t 14) (.t 15) 4 tT), oP 17 (.load (.t 16) (some 4) tT), oP 4 (.alloc 1004 [.int .i64 0, .str [], .str [], .row 1 []]), .op none none (.store (.t 4) (.t 17) 4)]) (.seq (.join [0, 4, 10, 11] [1004] (.seq (.region [oP 18 (.faddr (.t 4) 0), oP 19 (.load (.t 18) none tI), oP 20 (.bin .neq (.t 19) (.k (.int .i64 1))), oM 21 20, .split 21, oG 22 21 true (.faddr (.t 4) 0), oG 23 21 true (.load (.t 22) none tI), oG 24 21 true (.bin .neq (.t 23) (.k (.int .i64 2))), oP 25 (.pick (.t 21) (.t 24) (.k (.bool false))), oM 26 25, .split 26, oG 27 26 true (.faddr (.t 4) 0), oG 28 26 true (.load (.t 27) none tI), oG 29 26 true (.bin .neq (.t 28) (.k (.int .i64 3))), oP 30 (.pick (.t 26) (.t 29) (.k (.bool false))), oM 31 30, .split 31, oG 32 31 false (.faddr (.t 4) 0), oG 33 31 false (.load (.t 32) none tI), oG 34 31 false (.bin .eql (.t 33) (.k (.int .i64 1))), oG 35 31 false (.mv (.t 34)), .split 35, oG 36 35 true (.faddr (.t 4) 3), oG 37 35 true (.load (.t 36) none (.row 1)), oG 38 35 true (.len (.t 37) false), oG 39 35 true (.bin .gtr (.t 38) (.k (.int .i64 0))), oG 40 31 false (.pick (.t 35) (.t 39) (.k (.bool false))), oP 41 (.pick (.t 31) (.k (.bool true)) (.t 40)), oM 42 41, .split 42, oG 43 42 false (.faddr (.t 4) 0), oG 44 42 false (.load (.t 43) none tI), oG 45 42 false (.bin .neq (.t 44) (.k (.int .i64 1))), oG 46 42 false (.mv (.t 45)), .split 46, oG 47 46 true (.faddr (.t 4) 2), oG 48 46 true (.load (.t 47) none (.str)), oG 49 46 true (.bin .neq (.t 48) (.k (.str ([] : LB)))), oG 50 42 false (.pick (.t 46) (.t 49) (.k (.bool false))), oP 51 (.pick (.t 42) (.k (.bool true)) (.t 50)), oM 52 51, .split 52, oG 53 52 false (.faddr (.t 4) 0), oG 54 52 false (.load (.t 53) none tI), oG 55 52 false (.bin .eql (.t 54) (.k (.int .i64 3))), oG 56 52 false (.mv (.t 55)), .split 56, oG 57 56 true (.faddr (.t 4) 3), oG 58 56 true (.load (.t 57) none (.row 1)), oG 59 56 true (.len (.t 58) false), oG 60 56 true (.bin .rem (.t 59) (.k (.int .i64 2))), oG 61 56 true (.bin .neq (.t 60) (.k (.int .i64 0))), oG 62 52 false (.pick (.t 56) (.t 61) (.k (.bool false))), oP 63 (.pick (.t 52) (.k (.bool true)) (.t 62)), oM 64 63, .split 64, oG 65 64 false (.faddr (.t 4) 1), oG 66 64 false (.load (.t 65) none (.str)), oG 67 64 false (.bin .eql (.t 66) (.k (.str ([33] : LB)))), oP 68 (.pick (.t 64) (.k (.bool true)) (.t 67)), oM 69 68, .split 69, oG 70 69 false (.faddr (.t 4) 1), oG 71 69 false (.load (.t 70) none (.str)), oG 72 69 false (.call id_ref08ValidTag [.t 71] (.bool)), oG 73 69 false (.un .not (.t 72)), oP 74 (.pick (.t 69) (.k (.bool true)) (.t 73)), oM 75 74, .split 75, oG 76 75 false (.faddr (.t 4) 2), oG 77 75 false (.load (.t 76) none (.str)), oG 78 75 false (.call id_ref18Utf8 [.t 77] (.bool)), oG 79 75 false (.un .not (.t 78)), oP 80 (.pick (.t 75) (.k (.bool true)) (.t 79))]) (.cond (.t 80) (.seq (.region [kB 2 false]) (.ret [2] [])) (.skip)))) (ref18Valid_c17)))))) (ref18Valid_c19)
def ref18Valid_c21 : AC := .meet [0, 10, 11] [] ref18Valid_c20
theorem ref18Valid_J2_eq (k0 : Bool → OR) (k1 : LA → Int → Int → OR) (h0 : ∀ (b104 : Bool), K .ret ⟨[vB 2 b104], []⟩ = k0 b104) (h1 : ∀ (l216 : LA) (i424 i425 : Int), K .normal ⟨[vR 0 4 l216, vI 10 i424, vI 11 i425], []⟩ = k1 l216 i424 i425) (l3 : LA) (i3 i4 : Int) : ref18Valid_J2 R N k0 k1 l3 i3 i4 =
    runJ [0, 10, 11] [] (evC gl R N ref18Valid_c20) K N ⟨[vR 0 4 l3, vI 10 i3, vI 11 i4], []⟩ := by
  unfold ref18Valid_J2
  refine (congrArg (posN N) ?_).trans (runJ_eq _ _ _ _ _ _).symm
  simp (disch := (intros; refine id ?_; kernel_rfl)) only [← h0, ← h1, ref18Valid_J3_eq R N (Kblock 1 (Kjoin [0, 10, 11] [] (Kthen gl R N ref18Valid_c19 (Kjoin [0, 10, 11] [] K)))), ref18Valid_J13_eq R N (Kjoin [0, 10, 11] [] K)]
  kernel_rfl
def ref18Valid_L1s (R : RT) (N : Nat) (go : LA → Int → Int → OR) (k0 : Bool → OR) (k1 : LA → OR) (l2 : LA) (i1 i2 : Int) : OR :=
  bif decide ((i2 : Int) < i1) then
    (ref18Valid_J2 R N
      (fun b105 =>
    k0 b105)
      (fun l217 i426 i427 =>
    go l217 i426 i427)
       l2 i1 i2)
  else
    k1 l2
def ref18Valid_L1 (R : RT) (N : Nat) (k0 : Bool → OR) (k1 : LA → OR) : Nat → LA → Int → Int → OR
  | 0, _, _, _ => none
  | n + 1, l2, i1, i2 => ref18Valid_L1s R N (ref18Valid_L1 R N k0 k1 n) k0 k1 l2 i1 i2
def ref18Valid_c22 : AC := .seq (.region [oP 12 (.bin .lss (.t 11) (.t 10))]) (.seq (.join [0, 10, 11] [] (.cond (.t 12) (.skip) (.exit 0 [0] []))) (ref18Valid_c21))
theorem ref18Valid_L1s_eq (k0 : Bool → OR) (k1 : LA → OR) (h0 : ∀ (b107 : Bool), K .ret ⟨[vB 2 b107], []⟩ = k0 b107) (h1 : ∀ (l219 : LA), K (.exit 0) ⟨[vR 0 4 l219], []⟩ = k1 l219) (l2 : LA) (i1 i2 : Int) : ref18Valid_L1s R N (fun (l2 : LA) (i1 i2 : Int) => W ⟨[vR 0 4 l2, vI 10 i1, vI 11 i2], []⟩) k0 k1 l2 i1 i2 =
    evC gl R N ref18Valid_c22 (Kseq (fun st' => W (prune [0, 10, 11] [] st')) K) ⟨[vR 0 4 l2, vI 10 i1, vI 11 i2], []⟩ := by
  unfold ref18Valid_L1s
  simp (disch := (intros; refine id ?_; kernel_rfl)) only [← h0, ← h1, ref18Valid_J2_eq R N (Kseq (fun st' => W (prune [0, 10, 11] [] st')) K)]
  kernel_rfl
theorem ref18Valid_L1_eq (k0 : Bool → OR) (k1 : LA → OR) (h0 : ∀ (b107 : Bool), K .ret ⟨[vB 2 b107], []⟩ = k0 b107) (h1 : ∀ (l219 : LA), K (.exit 0) ⟨[vR 0 4 l219], []⟩ = k1 l219) : ∀ (n : Nat) (l2 : LA) (i1 i2 : Int), ref18Valid_L1 R N k0 k1 n l2 i1 i2 = rounds [0, 10, 11] [] (evC gl R N ref18Valid_c22) K n ⟨[vR 0 4 l2, vI 10 i1, vI 11 i2], []⟩
  | 0, _, _, _ => rfl
  | n + 1, l2, i1, i2 => (congrArg (fun go => ref18Valid_L1s R N go k0 k1 l2 i1 i2) (funext fun l2 => funext fun i1 => funext fun i2 => ref18Valid_L1_eq k0 k1 h0 h1 n l2 i1 i2)).trans (ref18Valid_L1s_eq R N K (rounds [0, 10, 11] [] (evC gl R N ref18Valid_c22) K n) k0 k1 h0 h1 l2 i1 i2)
def ref18Valid_c23 : AC := .seq (.region [oM 157 0, oP 158 (.len (.t 157) false), oP 159 (.bin .gtr (.t 158) (.k (.int .i64 0))), oM 2 159]) (.ret [2] [])
def ref18Valid_c24 : AC := .seq (.region [kB 2 false]) (.seq (.seq (.region [oM 9 0, oP 10 (.len (.t 9) false), kI 11 0]) (.block 0 (.loop [0, 10, 11] [] (ref18Valid_c22)))) (ref18Valid_c23))
def ref18Valid : AFunc := ⟨1, 160, [.tmp 2], ref18Valid_c24⟩
def ref18Validr (R : RT) (N : Nat) (l1 : LA) : OR :=
  ref18Valid_L1 R N
    (fun b108 =>
    some ⟨AV.bool b108, false, []⟩)
    (fun l220 =>
    some ⟨AV.bool (decide ((((l220.length : Nat) : Int) : Int) > 0)), false, []⟩)
    N l1 ((l1.length : Nat) : Int) 0
theorem ref18Valid_eq (l1 : LA) : runF gl R N ref18Valid [AV.row 4 l1] = ref18Validr R N l1 := by
  unfold ref18Validr
  simp (disch := (intros; refine id ?_; kernel_rfl)) only [ref18Valid_L1_eq R N (Kblock 0 (Kthen gl R N ref18Valid_c23 (Kret ref18Valid.rets [])))]
  kernel_rfl
theorem ref18Valid_fit : fitF Tryd.prog ref18Valid Tryd.f6 = true := by
  kernel_rfl

def slicesCloneIntInt_c0 : AC := .seq (.region [oP 2 (.nilOwn 5 (some (1, .any)))]) (.seq (.seq (.regionE [oM 3 0] (.t 3) 4 false) (.cond (.t 4) (.seq (.region [oP 2 (.nilOwn 5 (some (1, .any)))]) (.ret [2] [5])) (.skip))) (.seq (.region [oP 5 (.bsliceOwn 5 [] 1 .any false), oM 6 0, oP 7 (.app 5 (.t 5) (.t 6) 1 .any false), oM 2 7]) (.ret [2] [5])))
def slicesCloneIntInt : AFunc := ⟨1, 8, [.tmp 2], slicesCloneIntInt_c0⟩
noncomputable def slicesCloneIntIntr (R : RT) (N : Nat) (l1 : LA) : OR :=
  bif Nat.beq l1.length 0 then
    (anyN 2 fun j1 =>
    bif Nat.beq j1 0 then
    (some ⟨AV.row 1 ((([] : LA).drop 0).take 0), true, []⟩)
    else
    need (decide (((([] : LA).drop 0).take 0).length + l1.length ≤ 1099511627776)) <|
    some ⟨AV.row 1 (((((([] : LA).drop 0).take 0) ++ l1 : LA).drop 0).take ((((([] : LA).drop 0).take 0) ++ l1).length)), true, []⟩)
  else
    need (decide (((([] : LA).drop 0).take 0).length + l1.length ≤ 1099511627776)) <|
    some ⟨AV.row 1 (((((([] : LA).drop 0).take 0) ++ l1 : LA).drop 0).take ((((([] : LA).drop 0).take 0) ++ l1).length)), true, []⟩
theorem slicesCloneIntInt_eq (l1 : LA) : runF gl R N slicesCloneIntInt [AV.row 1 l1] = slicesCloneIntIntr R N l1 := by
  unfold slicesCloneIntIntr
  kernel_rfl
theorem slicesCloneIntInt_fit : fitF Tryd.prog slicesCloneIntInt Tryd.f30 = true := by
  kernel_rfl

def isoOrder_L1s (R : RT) (N : Nat) (go : LA → Nat → Nat → Nat → LA → LA → LA → OR) (k0 : RT) (l9 : LA) (n2 n3 n4 : Nat) (l10 l11 l12 : LA) : OR :=
  bif decide ((((n4 : Nat) : Int) : Int) > 0) then
    (need (decide (0 ≤ (IntKind.i64.wrap (((n4 : Nat) : Int) - 1) : Int)) && decide ((IntKind.i64.wrap (((n4 : Nat) : Int) - 1) : Int) < ((n4 : Nat) : Int))) <|
    (l12[0 + Int.toNat (IntKind.i64.wrap (((n4 : Nat) : Int) - 1))]?).bind fun e5 =>
    (e5.flat[0]?).bind fun v3 =>
    asI .i64 v3 fun i3 =>
    need (decide (0 ≤ (IntKind.i64.wrap (((n4 : Nat) : Int) - 1) : Int)) && decide ((IntKind.i64.wrap (((n4 : Nat) : Int) - 1) : Int) ≤ ((n4 : Nat) : Int))) <|
    need (decide (0 ≤ (i3 : Int)) && decide ((i3 : Int) < ((n2 : Nat) : Int))) <|
    (l11[0 + Int.toNat i3]?).bind fun e6 =>
    (e6.flat[0]?).bind fun v4 =>
    asB v4 fun b2 =>
    bif b2 then
    (go l9 n2 n3 (Int.toNat (IntKind.i64.wrap (((n4 : Nat) : Int) - 1))) l10 l11 l12)
    else
    need (decide (0 ≤ (i3 : Int)) && decide ((i3 : Int) < ((n2 : Nat) : Int))) <|
    (l11[0 + Int.toNat i3]?).bind fun e7 =>
    needSt e7 (AV.bool true) 0 1 <|
    need (decide (((l10.drop 0).take n3).length + [AV.int .i64 i3].length ≤ 1099511627776)) <|
    need (decide (0 ≤ (i3 : Int))) <|
    (l9[Int.toNat i3]?).bind fun e8 =>
    asISSRA e8 fun i4 s3 s4 l13 =>
    (R id_slicesCloneIntInt [AV.row 1 l13]).bind fun r3 =>
    need r3.own <|
    asR 1 r3.v fun l14 =>
    need (Nat.beq l14.length l14.length) <|
    (R id_slicesReverseIntInt [AV.ref (AV.row 1 l14)]).bind fun r4 =>
    asC r4.outs fun o2 q2 =>
    asRf o2 fun c2 =>
    asR 1 c2 fun l15 =>
    asN q2 <|
    need (Nat.beq l15.length l14.length) <|
    as0T r4.v <|
    need (decide (((l12.drop 0).take (Int.toNat (IntKind.i64.wrap (((n4 : Nat) : Int) - 1)))).length + ((l15.drop 0).take l14.length).length ≤ 1099511627776)) <|
    go l9 n2 ((((l10.drop 0).take n3) ++ [AV.int .i64 i3]).length) ((((l12.drop 0).take (Int.toNat (IntKind.i64.wrap (((n4 : Nat) : Int) - 1)))) ++ ((l15.drop 0).take l14.length)).length) (((l10.drop 0).take n3) ++ [AV.int .i64 i3]) (l11.set (0 + Int.toNat i3) (AV.bool true)) (((l12.drop 0).take (Int.toNat (IntKind.i64.wrap (((n4 : Nat) : Int) - 1)))) ++ ((l15.drop 0).take l14.length)))
  else
    k0 n3 l10
def isoOrder_L1 (R : RT) (N : Nat) (k0 : RT) : Nat → LA → Nat → Nat → Nat → LA → LA → LA → OR
  | 0, _, _, _, _, _, _, _ => none
  | n + 1, l9, n2, n3, n4, l10, l11, l12 => isoOrder_L1s R N (isoOrder_L1 R N k0 n) k0 l9 n2 n3 n4 l10 l11 l12
def isoOrder_c0 : AC := .seq (.seq (.region [oM 12 5, oP 13 (.len (.t 12) false), oP 14 (.bin .gtr (.t 13) (.k (.int .i64 0)))]) (.cond (.t 14) (.skip) (.exit 0 [4] [4]))) (.block 1 (.seq (.region [oM 15 5, oM 16 5, oP 17 (.len (.t 16) false), oP 18 (.bin .sub (.t 17) (.k (.int .i64 1))), oP 19 (.iaddr (.t 15) (.t 18) 1 tI), oP 20 (.load (.t 19) none tI), oM 6 20]) (.seq (.region [oM 21 5, oM 22 5, oP 23 (.len (.t 22) false), oP 24 (.bin .sub (.t 23) (.k (.int .i64 1))), oP 25 (.slice (.t 21) none (some (.t 24)) 1), oM 5 25]) (.seq (.seq (.region [oM 26 3, oM 27 6, oP 28 (.iaddr (.t 26) (.t 27) 1 (.bool)), oP 29 (.load (.t 28) none (.bool))]) (.cond (.t 29) (.exit 1 [0, 3, 4, 5] [4, 10, 11]) (.skip))) (.seq (.region [oM 30 3, oM 31 6, oP 32 (.iaddr (.t 30) (.t 31) 1 (.bool)), .op none none (.store (.t 32) (.k (.bool true)) 1)]) (.seq (.region [oM 33 4, oM 34 6, oP 35 (.bslice [.t 34] 1 false), oP 36 (.app 4 (.t 33) (.t 35) 1 .any false), oM 4 36]) (.seq (.region [oM 37 0, oM 38 6, oP 39 (.iaddr (.t 37) (.t 38) 4 tT), oP 40 (.faddr (.t 39) 3), oP 41 (.load (.t 40) none (.row 1)), oP 42 (.callOwn 42 id_slicesCloneIntInt [.t 41] 1 .any false), oM 7 42]) (.seq (.region [oM 43 7, oP 44 (.callM none id_slicesReverseIntInt [.t 43] [true] [some (.row 1)] (.tup []))]) (.region [oM 45 5, oM 46 7, oP 47 (.app 11 (.t 45) (.t 46) 1 .any false), oM 5 47])))))))))
theorem isoOrder_L1s_eq (k0 : RT) (h0 : ∀ (n6 : Nat) (l17 : LA), K (.exit 0) ⟨[(4, .own 4 0 n6 none)], [(4, .row 1 l17 false)]⟩ = k0 n6 l17) (l9 : LA) (n2 n3 n4 : Nat) (l10 l11 l12 : LA) : isoOrder_L1s R N (fun (l9 : LA) (n2 n3 n4 : Nat) (l10 l11 l12 : LA) => W ⟨[vR 0 4 l9, (3, .own 10 0 n2 none), (4, .own 4 0 n3 none), (5, .own 11 0 n4 none)], [(4, .row 1 l10 false), (10, .row 1 l11 false), (11, .row 1 l12 false)]⟩) k0 l9 n2 n3 n4 l10 l11 l12 =
    evC gl R N isoOrder_c0 (Kseq (fun st' => W (prune [0, 3, 4, 5] [4, 10, 11] st')) K) ⟨[vR 0 4 l9, (3, .own 10 0 n2 none), (4, .own 4 0 n3 none), (5, .own 11 0 n4 none)], [(4, .row 1 l10 false), (10, .row 1 l11 false), (11, .row 1 l12 false)]⟩ := by
  unfold isoOrder_L1s
  simp (disch := (intros; refine id ?_; kernel_rfl)) only [← h0]
  kernel_rfl
theorem isoOrder_L1_eq (k0 : RT) (h0 : ∀ (n6 : Nat) (l17 : LA), K (.exit 0) ⟨[(4, .own 4 0 n6 none)], [(4, .row 1 l17 false)]⟩ = k0 n6 l17) : ∀ (n : Nat) (l9 : LA) (n2 n3 n4 : Nat) (l10 l11 l12 : LA), isoOrder_L1 R N k0 n l9 n2 n3 n4 l10 l11 l12 = rounds [0, 3, 4, 5] [4, 10, 11] (evC gl R N isoOrder_c0) K n ⟨[vR 0 4 l9, (3, .own 10 0 n2 none), (4, .own 4 0 n3 none), (5, .own 11 0 n4 none)], [(4, .row 1 l10 false), (10, .row 1 l11 false), (11, .row 1 l12 false)]⟩
  | 0, _, _, _, _, _, _, _ => rfl
  | n + 1, l9, n2, n3, n4, l10, l11, l12 => (congrArg (fun go => isoOrder_L1s R N go k0 l9 n2 n3 n4 l10 l11 l12) (funext fun l9 => funext fun n2 => funext fun n3 => funext fun n4 => funext fun l10 => funext fun l11 => funext fun l12 => isoOrder_L1_eq k0 h0 n l9 n2 n3 n4 l10 l11 l12)).trans (isoOrder_L1s_eq R N K (rounds [0, 3, 4, 5] [4, 10, 11] (evC gl R N isoOrder_c0) K n) k0 h0 l9 n2 n3 n4 l10 l11 l12)
def isoOrder_c1 : AC := .seq (.region [oM 48 4, oM 2 48]) (.ret [2] [4])
def isoOrder_c2 : AC := .seq (.region [oP 2 (.nilOwn 4 (some (1, .any)))]) (.seq (.region [oM 8 0, oP 9 (.len (.t 8) false), oP 10 (.mkOwn 10 (.t 9) 1 (.bool false) false), oM 3 10]) (.seq (.region [oP 4 (.nilOwn 4 (some (1, .any)))]) (.seq (.region [oP 11 (.bsliceOwn 11 [.k (.int .i64 0)] 1 .any false), oM 5 11]) (.seq (.block 0 (.loop [0, 3, 4, 5] [4, 10, 11] (isoOrder_c0))) (isoOrder_c1)))))
def isoOrder : AFunc := ⟨1, 49, [.tmp 2], isoOrder_c2⟩
def isoOrderr (R : RT) (N : Nat) (l1 : LA) : OR :=
  need (decide (0 ≤ (((l1.length : Nat) : Int) : Int)) && decide ((((l1.length : Nat) : Int) : Int) ≤ 1099511627776)) <|
  isoOrder_L1 R N
    (fun n7 l18 =>
    some ⟨AV.row 1 ((l18.drop 0).take n7), true, []⟩)
    N l1 (Int.toNat ((l1.length : Nat) : Int)) 0 1 [] (List.replicate (Int.toNat ((l1.length : Nat) : Int)) (AV.bool false)) [AV.int .i64 0]
theorem isoOrder_eq (l1 : LA) : runF gl R N isoOrder [AV.row 4 l1] = isoOrderr R N l1 := by
  unfold isoOrderr
  simp (disch := (intros; refine id ?_; kernel_rfl)) only [isoOrder_L1_eq R N (Kblock 0 (Kthen gl R N isoOrder_c1 (Kret isoOrder.rets [])))]
  kernel_rfl
theorem isoOrder_fit : fitF Tryd.prog isoOrder Tryd.f29 = true := by
  kernel_rfl

def isoCanon_L1s (R : RT) (N : Nat) (go : LA → LA → Nat → LA → Int → Int → LA → OR) (k0 : LA → LA → RT) (l3 l4 : LA) (n1 : Nat) (l5 : LA) (i1 i2 : Int) (l6 : LA) : OR :=
  bif decide ((i2 : Int) < i1) then
    (need (decide (0 ≤ (i2 : Int))) <|
    (l5[Int.toNat i2]?).bind fun e1 =>
    asI .i64 e1 fun i3 =>
    need (decide (0 ≤ (i3 : Int)) && decide ((i3 : Int) < ((n1 : Nat) : Int))) <|
    (l6[0 + Int.toNat i3]?).bind fun e2 =>
    needSt e2 (AV.int .i64 i2) 0 1 <|
    go l3 l4 n1 l5 i1 (IntKind.i64.wrap (i2 + 1)) (l6.set (0 + Int.toNat i3) (AV.int .i64 i2)))
  else
    k0 l3 l4 n1 l6
def isoCanon_L1 (R : RT) (N : Nat) (k0 : LA → LA → RT) : Nat → LA → LA → Nat → LA → Int → Int → LA → OR
  | 0, _, _, _, _, _, _, _ => none
  | n + 1, l3, l4, n1, l5, i1, i2, l6 => isoCanon_L1s R N (isoCanon_L1 R N k0 n) k0 l3 l4 n1 l5 i1 i2 l6
def isoCanon_c0 : AC := .seq (.region [oP 24 (.bin .lss (.t 23) (.t 22))]) (.seq (.cond (.t 24) (.skip) (.exit 0 [0, 3, 4] [20])) (.seq (.block 1 (.seq (.region [oM 25 23, oP 26 (.iaddr (.t 21) (.t 23) 1 tI), oP 27 (.load (.t 26) none tI), oM 5 25, oM 6 27]) (.region [oM 28 4, oM 29 6, oM 30 5, oP 31 (.iaddr (.t 28) (.t 29) 1 tI), .op none none (.store (.t 31) (.t 30) 1)]))) (.region [oP 32 (.bin .add (.t 23) (.k (.int .i64 1))), oM 23 32])))
theorem isoCanon_L1s_eq (k0 : LA → LA → RT) (h0 : ∀ (l10 l11 : LA) (n3 : Nat) (l12 : LA), K (.exit 0) ⟨[vR 0 4 l10, vR 3 1 l11, (4, .own 20 0 n3 none)], [(20, .row 1 l12 false)]⟩ = k0 l10 l11 n3 l12) (l3 l4 : LA) (n1 : Nat) (l5 : LA) (i1 i2 : Int) (l6 : LA) : isoCanon_L1s R N (fun (l3 l4 : LA) (n1 : Nat) (l5 : LA) (i1 i2 : Int) (l6 : LA) => W ⟨[vR 0 4 l3, vR 3 1 l4, (4, .own 20 0 n1 none), vR 21 1 l5, vI 22 i1, vI 23 i2], [(20, .row 1 l6 false)]⟩) k0 l3 l4 n1 l5 i1 i2 l6 =
    evC gl R N isoCanon_c0 (Kseq (fun st' => W (prune [0, 3, 4, 21, 22, 23] [20] st')) K) ⟨[vR 0 4 l3, vR 3 1 l4, (4, .own 20 0 n1 none), vR 21 1 l5, vI 22 i1, vI 23 i2], [(20, .row 1 l6 false)]⟩ := by
  unfold isoCanon_L1s
  simp (disch := (intros; refine id ?_; kernel_rfl)) only [← h0]
  kernel_rfl
theorem isoCanon_L1_eq (k0 : LA → LA → RT) (h0 : ∀ (l10 l11 : LA) (n3 : Nat) (l12 : LA), K (.exit 0) ⟨[vR 0 4 l10, vR 3 1 l11, (4, .own 20 0 n3 none)], [(20, .row 1 l12 false)]⟩ = k0 l10 l11 n3 l12) : ∀ (n : Nat) (l3 l4 : LA) (n1 : Nat) (l5 : LA) (i1 i2 : Int) (l6 : LA), isoCanon_L1 R N k0 n l3 l4 n1 l5 i1 i2 l6 = rounds [0, 3, 4, 21, 22, 23] [20] (evC gl R N isoCanon_c0) K n ⟨[vR 0 4 l3, vR 3 1 l4, (4, .own 20 0 n1 none), vR 21 1 l5, vI 22 i1, vI 23 i2], [(20, .row 1 l6 false)]⟩
  | 0, _, _, _, _, _, _, _ => rfl
  | n + 1, l3, l4, n1, l5, i1, i2, l6 => (congrArg (fun go => isoCanon_L1s R N go k0 l3 l4 n1 l5 i1 i2 l6) (funext fun l3 => funext fun l4 => funext fun n1 => funext fun l5 => funext fun i1 => funext fun i2 => funext fun l6 => isoCanon_L1_eq k0 h0 n l3 l4 n1 l5 i1 i2 l6)).trans (isoCanon_L1s_eq R N K (rounds [0, 3, 4, 21, 22, 23] [20] (evC gl R N isoCanon_c0) K n) k0 h0 l3 l4 n1 l5 i1 i2 l6)
def isoCanon_L3s (R : RT) (N : Nat) (go : LA → Nat → Nat → LA → Int → Int → Nat → Int → Int → LA → LA → LA → Int → LB → LB → Nat → OR) (k0 : LA → Nat → Nat → LA → Int → Int → LA → LA → LA → Int → LB → LB → Nat → OR) (l27 : LA) (n7 n8 : Nat) (l28 : LA) (i15 i16 : Int) (n9 : Nat) (i17 i18 : Int) (l29 l30 l31 : LA) (i19 : Int) (s5 s6 : LB) (n10 : Nat) : OR :=
  bif decide ((i18 : Int) < i17) then
    (need (decide (0 ≤ (i18 : Int)) && decide ((i18 : Int) < ((n9 : Nat) : Int))) <|
    (l31[0 + Int.toNat i18]?).bind fun e8 =>
    (e8.flat[0]?).bind fun v3 =>
    asI .i64 v3 fun i20 =>
    need (decide (0 ≤ (i20 : Int)) && decide ((i20 : Int) < ((n7 : Nat) : Int))) <|
    (l30[0 + Int.toNat i20]?).bind fun e9 =>
    (e9.flat[0]?).bind fun v4 =>
    asI .i64 v4 fun i21 =>
    need (decide (0 ≤ (i18 : Int)) && decide ((i18 : Int) < ((n10 : Nat) : Int))) <|
    (l31[0 + Int.toNat i18]?).bind fun e10 =>
    needSt e10 (AV.int .i64 i21) 0 1 <|
    go l27 n7 n8 l28 i15 i16 n9 i17 (IntKind.i64.wrap (i18 + 1)) l29 l30 (l31.set (0 + Int.toNat i18) (AV.int .i64 i21)) i19 s5 s6 n10)
  else
    k0 l27 n7 n8 l28 i15 i16 l29 l30 l31 i19 s5 s6 n10
def isoCanon_L3 (R : RT) (N : Nat) (k0 : LA → Nat → Nat → LA → Int → Int → LA → LA → LA → Int → LB → LB → Nat → OR) : Nat → LA → Nat → Nat → LA → Int → Int → Nat → Int → Int → LA → LA → LA → Int → LB → LB → Nat → OR
  | 0, _, _, _, _, _, _, _, _, _, _, _, _, _, _, _, _ => none
  | n + 1, l27, n7, n8, l28, i15, i16, n9, i17, i18, l29, l30, l31, i19, s5, s6, n10 => isoCanon_L3s R N (isoCanon_L3 R N k0 n) k0 l27 n7 n8 l28 i15 i16 n9 i17 i18 l29 l30 l31 i19 s5 s6 n10
def isoCanon_c1 : AC := .seq (.region [oP 51 (.bin .lss (.t 50) (.t 49))]) (.seq (.cond (.t 51) (.skip) (.exit 4 [0, 4, 7, 10, 33, 34, 35] [7, 20, 45, 1010])) (.seq (.block 5 (.seq (.region [oM 52 50, oP 53 (.iaddr (.t 48) (.t 50) 1 tI), oP 54 (.load (.t 53) none tI), oM 11 52, oM 12 54]) (.regionD [0, 4, 7, 10, 33, 34, 35, 48, 49, 50] [7, 20, 45, 1010] [oP 55 (.faddr (.t 10) 3), oP 56 (.load (.t 55) none (.row 1)), oM 57 11, oM 58 4, oM 59 12, oP 60 (.iaddr (.t 58) (.t 59) 1 tI), oP 61 (.load (.t 60) none tI), oP 62 (.iaddr (.t 56) (.t 57) 1 tI)] [.op none none (.store (.t 62) (.t 61) 1)]))) (.region [oP 63 (.bin .add (.t 50) (.k (.int .i64 1))), oM 50 63])))
theorem isoCanon_L3s_eq (k0 : LA → Nat → Nat → LA → Int → Int → LA → LA → LA → Int → LB → LB → Nat → OR) (h0 : ∀ (l37 : LA) (n14 n15 : Nat) (l38 : LA) (i25 i26 : Int) (l39 l40 l41 : LA) (i27 : Int) (s9 s10 : LB) (n16 : Nat), K (.exit 4) ⟨[vR 0 4 l37, (4, .own 20 0 n14 none), (7, .own 7 0 n15 none), (10, .ptr 1010 0 0), vR 33 1 l38, vI 34 i25, vI 35 i26], [(7, .row 4 l39 false), (20, .row 1 l40 false), (45, .row 1 l41 false), (1010, .box [.imm (AV.int .i64 i27), .imm (AV.str s9), .imm (AV.str s10), .own 45 0 n16 none])]⟩ = k0 l37 n14 n15 l38 i25 i26 l39 l40 l41 i27 s9 s10 n16) (l27 : LA) (n7 n8 : Nat) (l28 : LA) (i15 i16 : Int) (n9 : Nat) (i17 i18 : Int) (l29 l30 l31 : LA) (i19 : Int) (s5 s6 : LB) (n10 : Nat) : isoCanon_L3s R N (fun (l27 : LA) (n7 n8 : Nat) (l28 : LA) (i15 i16 : Int) (n9 : Nat) (i17 i18 : Int) (l29 l30 l31 : LA) (i19 : Int) (s5 s6 : LB) (n10 : Nat) => W ⟨[vR 0 4 l27, (4, .own 20 0 n7 none), (7, .own 7 0 n8 none), (10, .ptr 1010 0 0), vR 33 1 l28, vI 34 i15, vI 35 i16, (48, .own 45 0 n9 none), vI 49 i17, vI 50 i18], [(7, .row 4 l29 false), (20, .row 1 l30 false), (45, .row 1 l31 false), (1010, .box [.imm (AV.int .i64 i19), .imm (AV.str s5), .imm (AV.str s6), .own 45 0 n10 none])]⟩) k0 l27 n7 n8 l28 i15 i16 n9 i17 i18 l29 l30 l31 i19 s5 s6 n10 =
    evC gl R N isoCanon_c1 (Kseq (fun st' => W (prune [0, 4, 7, 10, 33, 34, 35, 48, 49, 50] [7, 20, 45, 1010] st')) K) ⟨[vR 0 4 l27, (4, .own 20 0 n7 none), (7, .own 7 0 n8 none), (10, .ptr 1010 0 0), vR 33 1 l28, vI 34 i15, vI 35 i16, (48, .own 45 0 n9 none), vI 49 i17, vI 50 i18], [(7, .row 4 l29 false), (20, .row 1 l30 false), (45, .row 1 l31 false), (1010, .box [.imm (AV.int .i64 i19), .imm (AV.str s5), .imm (AV.str s6), .own 45 0 n10 none])]⟩ := by
  unfold isoCanon_L3s
  simp (disch := (intros; refine id ?_; kernel_rfl)) only [← h0]
  kernel_rfl
theorem isoCanon_L3_eq (k0 : LA → Nat → Nat → LA → Int → Int → LA → LA → LA → Int → LB → LB → Nat → OR) (h0 : ∀ (l37 : LA) (n14 n15 : Nat) (l38 : LA) (i25 i26 : Int) (l39 l40 l41 : LA) (i27 : Int) (s9 s10 : LB) (n16 : Nat), K (.exit 4) ⟨[vR 0 4 l37, (4, .own 20 0 n14 none), (7, .own 7 0 n15 none), (10, .ptr 1010 0 0), vR 33 1 l38, vI 34 i25, vI 35 i26], [(7, .row 4 l39 false), (20, .row 1 l40 false), (45, .row 1 l41 false), (1010, .box [.imm (AV.int .i64 i27), .imm (AV.str s9), .imm (AV.str s10), .own 45 0 n16 none])]⟩ = k0 l37 n14 n15 l38 i25 i26 l39 l40 l41 i27 s9 s10 n16) : ∀ (n : Nat) (l27 : LA) (n7 n8 : Nat) (l28 : LA) (i15 i16 : Int) (n9 : Nat) (i17 i18 : Int) (l29 l30 l31 : LA) (i19 : Int) (s5 s6 : LB) (n10 : Nat), isoCanon_L3 R N k0 n l27 n7 n8 l28 i15 i16 n9 i17 i18 l29 l30 l31 i19 s5 s6 n10 = rounds [0, 4, 7, 10, 33, 34, 35, 48, 49, 50] [7, 20, 45, 1010] (evC gl R N isoCanon_c1) K n ⟨[vR 0 4 l27, (4, .own 20 0 n7 none), (7, .own 7 0 n8 none), (10, .ptr 1010 0 0), vR 33 1 l28, vI 34 i15, vI 35 i16, (48, .own 45 0 n9 none), vI 49 i17, vI 50 i18], [(7, .row 4 l29 false), (20, .row 1 l30 false), (45, .row 1 l31 false), (1010, .box [.imm (AV.int .i64 i19), .imm (AV.str s5), .imm (AV.str s6), .own 45 0 n10 none])]⟩
  | 0, _, _, _, _, _, _, _, _, _, _, _, _, _, _, _, _ => rfl
  | n + 1, l27, n7, n8, l28, i15, i16, n9, i17, i18, l29, l30, l31, i19, s5, s6, n10 => (congrArg (fun go => isoCanon_L3s R N go k0 l27 n7 n8 l28 i15 i16 n9 i17 i18 l29 l30 l31 i19 s5 s6 n10) (funext fun l27 => funext fun n7 => funext fun n8 => funext fun l28 => funext fun i15 => funext fun i16 => funext fun n9 => funext fun i17 => funext fun i18 => funext fun l29 => funext fun l30 => funext fun l31 => funext fun i19 => funext fun s5 => funext fun s6 => funext fun n10 => isoCanon_L3_eq k0 h0 n l27 n7 n8 l28 i15 i16 n9 i17 i18 l29 l30 l31 i19 s5 s6 n10)).trans (isoCanon_L3s_eq R N K (rounds [0, 4, 7, 10, 33, 34, 35, 48, 49, 50] [7, 20, 45, 1010] (evC gl R N isoCanon_c1) K n) k0 h0 l27 n7 n8 l28 i15 i16 n9 i17 i18 l29 l30 l31 i19 s5 s6 n10)
def isoCanon_L2s (R : RT) (N : Nat) (go : LA → Nat → LA → Int → Int → LA → LA → OR) (k0 : LA → OR) (l16 : LA) (n5 : Nat) (l17 : LA) (i4 i5 : Int) (l18 l19 : LA) : OR :=
  bif decide ((i5 : Int) < i4) then
    (need (decide (0 ≤ (i5 : Int))) <|
    (l17[Int.toNat i5]?).bind fun e3 =>
    asI .i64 e3 fun i6 =>
    need (decide (0 ≤ (i6 : Int))) <|
    (l16[Int.toNat i6]?).bind fun e4 =>
    asISSRA e4 fun i7 s1 s2 l20 =>
    (R id_slicesCloneIntInt [AV.row 1 l20]).bind fun r2 =>
    need r2.own <|
    asR 1 r2.v fun l21 =>
    isoCanon_L3 R N
      (fun l42 n17 n18 l43 i28 i29 l44 l45 l46 i30 s11 s12 n19 =>
    need (decide (((l44.drop 0).take n18).length + [AV.agg [AV.int .i64 i30, AV.str s11, AV.str s12, AV.row 1 ((l46.drop 0).take n19)]].length ≤ 1099511627776)) <|
    go l42 n17 l43 i28 (IntKind.i64.wrap (i29 + 1)) (((l44.drop 0).take n18) ++ [AV.agg [AV.int .i64 i30, AV.str s11, AV.str s12, AV.row 1 ((l46.drop 0).take n19)]]) l45)
      N l16 n5 l18.length l17 i4 i5 l21.length ((l21.length : Nat) : Int) 0 l18 l19 l21 i7 s1 s2 l21.length)
  else
    k0 l18
def isoCanon_L2 (R : RT) (N : Nat) (k0 : LA → OR) : Nat → LA → Nat → LA → Int → Int → LA → LA → OR
  | 0, _, _, _, _, _, _, _ => none
  | n + 1, l16, n5, l17, i4, i5, l18, l19 => isoCanon_L2s R N (isoCanon_L2 R N k0 n) k0 l16 n5 l17 i4 i5 l18 l19
def isoCanon_c2 : AC := .region [oM 64 7, oP 65 (.loadG (.t 10) 4 tT), oP 66 (.bslice [.t 65] 4 false), oP 67 (.app 7 (.t 64) (.t 66) 4 .any false), oM 7 67]
def isoCanon_c3 : AC := .region [oP 68 (.bin .add (.t 35) (.k (.int .i64 1))), oM 35 68]
def isoCanon_c4 : AC := .seq (.region [oP 36 (.bin .lss (.t 35) (.t 34))]) (.seq (.cond (.t 36) (.skip) (.exit 2 [7] [7])) (.seq (.block 3 (.seq (.region [oP 37 (.iaddr (.t 33) (.t 35) 1 tI), oP 38 (.load (.t 37) none tI), oM 9 38]) (.seq (.region [oM 39 0, oM 40 9, oP 41 (.iaddr (.t 39) (.t 40) 4 tT), oP 42 (.load (.t 41) (some 4) tT), oP 10 (.alloc 1010 [.int .i64 0, .str [], .str [], .row 1 []]), .op none none (.store (.t 10) (.t 42) 4)]) (.seq (.region [oP 43 (.faddr (.t 10) 3), oP 44 (.load (.t 43) none (.row 1)), oP 45 (.callOwn 45 id_slicesCloneIntInt [.t 44] 1 .any false), oP 46 (.faddr (.t 10) 3), .op none none (.store (.t 46) (.t 45) 1)]) (.seq (.seq (.region [oP 47 (.faddr (.t 10) 3), oP 48 (.load (.t 47) none (.row 1)), oP 49 (.len (.t 48) false), kI 50 0]) (.block 4 (.loop [0, 4, 7, 10, 33, 34, 35, 48, 49, 50] [7, 20, 45, 1010] (isoCanon_c1)))) (isoCanon_c2)))))) (isoCanon_c3)))
theorem isoCanon_L2s_eq (k0 : LA → OR) (h0 : ∀ (l48 : LA), K (.exit 2) ⟨[(7, .own 7 0 l48.length none)], [(7, .row 4 l48 false)]⟩ = k0 l48) (l16 : LA) (n5 : Nat) (l17 : LA) (i4 i5 : Int) (l18 l19 : LA) : isoCanon_L2s R N (fun (l16 : LA) (n5 : Nat) (l17 : LA) (i4 i5 : Int) (l18 l19 : LA) => W ⟨[vR 0 4 l16, (4, .own 20 0 n5 none), (7, .own 7 0 l18.length none), vR 33 1 l17, vI 34 i4, vI 35 i5], [(7, .row 4 l18 false), (20, .row 1 l19 false)]⟩) k0 l16 n5 l17 i4 i5 l18 l19 =
    evC gl R N isoCanon_c4 (Kseq (fun st' => W (prune [0, 4, 7, 33, 34, 35] [7, 20] st')) K) ⟨[vR 0 4 l16, (4, .own 20 0 n5 none), (7, .own 7 0 l18.length none), vR 33 1 l17, vI 34 i4, vI 35 i5], [(7, .row 4 l18 false), (20, .row 1 l19 false)]⟩ := by
  unfold isoCanon_L2s
  simp (disch := (intros; refine id ?_; kernel_rfl)) only [← h0, isoCanon_L3_eq R N (Kblock 4 (Kthen gl R N isoCanon_c2 (Kblock 3 (Kthen gl R N isoCanon_c3 (Kseq (fun st' => W (prune [0, 4, 7, 33, 34, 35] [7, 20] st')) K)))))]
  kernel_rfl
theorem isoCanon_L2_eq (k0 : LA → OR) (h0 : ∀ (l48 : LA), K (.exit 2) ⟨[(7, .own 7 0 l48.length none)], [(7, .row 4 l48 false)]⟩ = k0 l48) : ∀ (n : Nat) (l16 : LA) (n5 : Nat) (l17 : LA) (i4 i5 : Int) (l18 l19 : LA), isoCanon_L2 R N k0 n l16 n5 l17 i4 i5 l18 l19 = rounds [0, 4, 7, 33, 34, 35] [7, 20] (evC gl R N isoCanon_c4) K n ⟨[vR 0 4 l16, (4, .own 20 0 n5 none), (7, .own 7 0 l18.length none), vR 33 1 l17, vI 34 i4, vI 35 i5], [(7, .row 4 l18 false), (20, .row 1 l19 false)]⟩
  | 0, _, _, _, _, _, _, _ => rfl
  | n + 1, l16, n5, l17, i4, i5, l18, l19 => (congrArg (fun go => isoCanon_L2s R N go k0 l16 n5 l17 i4 i5 l18 l19) (funext fun l16 => funext fun n5 => funext fun l17 => funext fun i4 => funext fun i5 => funext fun l18 => funext fun l19 => isoCanon_L2_eq k0 h0 n l16 n5 l17 i4 i5 l18 l19)).trans (isoCanon_L2s_eq R N K (rounds [0, 4, 7, 33, 34, 35] [7, 20] (evC gl R N isoCanon_c4) K n) k0 h0 l16 n5 l17 i4 i5 l18 l19)
def isoCanon_c5 : AC := .seq (.region [oM 69 7, oM 2 69]) (.ret [2] [7])
def isoCanon_c6 : AC := .seq (.region [oP 7 (.nilOwn 7 (some (4, .any)))]) (.seq (.seq (.region [oM 33 3, oP 34 (.len (.t 33) false), kI 35 0]) (.block 2 (.loop [0, 4, 7, 33, 34, 35] [7, 20] (isoCanon_c4)))) (isoCanon_c5))
def isoCanon_c7 : AC := .seq (.region [oP 2 (.nilOwn 7 (some (4, .any)))]) (.seq (.seq (.region [oM 13 0, oP 14 (.len (.t 13) false), oP 15 (.bin .eql (.t 14) (.k (.int .i64 0)))]) (.cond (.t 15) (.seq (.region [oP 2 (.nilOwn 7 (some (4, .any)))]) (.ret [2] [7])) (.skip))) (.seq (.region [oM 16 0, oP 17 (.call id_isoOrder [.t 16] (.row 1)), oM 3 17]) (.seq (.region [oM 18 0, oP 19 (.len (.t 18) false), oP 20 (.mkOwn 20 (.t 19) 1 (.int .i64 0) false), oM 4 20]) (.seq (.seq (.region [oM 21 3, oP 22 (.len (.t 21) false), kI 23 0]) (.block 0 (.loop [0, 3, 4, 21, 22, 23] [20] (isoCanon_c0)))) (isoCanon_c6)))))
def isoCanon : AFunc := ⟨1, 70, [.tmp 2], isoCanon_c7⟩
def isoCanonr (R : RT) (N : Nat) (l1 : LA) : OR :=
  bif (((l1.length : Nat) : Int) : Int) == 0 then
    (some ⟨AV.row 4 ((([] : LA).drop 0).take 0), true, []⟩)
  else
    (R id_isoOrder [AV.row 4 l1]).bind fun r1 =>
    asR 1 r1.v fun l2 =>
    need (decide (0 ≤ (((l1.length : Nat) : Int) : Int)) && decide ((((l1.length : Nat) : Int) : Int) ≤ 1099511627776)) <|
    isoCanon_L1 R N
      (fun l13 l14 n4 l15 =>
    isoCanon_L2 R N
      (fun l49 =>
    some ⟨AV.row 4 ((l49.drop 0).take l49.length), true, []⟩)
      N l13 n4 l14 ((l14.length : Nat) : Int) 0 [] l15)
      N l1 l2 (Int.toNat ((l1.length : Nat) : Int)) l2 ((l2.length : Nat) : Int) 0 (List.replicate (Int.toNat ((l1.length : Nat) : Int)) (AV.int .i64 0))
theorem isoCanon_eq (l1 : LA) : runF gl R N isoCanon [AV.row 4 l1] = isoCanonr R N l1 := by
  unfold isoCanonr
  simp (disch := (intros; refine id ?_; kernel_rfl)) only [isoCanon_L1_eq R N (Kblock 0 (Kthen gl R N isoCanon_c6 (Kret isoCanon.rets []))), isoCanon_L2_eq R N (Kblock 2 (Kthen gl R N isoCanon_c5 (Kret isoCanon.rets [])))]
  kernel_rfl
theorem isoCanon_fit : fitF Tryd.prog isoCanon Tryd.f11 = true := by
  kernel_rfl

def slicesEqualFuncT_L1s (R : RT) (N : Nat) (go : LA → Nat → LA → LA → Int → Int → OR) (k0 : Bool → OR) (k1 : OR) (l3 : LA) (n1 : Nat) (l4 l5 : LA) (i1 i2 : Int) : OR :=
  bif decide ((i2 : Int) < i1) then
    (need (decide (0 ≤ (i2 : Int))) <|
    (l5[Int.toNat i2]?).bind fun e1 =>
    asISSRA e1 fun i3 s1 s2 l6 =>
    need (decide (0 ≤ (i2 : Int))) <|
    (l3[Int.toNat i2]?).bind fun e2 =>
    asISSRA e2 fun i4 s3 s4 l7 =>
    (R n1 ([AV.agg [AV.int .i64 i3, AV.str s1, AV.str s2, AV.row 1 l6], AV.agg [AV.int .i64 i4, AV.str s3, AV.str s4, AV.row 1 l7]] ++ l4)).bind fun r1 =>
    asB r1.v fun b1 =>
    bif !b1 then
    (k0 false)
    else
    go l3 n1 l4 l5 i1 (IntKind.i64.wrap (i2 + 1)))
  else
    k1
def slicesEqualFuncT_L1 (R : RT) (N : Nat) (k0 : Bool → OR) (k1 : OR) : Nat → LA → Nat → LA → LA → Int → Int → OR
  | 0, _, _, _, _, _, _ => none
  | n + 1, l3, n1, l4, l5, i1, i2 => slicesEqualFuncT_L1s R N (slicesEqualFuncT_L1 R N k0 k1 n) k0 k1 l3 n1 l4 l5 i1 i2
def slicesEqualFuncT_c0 : AC := .seq (.region [oP 18 (.bin .lss (.t 17) (.t 16))]) (.seq (.cond (.t 18) (.skip) (.exit 0 [] [])) (.seq (.block 1 (.seq (.region [oM 19 17, oP 20 (.iaddr (.t 15) (.t 17) 4 tT), oP 21 (.load (.t 20) (some 4) tT), oP 8 (.alloc 1008 [.int .i64 0, .str [], .str [], .row 1 []]), oM 7 19, .op none none (.store (.t 8) (.t 21) 4)]) (.seq (.region [oM 22 1, oM 23 7, oP 24 (.iaddr (.t 22) (.t 23) 4 tT), oP 25 (.load (.t 24) (some 4) tT), oP 9 (.alloc 1009 [.int .i64 0, .str [], .str [], .row 1 []]), .op none none (.store (.t 9) (.t 25) 4)]) (.seq (.region [oM 26 2, oP 27 (.load (.t 8) (some 4) tT), oP 28 (.load (.t 9) (some 4) tT), oP 29 (.callF (.t 26) [.t 27, .t 28] (.bool)), oP 30 (.un .not (.t 29))]) (.cond (.t 30) (.seq (.region [kB 6 false]) (.ret [6] [])) (.skip)))))) (.region [oP 31 (.bin .add (.t 17) (.k (.int .i64 1))), oM 17 31])))
theorem slicesEqualFuncT_L1s_eq (k0 : Bool → OR) (k1 : OR) (h0 : ∀ (b3 : Bool), K .ret ⟨[vB 6 b3], []⟩ = k0 b3) (h1 : K (.exit 0) ⟨[], []⟩ = k1) (l3 : LA) (n1 : Nat) (l4 l5 : LA) (i1 i2 : Int) : slicesEqualFuncT_L1s R N (fun (l3 : LA) (n1 : Nat) (l4 l5 : LA) (i1 i2 : Int) => W ⟨[vR 1 4 l3, (2, .imm (AV.fn n1 l4)), vR 15 4 l5, vI 16 i1, vI 17 i2], []⟩) k0 k1 l3 n1 l4 l5 i1 i2 =
    evC gl R N slicesEqualFuncT_c0 (Kseq (fun st' => W (prune [1, 2, 15, 16, 17] [] st')) K) ⟨[vR 1 4 l3, (2, .imm (AV.fn n1 l4)), vR 15 4 l5, vI 16 i1, vI 17 i2], []⟩ := by
  unfold slicesEqualFuncT_L1s
  simp (disch := (intros; refine id ?_; kernel_rfl)) only [← h0, ← h1]
  kernel_rfl
theorem slicesEqualFuncT_L1_eq (k0 : Bool → OR) (k1 : OR) (h0 : ∀ (b3 : Bool), K .ret ⟨[vB 6 b3], []⟩ = k0 b3) (h1 : K (.exit 0) ⟨[], []⟩ = k1) : ∀ (n : Nat) (l3 : LA) (n1 : Nat) (l4 l5 : LA) (i1 i2 : Int), slicesEqualFuncT_L1 R N k0 k1 n l3 n1 l4 l5 i1 i2 = rounds [1, 2, 15, 16, 17] [] (evC gl R N slicesEqualFuncT_c0) K n ⟨[vR 1 4 l3, (2, .imm (AV.fn n1 l4)), vR 15 4 l5, vI 16 i1, vI 17 i2], []⟩
  | 0, _, _, _, _, _, _ => rfl
  | n + 1, l3, n1, l4, l5, i1, i2 => (congrArg (fun go => slicesEqualFuncT_L1s R N go k0 k1 l3 n1 l4 l5 i1 i2) (funext fun l3 => funext fun n1 => funext fun l4 => funext fun l5 => funext fun i1 => funext fun i2 => slicesEqualFuncT_L1_eq k0 k1 h0 h1 n l3 n1 l4 l5 i1 i2)).trans (slicesEqualFuncT_L1s_eq R N K (rounds [1, 2, 15, 16, 17] [] (evC gl R N slicesEqualFuncT_c0) K n) k0 k1 h0 h1 l3 n1 l4 l5 i1 i2)
def slicesEqualFuncT_c1 : AC := .seq (.region [kB 6 true]) (.ret [6] [])
def slicesEqualFuncT_c2 : AC := .seq (.region [kB 6 false]) (.seq (.seq (.region [oM 10 0, oP 11 (.len (.t 10) false), oM 12 1, oP 13 (.len (.t 12) false), oP 14 (.bin .neq (.t 11) (.t 13))]) (.cond (.t 14) (.seq (.region [kB 6 false]) (.ret [6] [])) (.skip))) (.seq (.seq (.region [oM 15 0, oP 16 (.len (.t 15) false), kI 17 0]) (.block 0 (.loop [1, 2, 15, 16, 17] [] (slicesEqualFuncT_c0)))) (slicesEqualFuncT_c1)))
def slicesEqualFuncT : AFunc := ⟨3, 32, [.tmp 6], slicesEqualFuncT_c2⟩
def slicesEqualFuncTr (R : RT) (N : Nat) (l1 l2 : LA) (f1 : Nat) (c1 : LA) : OR :=
  bif (((l1.length : Nat) : Int) : Int) != ((l2.length : Nat) : Int) then
    (some ⟨AV.bool false, false, []⟩)
  else
    slicesEqualFuncT_L1 R N
      (fun b4 =>
    some ⟨AV.bool b4, false, []⟩)
      (
    some ⟨AV.bool true, false, []⟩)
      N l2 f1 c1 l1 ((l1.length : Nat) : Int) 0
theorem slicesEqualFuncT_eq (l1 l2 : LA) (f1 : Nat) (c1 : LA) : runF gl R N slicesEqualFuncT [AV.row 4 l1, AV.row 4 l2, AV.fn f1 c1] = slicesEqualFuncTr R N l1 l2 f1 c1 := by
  unfold slicesEqualFuncTr
  simp (disch := (intros; refine id ?_; kernel_rfl)) only [slicesEqualFuncT_L1_eq R N (Kblock 0 (Kthen gl R N slicesEqualFuncT_c1 (Kret slicesEqualFuncT.rets [])))]
  kernel_rfl
theorem slicesEqualFuncT_fit : fitF Tryd.prog slicesEqualFuncT Tryd.f32 = true := by
  kernel_rfl

def isoSame_c0 : AC := .seq (.region [kB 4 false]) (.seq (.region [oM 5 0, oP 6 (.call id_isoCanon [.t 5] (.row 4)), oM 7 1, oP 8 (.call id_isoCanon [.t 7] (.row 4)), oP 9 (.call id_slicesEqualFuncT [.t 6, .t 8, .k (.fn id_isoSame1 [])] (.bool)), oM 4 9]) (.ret [4] []))
def isoSame : AFunc := ⟨2, 10, [.tmp 4], isoSame_c0⟩
def isoSamer (R : RT) (N : Nat) (l1 l2 : LA) : OR :=
  (R id_isoCanon [AV.row 4 l1]).bind fun r1 =>
  asR 4 r1.v fun l3 =>
  (R id_isoCanon [AV.row 4 l2]).bind fun r2 =>
  asR 4 r2.v fun l4 =>
  (R id_slicesEqualFuncT [AV.row 4 l3, AV.row 4 l4, AV.fn id_isoSame1 []]).bind fun r3 =>
  asB r3.v fun b1 =>
  some ⟨AV.bool b1, false, []⟩
theorem isoSame_eq (l1 l2 : LA) : runF gl R N isoSame [AV.row 4 l1, AV.row 4 l2] = isoSamer R N l1 l2 := by
  unfold isoSamer
  kernel_rfl
theorem isoSame_fit : fitF Tryd.prog isoSame Tryd.f16 = true := by
  kernel_rfl

def keepCopyApiThing_c0 : AC := .seq (.region [oP 2 (.nilOwn 4 (some (4, .any)))]) (.seq (.region [oM 3 0, oP 4 (.appNil 4 (.t 3) 4 false), oM 2 4]) (.ret [2] [4]))
def keepCopyApiThing : AFunc := ⟨1, 5, [.tmp 2], keepCopyApiThing_c0⟩
def keepCopyApiThingr (R : RT) (N : Nat) (l1 : LA) : OR :=
  need (decide (l1.length ≤ 1099511627776)) <|
  some ⟨AV.row 4 ((l1.drop 0).take l1.length), true, []⟩
theorem keepCopyApiThing_eq (l1 : LA) : runF gl R N keepCopyApiThing [AV.row 4 l1] = keepCopyApiThingr R N l1 := by
  unfold keepCopyApiThingr
  kernel_rfl
theorem keepCopyApiThing_fit : fitF Tryd.prog keepCopyApiThing Tryd.f26 = true := by
  kernel_rfl

def law18Wakes_c0 : AC := .seq (.region [kB 0 false]) (.seq (.region [oP 2 (.build [.int .i64 0, .str [], .str [], .row 1 []] [(0, 1, .k (.int .i64 1)), (1, 1, .k (.str ([33, 33, 115, 116, 114] : LB))), (2, 1, .k (.str ([97] : LB)))]), oP 3 (.bslice [.t 2] 4 false), oM 1 3]) (.seq (.regionX [0] [] [6, 10] [oM 4 1, oM 5 1, oP 6 (.callOwn 6 id_keepCopyApiThing [.t 5] 4 .any false), oM 7 1, oP 8 (.iaddr (.t 7) (.k (.int .i64 0)) 4 tT), oP 9 (.load (.t 8) (some 4) tT), oP 10 (.bslice [.t 9] 4 false)] (some 11) (.app 6 (.t 6) (.t 10) 4 .any false) [] [oP 12 (.call id_isoSame [.t 4, .t 11] (.bool)), oM 13 12, .split 13, oG 14 13 true (.mv (.t 1)), oG 15 13 true (.call id_isoValid [.t 14] (.bool)), oP 16 (.pick (.t 13) (.t 15) (.k (.bool false))), oM 17 16, .split 17, oG 18 17 true (.call id_isoValid [.k (.row 4 [])] (.bool)), oG 19 17 true (.un .not (.t 18)), oP 20 (.pick (.t 17) (.t 19) (.k (.bool false))), oM 0 20]) (.ret [0] [])))
def law18Wakes : AFunc := ⟨0, 21, [.tmp 0], law18Wakes_c0⟩
def law18Wakesr (R : RT) (N : Nat) : OR :=
  (R id_keepCopyApiThing [AV.row 4 [AV.agg [AV.int .i64 1, AV.str ([33, 33, 115, 116, 114] : LB), AV.str ([97] : LB), AV.row 1 []]]]).bind fun r1 =>
  need r1.own <|
  asR 4 r1.v fun l1 =>
  need (decide (0 ≤ (0 : Int))) <|
  (([AV.agg [AV.int .i64 1, AV.str ([33, 33, 115, 116, 114] : LB), AV.str ([97] : LB), AV.row 1 []]] : LA)[Int.toNat 0]?).bind fun e1 =>
  asISSRA e1 fun i1 s1 s2 l2 =>
  need (decide (((l1.drop 0).take l1.length).length + [AV.agg [AV.int .i64 i1, AV.str s1, AV.str s2, AV.row 1 l2]].length ≤ 1099511627776)) <|
  (R id_isoSame [AV.row 4 [AV.agg [AV.int .i64 1, AV.str ([33, 33, 115, 116, 114] : LB), AV.str ([97] : LB), AV.row 1 []]], AV.row 4 (((((l1.drop 0).take l1.length) ++ [AV.agg [AV.int .i64 i1, AV.str s1, AV.str s2, AV.row 1 l2]]).drop 0).take ((((l1.drop 0).take l1.length) ++ [AV.agg [AV.int .i64 i1, AV.str s1, AV.str s2, AV.row 1 l2]]).length))]).bind fun r2 =>
  asB r2.v fun b1 =>
  bif b1 then
    ((R id_isoValid [AV.row 4 [AV.agg [AV.int .i64 1, AV.str ([33, 33, 115, 116, 114] : LB), AV.str ([97] : LB), AV.row 1 []]]]).bind fun r3 =>
    asB r3.v fun b2 =>
    bif b2 then
    ((R id_isoValid [AV.row 4 []]).bind fun r4 =>
    asB r4.v fun b3 =>
    some ⟨AV.bool (!b3), false, []⟩)
    else
    some ⟨AV.bool false, false, []⟩)
  else
    some ⟨AV.bool false, false, []⟩
theorem law18Wakes_eq : runF gl R N law18Wakes [] = law18Wakesr R N := by
  unfold law18Wakesr
  kernel_rfl
theorem law18Wakes_fit : fitF Tryd.prog law18Wakes Tryd.f7 = true := by
  kernel_rfl

def isoDepths_L1s (R : RT) (N : Nat) (go : LA → Int → Nat → Nat → LA → Int → Int → LA → LA → OR) (k0 : Bool → LA → LA → OR) (k1 : LA → Int → Nat → Nat → LA → LA → OR) (l11 : LA) (i11 : Int) (n2 n3 : Nat) (l12 : LA) (i12 i13 : Int) (l13 l14 : LA) : OR :=
  bif decide ((i13 : Int) < i12) then
    (need (decide (0 ≤ (i13 : Int))) <|
    (l12[Int.toNat i13]?).bind fun e9 =>
    asI .i64 e9 fun i14 =>
    need (Nat.beq n2 l13.length) <|
    need (Nat.beq n3 l14.length) <|
    (R id_isoDepths [AV.row 4 l11, AV.int .i64 i14, AV.ref (AV.row 1 l13), AV.ref (AV.row 1 l14)]).bind fun r2 =>
    asC r2.outs fun o3 q3 =>
    asRf o3 fun c3 =>
    asR 1 c3 fun l15 =>
    asC q3 fun o4 q4 =>
    asRf o4 fun c4 =>
    asR 1 c4 fun l16 =>
    asN q4 <|
    need (Nat.beq l15.length l13.length) <|
    need (Nat.beq l16.length l14.length) <|
    asB r2.v fun b2 =>
    bif !b2 then
    (k0 false l15 l16)
    else
    need (decide (0 ≤ (i11 : Int)) && decide ((i11 : Int) < ((n3 : Nat) : Int))) <|
    (l16[0 + Int.toNat i11]?).bind fun e10 =>
    (e10.flat[0]?).bind fun v5 =>
    asI .i64 v5 fun i15 =>
    need (decide (0 ≤ (i14 : Int)) && decide ((i14 : Int) < ((n3 : Nat) : Int))) <|
    (l16[0 + Int.toNat i14]?).bind fun e11 =>
    (e11.flat[0]?).bind fun v6 =>
    asI .i64 v6 fun i16 =>
    need (decide (0 ≤ (i11 : Int)) && decide ((i11 : Int) < ((n3 : Nat) : Int))) <|
    (l16[0 + Int.toNat i11]?).bind fun e12 =>
    needSt e12 (AV.int .i64 (if i16 > i15 then i16 else i15)) 0 1 <|
    go l11 i11 n2 n3 l12 i12 (IntKind.i64.wrap (i13 + 1)) l15 (l16.set (0 + Int.toNat i11) (AV.int .i64 (if i16 > i15 then i16 else i15))))
  else
    k1 l11 i11 n2 n3 l13 l14
def isoDepths_L1 (R : RT) (N : Nat) (k0 : Bool → LA → LA → OR) (k1 : LA → Int → Nat → Nat → LA → LA → OR) : Nat → LA → Int → Nat → Nat → LA → Int → Int → LA → LA → OR
  | 0, _, _, _, _, _, _, _, _, _ => none
  | n + 1, l11, i11, n2, n3, l12, i12, i13, l13, l14 => isoDepths_L1s R N (isoDepths_L1 R N k0 k1 n) k0 k1 l11 i11 n2 n3 l12 i12 i13 l13 l14
def isoDepths_c0 : AC := .seq (.region [oP 31 (.bin .lss (.t 30) (.t 29))]) (.seq (.cond (.t 31) (.skip) (.exit 0 [0, 1, 2, 3] [900002, 900003])) (.seq (.block 1 (.seq (.region [oP 32 (.iaddr (.t 28) (.t 30) 1 tI), oP 33 (.load (.t 32) none tI), oM 10 33]) (.seq (.seq (.region [oM 34 0, oM 35 10, oM 36 2, oM 37 3, oP 38 (.callM none id_isoDepths [.t 34, .t 35, .t 36, .t 37] [false, false, true, true] [some (.row 1), some (.row 1)] (.bool)), oP 39 (.un .not (.t 38))]) (.cond (.t 39) (.seq (.region [kB 8 false]) (.ret [8] [900002, 900003])) (.skip))) (.regionD [0, 1, 2, 3, 28, 29, 30] [900002, 900003] [oM 40 3, oM 41 1, oM 42 3, oM 43 1, oP 44 (.iaddr (.t 42) (.t 43) 1 tI), oP 45 (.load (.t 44) none tI), oM 46 3, oM 47 10, oP 48 (.iaddr (.t 46) (.t 47) 1 tI), oP 49 (.load (.t 48) none tI), oP 50 (.mx [.t 45, .t 49]), oP 51 (.iaddr (.t 40) (.t 41) 1 tI)] [.op none none (.store (.t 51) (.t 50) 1)])))) (.region [oP 52 (.bin .add (.t 30) (.k (.int .i64 1))), oM 30 52])))
theorem isoDepths_L1s_eq (k0 : Bool → LA → LA → OR) (k1 : LA → Int → Nat → Nat → LA → LA → OR) (h0 : ∀ (b4 : Bool) (l22 l23 : LA), K .ret ⟨[vB 8 b4], [(900002, .row 1 l22 false), (900003, .row 1 l23 false)]⟩ = k0 b4 l22 l23) (h1 : ∀ (l24 : LA) (i18 : Int) (n6 n7 : Nat) (l25 l26 : LA), K (.exit 0) ⟨[vR 0 4 l24, vI 1 i18, (2, .own 900002 0 n6 none), (3, .own 900003 0 n7 none)], [(900002, .row 1 l25 false), (900003, .row 1 l26 false)]⟩ = k1 l24 i18 n6 n7 l25 l26) (l11 : LA) (i11 : Int) (n2 n3 : Nat) (l12 : LA) (i12 i13 : Int) (l13 l14 : LA) : isoDepths_L1s R N (fun (l11 : LA) (i11 : Int) (n2 n3 : Nat) (l12 : LA) (i12 i13 : Int) (l13 l14 : LA) => W ⟨[vR 0 4 l11, vI 1 i11, (2, .own 900002 0 n2 none), (3, .own 900003 0 n3 none), vR 28 1 l12, vI 29 i12, vI 30 i13], [(900002, .row 1 l13 false), (900003, .row 1 l14 false)]⟩) k0 k1 l11 i11 n2 n3 l12 i12 i13 l13 l14 =
    evC gl R N isoDepths_c0 (Kseq (fun st' => W (prune [0, 1, 2, 3, 28, 29, 30] [900002, 900003] st')) K) ⟨[vR 0 4 l11, vI 1 i11, (2, .own 900002 0 n2 none), (3, .own 900003 0 n3 none), vR 28 1 l12, vI 29 i12, vI 30 i13], [(900002, .row 1 l13 false), (900003, .row 1 l14 false)]⟩ := by
  unfold isoDepths_L1s
  simp (disch := (intros; refine id ?_; kernel_rfl)) only [← h0, ← h1]
  kernel_rfl
theorem isoDepths_L1_eq (k0 : Bool → LA → LA → OR) (k1 : LA → Int → Nat → Nat → LA → LA → OR) (h0 : ∀ (b4 : Bool) (l22 l23 : LA), K .ret ⟨[vB 8 b4], [(900002, .row 1 l22 false), (900003, .row 1 l23 false)]⟩ = k0 b4 l22 l23) (h1 : ∀ (l24 : LA) (i18 : Int) (n6 n7 : Nat) (l25 l26 : LA), K (.exit 0) ⟨[vR 0 4 l24, vI 1 i18, (2, .own 900002 0 n6 none), (3, .own 900003 0 n7 none)], [(900002, .row 1 l25 false), (900003, .row 1 l26 false)]⟩ = k1 l24 i18 n6 n7 l25 l26) : ∀ (n : Nat) (l11 : LA) (i11 : Int) (n2 n3 : Nat) (l12 : LA) (i12 i13 : Int) (l13 l14 : LA), isoDepths_L1 R N k0 k1 n l11 i11 n2 n3 l12 i12 i13 l13 l14 = rounds [0, 1, 2, 3, 28, 29, 30] [900002, 900003] (evC gl R N isoDepths_c0) K n ⟨[vR 0 4 l11, vI 1 i11, (2, .own 900002 0 n2 none), (3, .own 900003 0 n3 none), vR 28 1 l12, vI 29 i12, vI 30 i13], [(900002, .row 1 l13 false), (900003, .row 1 l14 false)]⟩
  | 0, _, _, _, _, _, _, _, _, _ => rfl
  | n + 1, l11, i11, n2, n3, l12, i12, i13, l13, l14 => (congrArg (fun go => isoDepths_L1s R N go k0 k1 l11 i11 n2 n3 l12 i12 i13 l13 l14) (funext fun l11 => funext fun i11 => funext fun n2 => funext fun n3 => funext fun l12 => funext fun i12 => funext fun i13 => funext fun l13 => funext fun l14 => isoDepths_L1_eq k0 k1 h0 h1 n l11 i11 n2 n3 l12 i12 i13 l13 l14)).trans (isoDepths_L1s_eq R N K (rounds [0, 1, 2, 3, 28, 29, 30] [900002, 900003] (evC gl R N isoDepths_c0) K n) k0 k1 h0 h1 l11 i11 n2 n3 l12 i12 i13 l13 l14)
def isoDepths_c1 : AC := .seq (.seq (.region [oM 53 0, oM 54 1, oP 55 (.iaddr (.t 53) (.t 54) 4 tT), oP 56 (.faddr (.t 55) 0), oP 57 (.load (.t 56) none tI), oP 58 (.bin .neq (.t 57) (.k (.int .i64 1)))]) (.cond (.t 58) (.region [oM 59 3, oM 60 1, oP 61 (.iaddr (.t 59) (.t 60) 1 tI), oP 62 (.load (.t 61) none tI), oP 63 (.bin .add (.t 62) (.k (.int .i64 1))), oP 64 (.iaddr (.t 59) (.t 60) 1 tI), .op none none (.store (.t 64) (.t 63) 1)]) (.skip))) (.seq (.region [oM 65 2, oM 66 1, oP 67 (.iaddr (.t 65) (.t 66) 1 tI), .op none none (.store (.t 67) (.k (.int .i64 2)) 1)]) (.seq (.region [kB 8 true]) (.ret [8] [900002, 900003])))
def isoDepths_c2 : AC := .seq (.region [kB 8 false]) (.seq (.seq (.region [oM 11 2, oM 12 1, oP 13 (.iaddr (.t 11) (.t 12) 1 tI), oP 14 (.load (.t 13) none tI), oP 15 (.bin .eql (.t 14) (.k (.int .i64 1)))]) (.cond (.t 15) (.seq (.region [kB 8 false]) (.ret [8] [900002, 900003])) (.skip))) (.seq (.seq (.region [oM 16 2, oM 17 1, oP 18 (.iaddr (.t 16) (.t 17) 1 tI), oP 19 (.load (.t 18) none tI), oP 20 (.bin .eql (.t 19) (.k (.int .i64 2)))]) (.cond (.t 20) (.seq (.region [kB 8 true]) (.ret [8] [900002, 900003])) (.skip))) (.seq (.region [oM 21 2, oM 22 1, oP 23 (.iaddr (.t 21) (.t 22) 1 tI), .op none none (.store (.t 23) (.k (.int .i64 1)) 1)]) (.seq (.seq (.region [oM 24 0, oM 25 1, oP 26 (.iaddr (.t 24) (.t 25) 4 tT), oP 27 (.faddr (.t 26) 3), oP 28 (.load (.t 27) none (.row 1)), oP 29 (.len (.t 28) false), kI 30 0]) (.block 0 (.loop [0, 1, 2, 3, 28, 29, 30] [900002, 900003] (isoDepths_c0)))) (isoDepths_c1)))))
def isoDepths : AFunc := ⟨4, 68, [.tmp 8], isoDepths_c2⟩
def isoDepthsr (R : RT) (N : Nat) (l1 : LA) (i1 : Int) (l2 l3 : LA) : OR :=
  need (decide (0 ≤ (i1 : Int)) && decide ((i1 : Int) < ((l2.length : Nat) : Int))) <|
  (l2[0 + Int.toNat i1]?).bind fun e1 =>
  (e1.flat[0]?).bind fun v1 =>
  asI .i64 v1 fun i2 =>
  bif (i2 : Int) == 1 then
    (some ⟨AV.bool false, false, [AV.ref (AV.row 1 l2), AV.ref (AV.row 1 l3)]⟩)
  else
    need (decide (0 ≤ (i1 : Int)) && decide ((i1 : Int) < ((l2.length : Nat) : Int))) <|
    (l2[0 + Int.toNat i1]?).bind fun e2 =>
    (e2.flat[0]?).bind fun v2 =>
    asI .i64 v2 fun i3 =>
    bif (i3 : Int) == 2 then
    (some ⟨AV.bool true, false, [AV.ref (AV.row 1 l2), AV.ref (AV.row 1 l3)]⟩)
    else
    need (decide (0 ≤ (i1 : Int)) && decide ((i1 : Int) < ((l2.length : Nat) : Int))) <|
    (l2[0 + Int.toNat i1]?).bind fun e3 =>
    needSt e3 (AV.int .i64 1) 0 1 <|
    need (decide (0 ≤ (i1 : Int))) <|
    (l1[Int.toNat i1]?).bind fun e4 =>
    asISSRA e4 fun i4 s1 s2 l4 =>
    isoDepths_L1 R N
      (fun b5 l27 l28 =>
    some ⟨AV.bool b5, false, [AV.ref (AV.row 1 l27), AV.ref (AV.row 1 l28)]⟩)
      (fun l29 i19 n8 n9 l30 l31 =>
    need (decide (0 ≤ (i19 : Int))) <|
    (l29[Int.toNat i19]?).bind fun e13 =>
    asISSRA e13 fun i20 s3 s4 l32 =>
    bif (i20 : Int) != 1 then
    (need (decide (0 ≤ (i19 : Int)) && decide ((i19 : Int) < ((n9 : Nat) : Int))) <|
    (l31[0 + Int.toNat i19]?).bind fun e14 =>
    (e14.flat[0]?).bind fun v7 =>
    asI .i64 v7 fun i21 =>
    need (decide (0 ≤ (i19 : Int)) && decide ((i19 : Int) < ((n9 : Nat) : Int))) <|
    (l31[0 + Int.toNat i19]?).bind fun e15 =>
    needSt e15 (AV.int .i64 (IntKind.i64.wrap (i21 + 1))) 0 1 <|
    need (decide (0 ≤ (i19 : Int)) && decide ((i19 : Int) < ((n8 : Nat) : Int))) <|
    (l30[0 + Int.toNat i19]?).bind fun e16 =>
    needSt e16 (AV.int .i64 2) 0 1 <|
    some ⟨AV.bool true, false, [AV.ref (AV.row 1 (l30.set (0 + Int.toNat i19) (AV.int .i64 2))), AV.ref (AV.row 1 (l31.set (0 + Int.toNat i19) (AV.int .i64 (IntKind.i64.wrap (i21 + 1)))))]⟩)
    else
    need (decide (0 ≤ (i19 : Int)) && decide ((i19 : Int) < ((n8 : Nat) : Int))) <|
    (l30[0 + Int.toNat i19]?).bind fun e17 =>
    needSt e17 (AV.int .i64 2) 0 1 <|
    some ⟨AV.bool true, false, [AV.ref (AV.row 1 (l30.set (0 + Int.toNat i19) (AV.int .i64 2))), AV.ref (AV.row 1 l31)]⟩)
      N l1 i1 l2.length l3.length l4 ((l4.length : Nat) : Int) 0 (l2.set (0 + Int.toNat i1) (AV.int .i64 1)) l3
theorem isoDepths_eq (l1 : LA) (i1 : Int) (l2 l3 : LA) : runF gl R N isoDepths [AV.row 4 l1, AV.int .i64 i1, AV.ref (AV.row 1 l2), AV.ref (AV.row 1 l3)] = isoDepthsr R N l1 i1 l2 l3 := by
  unfold isoDepthsr
  simp (disch := (intros; refine id ?_; kernel_rfl)) only [isoDepths_L1_eq R N (Kblock 0 (Kthen gl R N isoDepths_c1 (Kret isoDepths.rets [900002, 900003])))]
  kernel_rfl
theorem isoDepths_fit : fitF Tryd.prog isoDepths Tryd.f27 = true := by
  kernel_rfl

def isoDepth_c0 : AC := .seq (.region [kI 2 0, kB 3 false]) (.seq (.region [oM 6 0, oP 7 (.call id_isoCanon [.t 6] (.row 4)), oM 4 7]) (.seq (.seq (.region [oM 8 4, oP 9 (.len (.t 8) false), oP 10 (.bin .eql (.t 9) (.k (.int .i64 0)))]) (.cond (.t 10) (.seq (.region [kI 2 0, kB 3 true]) (.ret [2, 3] [])) (.skip))) (.seq (.region [oM 11 4, oP 12 (.len (.t 11) false), oP 13 (.mkOwn 13 (.t 12) 1 (.int .i64 0) false), oM 5 13]) (.seq (.seq (.region [oM 14 4, oM 15 4, oP 16 (.len (.t 15) false), oP 17 (.mkOwn 17 (.t 16) 1 (.int .i64 0) false), oM 18 5, oP 19 (.callM none id_isoDepths [.t 14, .k (.int .i64 0), .t 17, .t 18] [false, false, true, true] [some (.row 1), some (.row 1)] (.bool)), oP 20 (.un .not (.t 19))]) (.cond (.t 20) (.seq (.region [kI 2 0, kB 3 false]) (.ret [2, 3] [])) (.skip))) (.seq (.region [oM 21 5, oP 22 (.iaddr (.t 21) (.k (.int .i64 0)) 1 tI), oP 23 (.load (.t 22) none tI), oM 2 23, kB 3 true]) (.ret [2, 3] []))))))
def isoDepth : AFunc := ⟨1, 24, [.tmp 2, .tmp 3], isoDepth_c0⟩
def isoDepthr (R : RT) (N : Nat) (l1 : LA) : OR :=
  (R id_isoCanon [AV.row 4 l1]).bind fun r1 =>
  asR 4 r1.v fun l2 =>
  bif (((l2.length : Nat) : Int) : Int) == 0 then
    (some ⟨AV.tup [AV.int .i64 0, AV.bool true], false, []⟩)
  else
    need (decide (0 ≤ (((l2.length : Nat) : Int) : Int)) && decide ((((l2.length : Nat) : Int) : Int) ≤ 1099511627776)) <|
    need (decide (0 ≤ (((l2.length : Nat) : Int) : Int)) && decide ((((l2.length : Nat) : Int) : Int) ≤ 1099511627776)) <|
    need (Nat.beq (Int.toNat ((l2.length : Nat) : Int)) ((List.replicate (Int.toNat ((l2.length : Nat) : Int)) (AV.int .i64 0)).length)) <|
    need (Nat.beq (Int.toNat ((l2.length : Nat) : Int)) ((List.replicate (Int.toNat ((l2.length : Nat) : Int)) (AV.int .i64 0)).length)) <|
    (R id_isoDepths [AV.row 4 l2, AV.int .i64 0, AV.ref (AV.row 1 (List.replicate (Int.toNat ((l2.length : Nat) : Int)) (AV.int .i64 0))), AV.ref (AV.row 1 (List.replicate (Int.toNat ((l2.length : Nat) : Int)) (AV.int .i64 0)))]).bind fun r2 =>
    asC r2.outs fun o1 q1 =>
    asRf o1 fun c1 =>
    asR 1 c1 fun l3 =>
    asC q1 fun o2 q2 =>
    asRf o2 fun c2 =>
    asR 1 c2 fun l4 =>
    asN q2 <|
    need (Nat.beq l3.length ((List.replicate (Int.toNat ((l2.length : Nat) : Int)) (AV.int .i64 0)).length)) <|
    need (Nat.beq l4.length ((List.replicate (Int.toNat ((l2.length : Nat) : Int)) (AV.int .i64 0)).length)) <|
    asB r2.v fun b1 =>
    bif !b1 then
    (some ⟨AV.tup [AV.int .i64 0, AV.bool false], false, []⟩)
    else
    need (decide (0 ≤ (0 : Int)) && decide ((0 : Int) < ((Int.toNat ((l2.length : Nat) : Int) : Nat) : Int))) <|
    (l4[0 + Int.toNat 0]?).bind fun e1 =>
    (e1.flat[0]?).bind fun v1 =>
    asI .i64 v1 fun i1 =>
    some ⟨AV.tup [AV.int .i64 i1, AV.bool true], false, []⟩
theorem isoDepth_eq (l1 : LA) : runF gl R N isoDepth [AV.row 4 l1] = isoDepthr R N l1 := by
  unfold isoDepthr
  kernel_rfl
theorem isoDepth_fit : fitF Tryd.prog isoDepth Tryd.f8 = true := by
  kernel_rfl

def ref18DepthLow_L1s (R : RT) (N : Nat) (go : LA → Int → Nat → Nat → Int → LA → Int → Int → LA → LA → OR) (k0 : Int → Bool → LA → LA → OR) (k1 : LA → Int → Nat → Nat → Int → LA → LA → OR) (l11 : LA) (i11 : Int) (n2 n3 : Nat) (i12 : Int) (l12 : LA) (i13 i14 : Int) (l13 l14 : LA) : OR :=
  bif decide ((i14 : Int) < i13) then
    (need (decide (0 ≤ (i14 : Int))) <|
    (l12[Int.toNat i14]?).bind fun e7 =>
    asI .i64 e7 fun i15 =>
    need (Nat.beq n2 l13.length) <|
    need (Nat.beq n3 l14.length) <|
    (R id_ref18DepthLow [AV.row 4 l11, AV.int .i64 i15, AV.ref (AV.row 1 l13), AV.ref (AV.row 1 l14)]).bind fun r2 =>
    asC r2.outs fun o3 q3 =>
    asRf o3 fun c3 =>
    asR 1 c3 fun l15 =>
    asC q3 fun o4 q4 =>
    asRf o4 fun c4 =>
    asR 1 c4 fun l16 =>
    asN q4 <|
    need (Nat.beq l15.length l13.length) <|
    need (Nat.beq l16.length l14.length) <|
    asIBT r2.v fun i16 b3 =>
    bif !b3 then
    (k0 0 false l15 l16)
    else
    go l11 i11 n2 n3 (if i16 > i12 then i16 else i12) l12 i13 (IntKind.i64.wrap (i14 + 1)) l15 l16)
  else
    k1 l11 i11 n2 n3 i12 l13 l14
def ref18DepthLow_L1 (R : RT) (N : Nat) (k0 : Int → Bool → LA → LA → OR) (k1 : LA → Int → Nat → Nat → Int → LA → LA → OR) : Nat → LA → Int → Nat → Nat → Int → LA → Int → Int → LA → LA → OR
  | 0, _, _, _, _, _, _, _, _, _, _ => none
  | n + 1, l11, i11, n2, n3, i12, l12, i13, i14, l13, l14 => ref18DepthLow_L1s R N (ref18DepthLow_L1 R N k0 k1 n) k0 k1 l11 i11 n2 n3 i12 l12 i13 i14 l13 l14
def ref18DepthLow_c0 : AC := .seq (.region [oP 38 (.bin .lss (.t 37) (.t 36))]) (.seq (.cond (.t 38) (.skip) (.exit 0 [0, 1, 2, 3, 10] [900002, 900003])) (.seq (.block 1 (.seq (.region [oP 39 (.iaddr (.t 35) (.t 37) 1 tI), oP 40 (.load (.t 39) none tI), oM 12 40]) (.seq (.region [oM 42 0, oM 43 12, oM 44 2, oM 45 3, oP 46 (.callM none id_ref18DepthLow [.t 42, .t 43, .t 44, .t 45] [false, false, true, true] [some (.row 1), some (.row 1)] (.tup [.int .i64, .bool])), oM 41 46, oP 47 (.extract (.t 41) 0), oP 48 (.extract (.t 41) 1), oM 13 47, oM 14 48]) (.seq (.seq (.region [oM 49 14, oP 50 (.un .not (.t 49))]) (.cond (.t 50) (.seq (.region [kI 8 0, kB 9 false]) (.ret [8, 9] [900002, 900003])) (.skip))) (.region [oM 51 10, oM 52 13, oP 53 (.mx [.t 51, .t 52]), oM 10 53]))))) (.region [oP 54 (.bin .add (.t 37) (.k (.int .i64 1))), oM 37 54])))
theorem ref18DepthLow_L1s_eq (k0 : Int → Bool → LA → LA → OR) (k1 : LA → Int → Nat → Nat → Int → LA → LA → OR) (h0 : ∀ (i20 : Int) (b5 : Bool) (l22 l23 : LA), K .ret ⟨[vI 8 i20, vB 9 b5], [(900002, .row 1 l22 false), (900003, .row 1 l23 false)]⟩ = k0 i20 b5 l22 l23) (h1 : ∀ (l24 : LA) (i21 : Int) (n6 n7 : Nat) (i22 : Int) (l25 l26 : LA), K (.exit 0) ⟨[vR 0 4 l24, vI 1 i21, (2, .own 900002 0 n6 none), (3, .own 900003 0 n7 none), vI 10 i22], [(900002, .row 1 l25 false), (900003, .row 1 l26 false)]⟩ = k1 l24 i21 n6 n7 i22 l25 l26) (l11 : LA) (i11 : Int) (n2 n3 : Nat) (i12 : Int) (l12 : LA) (i13 i14 : Int) (l13 l14 : LA) : ref18DepthLow_L1s R N (fun (l11 : LA) (i11 : Int) (n2 n3 : Nat) (i12 : Int) (l12 : LA) (i13 i14 : Int) (l13 l14 : LA) => W ⟨[vR 0 4 l11, vI 1 i11, (2, .own 900002 0 n2 none), (3, .own 900003 0 n3 none), vI 10 i12, vR 35 1 l12, vI 36 i13, vI 37 i14], [(900002, .row 1 l13 false), (900003, .row 1 l14 false)]⟩) k0 k1 l11 i11 n2 n3 i12 l12 i13 i14 l13 l14 =
    evC gl R N ref18DepthLow_c0 (Kseq (fun st' => W (prune [0, 1, 2, 3, 10, 35, 36, 37] [900002, 900003] st')) K) ⟨[vR 0 4 l11, vI 1 i11, (2, .own 900002 0 n2 none), (3, .own 900003 0 n3 none), vI 10 i12, vR 35 1 l12, vI 36 i13, vI 37 i14], [(900002, .row 1 l13 false), (900003, .row 1 l14 false)]⟩ := by
  unfold ref18DepthLow_L1s
  simp (disch := (intros; refine id ?_; kernel_rfl)) only [← h0, ← h1]
  kernel_rfl
theorem ref18DepthLow_L1_eq (k0 : Int → Bool → LA → LA → OR) (k1 : LA → Int → Nat → Nat → Int → LA → LA → OR) (h0 : ∀ (i20 : Int) (b5 : Bool) (l22 l23 : LA), K .ret ⟨[vI 8 i20, vB 9 b5], [(900002, .row 1 l22 false), (900003, .row 1 l23 false)]⟩ = k0 i20 b5 l22 l23) (h1 : ∀ (l24 : LA) (i21 : Int) (n6 n7 : Nat) (i22 : Int) (l25 l26 : LA), K (.exit 0) ⟨[vR 0 4 l24, vI 1 i21, (2, .own 900002 0 n6 none), (3, .own 900003 0 n7 none), vI 10 i22], [(900002, .row 1 l25 false), (900003, .row 1 l26 false)]⟩ = k1 l24 i21 n6 n7 i22 l25 l26) : ∀ (n : Nat) (l11 : LA) (i11 : Int) (n2 n3 : Nat) (i12 : Int) (l12 : LA) (i13 i14 : Int) (l13 l14 : LA), ref18DepthLow_L1 R N k0 k1 n l11 i11 n2 n3 i12 l12 i13 i14 l13 l14 = rounds [0, 1, 2, 3, 10, 35, 36, 37] [900002, 900003] (evC gl R N ref18DepthLow_c0) K n ⟨[vR 0 4 l11, vI 1 i11, (2, .own 900002 0 n2 none), (3, .own 900003 0 n3 none), vI 10 i12, vR 35 1 l12, vI 36 i13, vI 37 i14], [(900002, .row 1 l13 false), (900003, .row 1 l14 false)]⟩
  | 0, _, _, _, _, _, _, _, _, _, _ => rfl
  | n + 1, l11, i11, n2, n3, i12, l12, i13, i14, l13, l14 => (congrArg (fun go => ref18DepthLow_L1s R N go k0 k1 l11 i11 n2 n3 i12 l12 i13 i14 l13 l14) (funext fun l11 => funext fun i11 => funext fun n2 => funext fun n3 => funext fun i12 => funext fun l12 => funext fun i13 => funext fun i14 => funext fun l13 => funext fun l14 => ref18DepthLow_L1_eq k0 k1 h0 h1 n l11 i11 n2 n3 i12 l12 i13 i14 l13 l14)).trans (ref18DepthLow_L1s_eq R N K (rounds [0, 1, 2, 3, 10, 35, 36, 37] [900002, 900003] (evC gl R N ref18DepthLow_c0) K n) k0 k1 h0 h1 l11 i11 n2 n3 i12 l12 i13 i14 l13 l14)
def ref18DepthLow_c1 : AC := .seq (.region [oM 55 2, oM 56 1, oP 57 (.iaddr (.t 55) (.t 56) 1 (.bool)), .op none none (.store (.t 57) (.k (.bool false)) 1)]) (.seq (.seq (.region [oM 58 0, oM 59 1, oP 60 (.iaddr (.t 58) (.t 59) 4 tT), oP 61 (.faddr (.t 60) 0), oP 62 (.load (.t 61) none tI), oP 63 (.bin .neq (.t 62) (.k (.int .i64 1)))]) (.cond (.t 63) (.region [oM 64 10, oP 65 (.bin .add (.t 64) (.k (.int .i64 1))), oM 10 65]) (.skip))) (.seq (.region [oM 66 3, oM 67 1, oM 68 10, oP 69 (.iaddr (.t 66) (.t 67) 1 tI), .op none none (.store (.t 69) (.t 68) 1)]) (.seq (.region [oM 70 10, oM 8 70, kB 9 true]) (.ret [8, 9] [900002, 900003]))))
def ref18DepthLow_c2 : AC := .seq (.region [kI 8 0, kB 9 false]) (.seq (.seq (.region [oM 15 2, oM 16 1, oP 17 (.iaddr (.t 15) (.t 16) 1 (.bool)), oP 18 (.load (.t 17) none (.bool))]) (.cond (.t 18) (.seq (.region [kI 8 0, kB 9 false]) (.ret [8, 9] [900002, 900003])) (.skip))) (.seq (.seq (.region [oM 19 3, oM 20 1, oP 21 (.iaddr (.t 19) (.t 20) 1 tI), oP 22 (.load (.t 21) none tI), oP 23 (.bin .geq (.t 22) (.k (.int .i64 0)))]) (.cond (.t 23) (.seq (.region [oM 24 3, oM 25 1, oP 26 (.iaddr (.t 24) (.t 25) 1 tI), oP 27 (.load (.t 26) none tI), oM 8 27, kB 9 true]) (.ret [8, 9] [900002, 900003])) (.skip))) (.seq (.region [oM 28 2, oM 29 1, oP 30 (.iaddr (.t 28) (.t 29) 1 (.bool)), .op none none (.store (.t 30) (.k (.bool true)) 1)]) (.seq (.region [kI 10 0]) (.seq (.seq (.region [oM 31 0, oM 32 1, oP 33 (.iaddr (.t 31) (.t 32) 4 tT), oP 34 (.faddr (.t 33) 3), oP 35 (.load (.t 34) none (.row 1)), oP 36 (.len (.t 35) false), kI 37 0]) (.block 0 (.loop [0, 1, 2, 3, 10, 35, 36, 37] [900002, 900003] (ref18DepthLow_c0)))) (ref18DepthLow_c1))))))
def ref18DepthLow : AFunc := ⟨4, 71, [.tmp 8, .tmp 9], ref18DepthLow_c2⟩
def ref18DepthLowr (R : RT) (N : Nat) (l1 : LA) (i1 : Int) (l2 l3 : LA) : OR :=
  need (decide (0 ≤ (i1 : Int)) && decide ((i1 : Int) < ((l2.length : Nat) : Int))) <|
  (l2[0 + Int.toNat i1]?).bind fun e1 =>
  (e1.flat[0]?).bind fun v1 =>
  asB v1 fun b1 =>
  bif b1 then
    (some ⟨AV.tup [AV.int .i64 0, AV.bool false], false, [AV.ref (AV.row 1 l2), AV.ref (AV.row 1 l3)]⟩)
  else
    need (decide (0 ≤ (i1 : Int)) && decide ((i1 : Int) < ((l3.length : Nat) : Int))) <|
    (l3[0 + Int.toNat i1]?).bind fun e2 =>
    (e2.flat[0]?).bind fun v2 =>
    asI .i64 v2 fun i2 =>
    bif decide ((i2 : Int) ≥ 0) then
    (need (decide (0 ≤ (i1 : Int)) && decide ((i1 : Int) < ((l3.length : Nat) : Int))) <|
    (l3[0 + Int.toNat i1]?).bind fun e3 =>
    (e3.flat[0]?).bind fun v3 =>
    asI .i64 v3 fun i3 =>
    some ⟨AV.tup [AV.int .i64 i3, AV.bool true], false, [AV.ref (AV.row 1 l2), AV.ref (AV.row 1 l3)]⟩)
    else
    need (decide (0 ≤ (i1 : Int)) && decide ((i1 : Int) < ((l2.length : Nat) : Int))) <|
    (l2[0 + Int.toNat i1]?).bind fun e4 =>
    needSt e4 (AV.bool true) 0 1 <|
    need (decide (0 ≤ (i1 : Int))) <|
    (l1[Int.toNat i1]?).bind fun e5 =>
    asISSRA e5 fun i4 s1 s2 l4 =>
    ref18DepthLow_L1 R N
      (fun i23 b6 l27 l28 =>
    some ⟨AV.tup [AV.int .i64 i23, AV.bool b6], false, [AV.ref (AV.row 1 l27), AV.ref (AV.row 1 l28)]⟩)
      (fun l29 i24 n8 n9 i25 l30 l31 =>
    need (decide (0 ≤ (i24 : Int)) && decide ((i24 : Int) < ((n8 : Nat) : Int))) <|
    (l30[0 + Int.toNat i24]?).bind fun e8 =>
    needSt e8 (AV.bool false) 0 1 <|
    need (decide (0 ≤ (i24 : Int))) <|
    (l29[Int.toNat i24]?).bind fun e9 =>
    asISSRA e9 fun i26 s3 s4 l32 =>
    bif (i26 : Int) != 1 then
    (need (decide (0 ≤ (i24 : Int)) && decide ((i24 : Int) < ((n9 : Nat) : Int))) <|
    (l31[0 + Int.toNat i24]?).bind fun e10 =>
    needSt e10 (AV.int .i64 (IntKind.i64.wrap (i25 + 1))) 0 1 <|
    some ⟨AV.tup [AV.int .i64 (IntKind.i64.wrap (i25 + 1)), AV.bool true], false, [AV.ref (AV.row 1 (l30.set (0 + Int.toNat i24) (AV.bool false))), AV.ref (AV.row 1 (l31.set (0 + Int.toNat i24) (AV.int .i64 (IntKind.i64.wrap (i25 + 1)))))]⟩)
    else
    need (decide (0 ≤ (i24 : Int)) && decide ((i24 : Int) < ((n9 : Nat) : Int))) <|
    (l31[0 + Int.toNat i24]?).bind fun e11 =>
    needSt e11 (AV.int .i64 i25) 0 1 <|
    some ⟨AV.tup [AV.int .i64 i25, AV.bool true], false, [AV.ref (AV.row 1 (l30.set (0 + Int.toNat i24) (AV.bool false))), AV.ref (AV.row 1 (l31.set (0 + Int.toNat i24) (AV.int .i64 i25)))]⟩)
      N l1 i1 l2.length l3.length 0 l4 ((l4.length : Nat) : Int) 0 (l2.set (0 + Int.toNat i1) (AV.bool true)) l3
theorem ref18DepthLow_eq (l1 : LA) (i1 : Int) (l2 l3 : LA) : runF gl R N ref18DepthLow [AV.row 4 l1, AV.int .i64 i1, AV.ref (AV.row 1 l2), AV.ref (AV.row 1 l3)] = ref18DepthLowr R N l1 i1 l2 l3 := by
  unfold ref18DepthLowr
  simp (disch := (intros; refine id ?_; kernel_rfl)) only [ref18DepthLow_L1_eq R N (Kblock 0 (Kthen gl R N ref18DepthLow_c1 (Kret ref18DepthLow.rets [900002, 900003])))]
  kernel_rfl
theorem ref18DepthLow_fit : fitF Tryd.prog ref18DepthLow Tryd.f28 = true := by
  kernel_rfl

def ref18Depth_L1s (R : RT) (N : Nat) (go : LA → Nat → Int → Int → LA → OR) (k0 : LA → RT) (l3 : LA) (n1 : Nat) (i1 i2 : Int) (l4 : LA) : OR :=
  bif decide ((i2 : Int) < i1) then
    (need (decide (0 ≤ (i2 : Int)) && decide ((i2 : Int) < ((n1 : Nat) : Int))) <|
    (l4[0 + Int.toNat i2]?).bind fun e1 =>
    needSt e1 (AV.int .i64 (-1)) 0 1 <|
    go l3 n1 i1 (IntKind.i64.wrap (i2 + 1)) (l4.set (0 + Int.toNat i2) (AV.int .i64 (-1))))
  else
    k0 l3 n1 l4
def ref18Depth_L1 (R : RT) (N : Nat) (k0 : LA → RT) : Nat → LA → Nat → Int → Int → LA → OR
  | 0, _, _, _, _, _ => none
  | n + 1, l3, n1, i1, i2, l4 => ref18Depth_L1s R N (ref18Depth_L1 R N k0 n) k0 l3 n1 i1 i2 l4
def ref18Depth_c0 : AC := .seq (.region [oP 15 (.bin .lss (.t 14) (.t 13))]) (.seq (.cond (.t 15) (.skip) (.exit 0 [4, 5] [11])) (.seq (.block 1 (.seq (.region [oM 16 14, oM 6 16]) (.region [oM 17 5, oM 18 6, oP 19 (.iaddr (.t 17) (.t 18) 1 tI), .op none none (.store (.t 19) (.k (.int .i64 (-1))) 1)]))) (.region [oP 20 (.bin .add (.t 14) (.k (.int .i64 1))), oM 14 20])))
theorem ref18Depth_L1s_eq (k0 : LA → RT) (h0 : ∀ (l7 : LA) (n3 : Nat) (l8 : LA), K (.exit 0) ⟨[vR 4 4 l7, (5, .own 11 0 n3 none)], [(11, .row 1 l8 false)]⟩ = k0 l7 n3 l8) (l3 : LA) (n1 : Nat) (i1 i2 : Int) (l4 : LA) : ref18Depth_L1s R N (fun (l3 : LA) (n1 : Nat) (i1 i2 : Int) (l4 : LA) => W ⟨[vR 4 4 l3, (5, .own 11 0 n1 none), vI 13 i1, vI 14 i2], [(11, .row 1 l4 false)]⟩) k0 l3 n1 i1 i2 l4 =
    evC gl R N ref18Depth_c0 (Kseq (fun st' => W (prune [4, 5, 13, 14] [11] st')) K) ⟨[vR 4 4 l3, (5, .own 11 0 n1 none), vI 13 i1, vI 14 i2], [(11, .row 1 l4 false)]⟩ := by
  unfold ref18Depth_L1s
  simp (disch := (intros; refine id ?_; kernel_rfl)) only [← h0]
  kernel_rfl
theorem ref18Depth_L1_eq (k0 : LA → RT) (h0 : ∀ (l7 : LA) (n3 : Nat) (l8 : LA), K (.exit 0) ⟨[vR 4 4 l7, (5, .own 11 0 n3 none)], [(11, .row 1 l8 false)]⟩ = k0 l7 n3 l8) : ∀ (n : Nat) (l3 : LA) (n1 : Nat) (i1 i2 : Int) (l4 : LA), ref18Depth_L1 R N k0 n l3 n1 i1 i2 l4 = rounds [4, 5, 13, 14] [11] (evC gl R N ref18Depth_c0) K n ⟨[vR 4 4 l3, (5, .own 11 0 n1 none), vI 13 i1, vI 14 i2], [(11, .row 1 l4 false)]⟩
  | 0, _, _, _, _, _ => rfl
  | n + 1, l3, n1, i1, i2, l4 => (congrArg (fun go => ref18Depth_L1s R N go k0 l3 n1 i1 i2 l4) (funext fun l3 => funext fun n1 => funext fun i1 => funext fun i2 => funext fun l4 => ref18Depth_L1_eq k0 h0 n l3 n1 i1 i2 l4)).trans (ref18Depth_L1s_eq R N K (rounds [4, 5, 13, 14] [11] (evC gl R N ref18Depth_c0) K n) k0 h0 l3 n1 i1 i2 l4)
def ref18Depth_c1 : AC := .seq (.region [oM 21 4, oM 22 4, oP 23 (.len (.t 22) false), oP 24 (.mkOwn 24 (.t 23) 1 (.bool false) false), oM 25 5, oP 26 (.callM none id_ref18DepthLow [.t 21, .k (.int .i64 0), .t 24, .t 25] [false, false, true, true] [some (.row 1), some (.row 1)] (.tup [.int .i64, .bool])), oP 27 (.extract (.t 26) 0), oP 28 (.extract (.t 26) 1), oM 2 27, oM 3 28]) (.ret [2, 3] [])
def ref18Depth_c2 : AC := .seq (.region [kI 2 0, kB 3 false]) (.seq (.region [oM 7 0, oP 8 (.call id_ref18Canon [.t 7] (.row 4)), oM 4 8]) (.seq (.region [oM 9 4, oP 10 (.len (.t 9) false), oP 11 (.mkOwn 11 (.t 10) 1 (.int .i64 0) false), oM 5 11]) (.seq (.seq (.region [oM 12 5, oP 13 (.len (.t 12) false), kI 14 0]) (.block 0 (.loop [4, 5, 13, 14] [11] (ref18Depth_c0)))) (ref18Depth_c1))))
def ref18Depth : AFunc := ⟨1, 29, [.tmp 2, .tmp 3], ref18Depth_c2⟩
def ref18Depthr (R : RT) (N : Nat) (l1 : LA) : OR :=
  (R id_ref18Canon [AV.row 4 l1]).bind fun r1 =>
  asR 4 r1.v fun l2 =>
  need (decide (0 ≤ (((l2.length : Nat) : Int) : Int)) && decide ((((l2.length : Nat) : Int) : Int) ≤ 1099511627776)) <|
  ref18Depth_L1 R N
    (fun l9 n4 l10 =>
    need (decide (0 ≤ (((l9.length : Nat) : Int) : Int)) && decide ((((l9.length : Nat) : Int) : Int) ≤ 1099511627776)) <|
    need (Nat.beq (Int.toNat ((l9.length : Nat) : Int)) ((List.replicate (Int.toNat ((l9.length : Nat) : Int)) (AV.bool false)).length)) <|
    need (Nat.beq n4 l10.length) <|
    (R id_ref18DepthLow [AV.row 4 l9, AV.int .i64 0, AV.ref (AV.row 1 (List.replicate (Int.toNat ((l9.length : Nat) : Int)) (AV.bool false))), AV.ref (AV.row 1 l10)]).bind fun r2 =>
    asC r2.outs fun o1 q1 =>
    asRf o1 fun c1 =>
    asR 1 c1 fun l11 =>
    asC q1 fun o2 q2 =>
    asRf o2 fun c2 =>
    asR 1 c2 fun l12 =>
    asN q2 <|
    need (Nat.beq l11.length ((List.replicate (Int.toNat ((l9.length : Nat) : Int)) (AV.bool false)).length)) <|
    need (Nat.beq l12.length l10.length) <|
    asIBT r2.v fun i3 b1 =>
    some ⟨AV.tup [AV.int .i64 i3, AV.bool b1], false, []⟩)
    N l2 (Int.toNat ((l2.length : Nat) : Int)) ((Int.toNat ((l2.length : Nat) : Int) : Nat) : Int) 0 (List.replicate (Int.toNat ((l2.length : Nat) : Int)) (AV.int .i64 0))
theorem ref18Depth_eq (l1 : LA) : runF gl R N ref18Depth [AV.row 4 l1] = ref18Depthr R N l1 := by
  unfold ref18Depthr
  simp (disch := (intros; refine id ?_; kernel_rfl)) only [ref18Depth_L1_eq R N (Kblock 0 (Kthen gl R N ref18Depth_c1 (Kret ref18Depth.rets [])))]
  kernel_rfl
theorem ref18Depth_fit : fitF Tryd.prog ref18Depth Tryd.f9 = true := by
  kernel_rfl

def keepSameInt_L1s (R : RT) (N : Nat) (go : LA → LA → Int → OR) (k0 : Bool → OR) (k1 : OR) (l3 l4 : LA) (i1 : Int) : OR :=
  bif decide ((i1 : Int) < ((l3.length : Nat) : Int)) then
    (need (decide (0 ≤ (i1 : Int))) <|
    (l3[Int.toNat i1]?).bind fun e1 =>
    asI .i64 e1 fun i2 =>
    need (decide (0 ≤ (i1 : Int))) <|
    (l4[Int.toNat i1]?).bind fun e2 =>
    asI .i64 e2 fun i3 =>
    bif (i2 : Int) != i3 then
    (k0 false)
    else
    go l3 l4 (IntKind.i64.wrap (i1 + 1)))
  else
    k1
def keepSameInt_L1 (R : RT) (N : Nat) (k0 : Bool → OR) (k1 : OR) : Nat → LA → LA → Int → OR
  | 0, _, _, _ => none
  | n + 1, l3, l4, i1 => keepSameInt_L1s R N (keepSameInt_L1 R N k0 k1 n) k0 k1 l3 l4 i1
def keepSameInt_c0 : AC := .seq (.seq (.region [oM 11 5, oM 12 0, oP 13 (.len (.t 12) false), oP 14 (.bin .lss (.t 11) (.t 13))]) (.cond (.t 14) (.skip) (.exit 0 [] []))) (.seq (.block 1 (.seq (.regionD [0, 1, 5, 25] [] [oM 17 0, oM 18 5, oP 19 (.iaddr (.t 17) (.t 18) 1 tI), oP 20 (.load (.t 19) none tI), oM 21 1, oM 22 5, oP 23 (.iaddr (.t 21) (.t 22) 1 tI), oP 24 (.load (.t 23) none tI), oP 25 (.bin .neq (.t 20) (.t 24))] []) (.cond (.t 25) (.seq (.region [kB 4 false]) (.ret [4] [])) (.skip)))) (.region [oM 15 5, oP 16 (.bin .add (.t 15) (.k (.int .i64 1))), oM 5 16]))
theorem keepSameInt_L1s_eq (k0 : Bool → OR) (k1 : OR) (h0 : ∀ (b2 : Bool), K .ret ⟨[vB 4 b2], []⟩ = k0 b2) (h1 : K (.exit 0) ⟨[], []⟩ = k1) (l3 l4 : LA) (i1 : Int) : keepSameInt_L1s R N (fun (l3 l4 : LA) (i1 : Int) => W ⟨[vR 0 1 l3, vR 1 1 l4, vI 5 i1], []⟩) k0 k1 l3 l4 i1 =
    evC gl R N keepSameInt_c0 (Kseq (fun st' => W (prune [0, 1, 5] [] st')) K) ⟨[vR 0 1 l3, vR 1 1 l4, vI 5 i1], []⟩ := by
  unfold keepSameInt_L1s
  simp (disch := (intros; refine id ?_; kernel_rfl)) only [← h0, ← h1]
  kernel_rfl
theorem keepSameInt_L1_eq (k0 : Bool → OR) (k1 : OR) (h0 : ∀ (b2 : Bool), K .ret ⟨[vB 4 b2], []⟩ = k0 b2) (h1 : K (.exit 0) ⟨[], []⟩ = k1) : ∀ (n : Nat) (l3 l4 : LA) (i1 : Int), keepSameInt_L1 R N k0 k1 n l3 l4 i1 = rounds [0, 1, 5] [] (evC gl R N keepSameInt_c0) K n ⟨[vR 0 1 l3, vR 1 1 l4, vI 5 i1], []⟩
  | 0, _, _, _ => rfl
  | n + 1, l3, l4, i1 => (congrArg (fun go => keepSameInt_L1s R N go k0 k1 l3 l4 i1) (funext fun l3 => funext fun l4 => funext fun i1 => keepSameInt_L1_eq k0 k1 h0 h1 n l3 l4 i1)).trans (keepSameInt_L1s_eq R N K (rounds [0, 1, 5] [] (evC gl R N keepSameInt_c0) K n) k0 k1 h0 h1 l3 l4 i1)
def keepSameInt_c1 : AC := .seq (.region [kB 4 true]) (.ret [4] [])
def keepSameInt_c2 : AC := .seq (.region [kB 4 false]) (.seq (.seq (.region [oM 6 0, oP 7 (.len (.t 6) false), oM 8 1, oP 9 (.len (.t 8) false), oP 10 (.bin .neq (.t 7) (.t 9))]) (.cond (.t 10) (.seq (.region [kB 4 false]) (.ret [4] [])) (.skip))) (.seq (.seq (.region [kI 5 0]) (.block 0 (.loop [0, 1, 5] [] (keepSameInt_c0)))) (keepSameInt_c1)))
def keepSameInt : AFunc := ⟨2, 26, [.tmp 4], keepSameInt_c2⟩
def keepSameIntr (R : RT) (N : Nat) (l1 l2 : LA) : OR :=
  bif (((l1.length : Nat) : Int) : Int) != ((l2.length : Nat) : Int) then
    (some ⟨AV.bool false, false, []⟩)
  else
    keepSameInt_L1 R N
      (fun b3 =>
    some ⟨AV.bool b3, false, []⟩)
      (
    some ⟨AV.bool true, false, []⟩)
      N l1 l2 0
theorem keepSameInt_eq (l1 l2 : LA) : runF gl R N keepSameInt [AV.row 1 l1, AV.row 1 l2] = keepSameIntr R N l1 l2 := by
  unfold keepSameIntr
  simp (disch := (intros; refine id ?_; kernel_rfl)) only [keepSameInt_L1_eq R N (Kblock 0 (Kthen gl R N keepSameInt_c1 (Kret keepSameInt.rets [])))]
  kernel_rfl
theorem keepSameInt_fit : fitF Tryd.prog keepSameInt Tryd.f13 = true := by
  kernel_rfl

def keepThings_L1s (R : RT) (N : Nat) (go : LA → LA → Int → Int → OR) (k0 : Bool → OR) (k1 : OR) (l3 l4 : LA) (i1 i2 : Int) : OR :=
  bif decide ((i2 : Int) < i1) then
    (need (decide (0 ≤ (i2 : Int))) <|
    (l3[Int.toNat i2]?).bind fun e1 =>
    asISSRA e1 fun i3 s1 s2 l5 =>
    need (decide (0 ≤ (i2 : Int))) <|
    (l4[Int.toNat i2]?).bind fun e2 =>
    asISSRA e2 fun i4 s3 s4 l6 =>
    bif (i3 : Int) != i4 then
    (k0 false)
    else
    need (decide (0 ≤ (i2 : Int))) <|
    (l3[Int.toNat i2]?).bind fun e3 =>
    asISSRA e3 fun i5 s5 s6 l7 =>
    need (decide (0 ≤ (i2 : Int))) <|
    (l4[Int.toNat i2]?).bind fun e4 =>
    asISSRA e4 fun i6 s7 s8 l8 =>
    bif !(s5 == s7) then
    (k0 false)
    else
    need (decide (0 ≤ (i2 : Int))) <|
    (l3[Int.toNat i2]?).bind fun e5 =>
    asISSRA e5 fun i7 s9 s10 l9 =>
    need (decide (0 ≤ (i2 : Int))) <|
    (l4[Int.toNat i2]?).bind fun e6 =>
    asISSRA e6 fun i8 s11 s12 l10 =>
    bif !(s10 == s12) then
    (k0 false)
    else
    need (decide (0 ≤ (i2 : Int))) <|
    (l3[Int.toNat i2]?).bind fun e7 =>
    asISSRA e7 fun i9 s13 s14 l11 =>
    need (decide (0 ≤ (i2 : Int))) <|
    (l4[Int.toNat i2]?).bind fun e8 =>
    asISSRA e8 fun i10 s15 s16 l12 =>
    (R id_keepSameInt [AV.row 1 l11, AV.row 1 l12]).bind fun r1 =>
    asB r1.v fun b1 =>
    bif !b1 then
    (k0 false)
    else
    go l3 l4 i1 (IntKind.i64.wrap (i2 + 1)))
  else
    k1
def keepThings_L1 (R : RT) (N : Nat) (k0 : Bool → OR) (k1 : OR) : Nat → LA → LA → Int → Int → OR
  | 0, _, _, _, _ => none
  | n + 1, l3, l4, i1, i2 => keepThings_L1s R N (keepThings_L1 R N k0 k1 n) k0 k1 l3 l4 i1 i2
def keepThings_c0 : AC := .seq (.region [oP 14 (.bin .lss (.t 13) (.t 12))]) (.seq (.cond (.t 14) (.skip) (.exit 0 [] [])) (.seq (.block 1 (.seq (.region [oM 15 13, oM 5 15]) (.seq (.regionD [0, 1, 12, 13, 66] [] [oM 16 0, oM 17 5, oP 18 (.iaddr (.t 16) (.t 17) 4 tT), oP 19 (.faddr (.t 18) 0), oP 20 (.load (.t 19) none tI), oM 21 1, oM 22 5, oP 23 (.iaddr (.t 21) (.t 22) 4 tT), oP 24 (.faddr (.t 23) 0), oP 25 (.load (.t 24) none tI), oP 26 (.bin .neq (.t 20) (.t 25)), oM 27 26, .split 27, oG 28 27 false (.mv (.t 0)), oG 29 27 false (.mv (.t 5)), oG 30 27 false (.iaddr (.t 28) (.t 29) 4 tT), oG 31 27 false (.faddr (.t 30) 1), oG 32 27 false (.load (.t 31) none (.str)), oG 33 27 false (.mv (.t 1)), oG 34 27 false (.mv (.t 5)), oG 35 27 false (.iaddr (.t 33) (.t 34) 4 tT), oG 36 27 false (.faddr (.t 35) 1), oG 37 27 false (.load (.t 36) none (.str)), oG 38 27 false (.bin .neq (.t 32) (.t 37)), oP 39 (.pick (.t 27) (.k (.bool true)) (.t 38)), oM 40 39, .split 40, oG 41 40 false (.mv (.t 0)), oG 42 40 false (.mv (.t 5)), oG 43 40 false (.iaddr (.t 41) (.t 42) 4 tT), oG 44 40 false (.faddr (.t 43) 2), oG 45 40 false (.load (.t 44) none (.str)), oG 46 40 false (.mv (.t 1)), oG 47 40 false (.mv (.t 5)), oG 48 40 false (.iaddr (.t 46) (.t 47) 4 tT), oG 49 40 false (.faddr (.t 48) 2), oG 50 40 false (.load (.t 49) none (.str)), oG 51 40 false (.bin .neq (.t 45) (.t 50)), oP 52 (.pick (.t 40) (.k (.bool true)) (.t 51)), oM 53 52, .split 53, oG 54 53 false (.mv (.t 0)), oG 55 53 false (.mv (.t 5)), oG 56 53 false (.iaddr (.t 54) (.t 55) 4 tT), oG 57 53 false (.faddr (.t 56) 3), oG 58 53 false (.load (.t 57) none (.row 1)), oG 59 53 false (.mv (.t 1)), oG 60 53 false (.mv (.t 5)), oG 61 53 false (.iaddr (.t 59) (.t 60) 4 tT), oG 62 53 false (.faddr (.t 61) 3), oG 63 53 false (.load (.t 62) none (.row 1)), oG 64 53 false (.call id_keepSameInt [.t 58, .t 63] (.bool)), oG 65 53 false (.un .not (.t 64)), oP 66 (.pick (.t 53) (.k (.bool true)) (.t 65))] []) (.cond (.t 66) (.seq (.region [kB 4 false]) (.ret [4] [])) (.skip))))) (.region [oP 67 (.bin .add (.t 13) (.k (.int .i64 1))), oM 13 67])))
theorem keepThings_L1s_eq (k0 : Bool → OR) (k1 : OR) (h0 : ∀ (b3 : Bool), K .ret ⟨[vB 4 b3], []⟩ = k0 b3) (h1 : K (.exit 0) ⟨[], []⟩ = k1) (l3 l4 : LA) (i1 i2 : Int) : keepThings_L1s R N (fun (l3 l4 : LA) (i1 i2 : Int) => W ⟨[vR 0 4 l3, vR 1 4 l4, vI 12 i1, vI 13 i2], []⟩) k0 k1 l3 l4 i1 i2 =
    evC gl R N keepThings_c0 (Kseq (fun st' => W (prune [0, 1, 12, 13] [] st')) K) ⟨[vR 0 4 l3, vR 1 4 l4, vI 12 i1, vI 13 i2], []⟩ := by
  unfold keepThings_L1s
  simp (disch := (intros; refine id ?_; kernel_rfl)) only [← h0, ← h1]
  kernel_rfl
theorem keepThings_L1_eq (k0 : Bool → OR) (k1 : OR) (h0 : ∀ (b3 : Bool), K .ret ⟨[vB 4 b3], []⟩ = k0 b3) (h1 : K (.exit 0) ⟨[], []⟩ = k1) : ∀ (n : Nat) (l3 l4 : LA) (i1 i2 : Int), keepThings_L1 R N k0 k1 n l3 l4 i1 i2 = rounds [0, 1, 12, 13] [] (evC gl R N keepThings_c0) K n ⟨[vR 0 4 l3, vR 1 4 l4, vI 12 i1, vI 13 i2], []⟩
  | 0, _, _, _, _ => rfl
  | n + 1, l3, l4, i1, i2 => (congrArg (fun go => keepThings_L1s R N go k0 k1 l3 l4 i1 i2) (funext fun l3 => funext fun l4 => funext fun i1 => funext fun i2 => keepThings_L1_eq k0 k1 h0 h1 n l3 l4 i1 i2)).trans (keepThings_L1s_eq R N K (rounds [0, 1, 12, 13] [] (evC gl R N keepThings_c0) K n) k0 k1 h0 h1 l3 l4 i1 i2)
def keepThings_c1 : AC := .seq (.region [kB 4 true]) (.ret [4] [])
def keepThings_c2 : AC := .seq (.region [kB 4 false]) (.seq (.seq (.region [oM 6 0, oP 7 (.len (.t 6) false), oM 8 1, oP 9 (.len (.t 8) false), oP 10 (.bin .neq (.t 7) (.t 9))]) (.cond (.t 10) (.seq (.region [kB 4 false]) (.ret [4] [])) (.skip))) (.seq (.seq (.region [oM 11 0, oP 12 (.len (.t 11) false), kI 13 0]) (.block 0 (.loop [0, 1, 12, 13] [] (keepThings_c0)))) (keepThings_c1)))
def keepThings : AFunc := ⟨2, 68, [.tmp 4], keepThings_c2⟩
def keepThingsr (R : RT) (N : Nat) (l1 l2 : LA) : OR :=
  bif (((l1.length : Nat) : Int) : Int) != ((l2.length : Nat) : Int) then
    (some ⟨AV.bool false, false, []⟩)
  else
    keepThings_L1 R N
      (fun b4 =>
    some ⟨AV.bool b4, false, []⟩)
      (
    some ⟨AV.bool true, false, []⟩)
      N l1 l2 ((l1.length : Nat) : Int) 0
theorem keepThings_eq (l1 l2 : LA) : runF gl R N keepThings [AV.row 4 l1, AV.row 4 l2] = keepThingsr R N l1 l2 := by
  unfold keepThingsr
  simp (disch := (intros; refine id ?_; kernel_rfl)) only [keepThings_L1_eq R N (Kblock 0 (Kthen gl R N keepThings_c1 (Kret keepThings.rets [])))]
  kernel_rfl
theorem keepThings_fit : fitF Tryd.prog keepThings Tryd.f10 = true := by
  kernel_rfl

def isoShared_L2s (R : RT) (N : Nat) (go : LA → Nat → Int → Int → LA → Int → Int → LA → OR) (k0 : LA → Nat → Int → Int → LA → OR) (l6 : LA) (n2 : Nat) (i5 i6 : Int) (l7 : LA) (i7 i8 : Int) (l8 : LA) : OR :=
  bif decide ((i8 : Int) < i7) then
    (need (decide (0 ≤ (i8 : Int))) <|
    (l7[Int.toNat i8]?).bind fun e4 =>
    asI .i64 e4 fun i9 =>
    need (decide (0 ≤ (i9 : Int)) && decide ((i9 : Int) < ((n2 : Nat) : Int))) <|
    (l8[0 + Int.toNat i9]?).bind fun e5 =>
    (e5.flat[0]?).bind fun v2 =>
    asI .i64 v2 fun i10 =>
    need (decide (0 ≤ (i9 : Int)) && decide ((i9 : Int) < ((n2 : Nat) : Int))) <|
    (l8[0 + Int.toNat i9]?).bind fun e6 =>
    needSt e6 (AV.int .i64 (IntKind.i64.wrap (i10 + 1))) 0 1 <|
    go l6 n2 i5 i6 l7 i7 (IntKind.i64.wrap (i8 + 1)) (l8.set (0 + Int.toNat i9) (AV.int .i64 (IntKind.i64.wrap (i10 + 1)))))
  else
    k0 l6 n2 i5 i6 l8
def isoShared_L2 (R : RT) (N : Nat) (k0 : LA → Nat → Int → Int → LA → OR) : Nat → LA → Nat → Int → Int → LA → Int → Int → LA → OR
  | 0, _, _, _, _, _, _, _, _ => none
  | n + 1, l6, n2, i5, i6, l7, i7, i8, l8 => isoShared_L2s R N (isoShared_L2 R N k0 n) k0 l6 n2 i5 i6 l7 i7 i8 l8
def isoShared_c0 : AC := .seq (.region [oP 36 (.bin .lss (.t 35) (.t 34))]) (.seq (.cond (.t 36) (.skip) (.exit 2 [3, 4, 17, 18] [15])) (.seq (.block 3 (.seq (.region [oP 37 (.iaddr (.t 33) (.t 35) 1 tI), oP 38 (.load (.t 37) none tI), oM 7 38]) (.region [oM 39 4, oM 40 7, oP 41 (.iaddr (.t 39) (.t 40) 1 tI), oP 42 (.load (.t 41) none tI), oP 43 (.bin .add (.t 42) (.k (.int .i64 1))), oP 44 (.iaddr (.t 39) (.t 40) 1 tI), .op none none (.store (.t 44) (.t 43) 1)]))) (.region [oP 45 (.bin .add (.t 35) (.k (.int .i64 1))), oM 35 45])))
theorem isoShared_L2s_eq (k0 : LA → Nat → Int → Int → LA → OR) (h0 : ∀ (l11 : LA) (n4 : Nat) (i13 i14 : Int) (l12 : LA), K (.exit 2) ⟨[vR 3 4 l11, (4, .own 15 0 n4 none), vI 17 i13, vI 18 i14], [(15, .row 1 l12 false)]⟩ = k0 l11 n4 i13 i14 l12) (l6 : LA) (n2 : Nat) (i5 i6 : Int) (l7 : LA) (i7 i8 : Int) (l8 : LA) : isoShared_L2s R N (fun (l6 : LA) (n2 : Nat) (i5 i6 : Int) (l7 : LA) (i7 i8 : Int) (l8 : LA) => W ⟨[vR 3 4 l6, (4, .own 15 0 n2 none), vI 17 i5, vI 18 i6, vR 33 1 l7, vI 34 i7, vI 35 i8], [(15, .row 1 l8 false)]⟩) k0 l6 n2 i5 i6 l7 i7 i8 l8 =
    evC gl R N isoShared_c0 (Kseq (fun st' => W (prune [3, 4, 17, 18, 33, 34, 35] [15] st')) K) ⟨[vR 3 4 l6, (4, .own 15 0 n2 none), vI 17 i5, vI 18 i6, vR 33 1 l7, vI 34 i7, vI 35 i8], [(15, .row 1 l8 false)]⟩ := by
  unfold isoShared_L2s
  simp (disch := (intros; refine id ?_; kernel_rfl)) only [← h0]
  kernel_rfl
theorem isoShared_L2_eq (k0 : LA → Nat → Int → Int → LA → OR) (h0 : ∀ (l11 : LA) (n4 : Nat) (i13 i14 : Int) (l12 : LA), K (.exit 2) ⟨[vR 3 4 l11, (4, .own 15 0 n4 none), vI 17 i13, vI 18 i14], [(15, .row 1 l12 false)]⟩ = k0 l11 n4 i13 i14 l12) : ∀ (n : Nat) (l6 : LA) (n2 : Nat) (i5 i6 : Int) (l7 : LA) (i7 i8 : Int) (l8 : LA), isoShared_L2 R N k0 n l6 n2 i5 i6 l7 i7 i8 l8 = rounds [3, 4, 17, 18, 33, 34, 35] [15] (evC gl R N isoShared_c0) K n ⟨[vR 3 4 l6, (4, .own 15 0 n2 none), vI 17 i5, vI 18 i6, vR 33 1 l7, vI 34 i7, vI 35 i8], [(15, .row 1 l8 false)]⟩
  | 0, _, _, _, _, _, _, _, _ => rfl
  | n + 1, l6, n2, i5, i6, l7, i7, i8, l8 => (congrArg (fun go => isoShared_L2s R N go k0 l6 n2 i5 i6 l7 i7 i8 l8) (funext fun l6 => funext fun n2 => funext fun i5 => funext fun i6 => funext fun l7 => funext fun i7 => funext fun i8 => funext fun l8 => isoShared_L2_eq k0 h0 n l6 n2 i5 i6 l7 i7 i8 l8)).trans (isoShared_L2s_eq R N K (rounds [3, 4, 17, 18, 33, 34, 35] [15] (evC gl R N isoShared_c0) K n) k0 h0 l6 n2 i5 i6 l7 i7 i8 l8)
def isoShared_L1s (R : RT) (N : Nat) (go : LA → Nat → Int → Int → LA → OR) (k0 : RT) (l3 : LA) (n1 : Nat) (i1 i2 : Int) (l4 : LA) : OR :=
  bif decide ((i2 : Int) < i1) then
    (bif (i2 : Int) == 0 then
    (need (decide (0 ≤ (i2 : Int)) && decide ((i2 : Int) < ((n1 : Nat) : Int))) <|
    (l4[0 + Int.toNat i2]?).bind fun e1 =>
    (e1.flat[0]?).bind fun v1 =>
    asI .i64 v1 fun i3 =>
    need (decide (0 ≤ (i2 : Int)) && decide ((i2 : Int) < ((n1 : Nat) : Int))) <|
    (l4[0 + Int.toNat i2]?).bind fun e2 =>
    needSt e2 (AV.int .i64 (IntKind.i64.wrap (i3 + 1))) 0 1 <|
    need (decide (0 ≤ (i2 : Int))) <|
    (l3[Int.toNat i2]?).bind fun e3 =>
    asISSRA e3 fun i4 s1 s2 l5 =>
    isoShared_L2 R N
      (fun l13 n5 i15 i16 l14 =>
    go l13 n5 i15 (IntKind.i64.wrap (i16 + 1)) l14)
      N l3 n1 i1 i2 l5 ((l5.length : Nat) : Int) 0 (l4.set (0 + Int.toNat i2) (AV.int .i64 (IntKind.i64.wrap (i3 + 1)))))
    else
    need (decide (0 ≤ (i2 : Int))) <|
    (l3[Int.toNat i2]?).bind fun e7 =>
    asISSRA e7 fun i17 s3 s4 l15 =>
    isoShared_L2 R N
      (fun l16 n6 i18 i19 l17 =>
    go l16 n6 i18 (IntKind.i64.wrap (i19 + 1)) l17)
      N l3 n1 i1 i2 l15 ((l15.length : Nat) : Int) 0 l4)
  else
    k0 n1 l4
def isoShared_L1 (R : RT) (N : Nat) (k0 : RT) : Nat → LA → Nat → Int → Int → LA → OR
  | 0, _, _, _, _, _ => none
  | n + 1, l3, n1, i1, i2, l4 => isoShared_L1s R N (isoShared_L1 R N k0 n) k0 l3 n1 i1 i2 l4
def isoShared_c1 : AC := .region [oP 46 (.bin .add (.t 18) (.k (.int .i64 1))), oM 18 46]
def isoShared_c2 : AC := .seq (.region [oP 19 (.bin .lss (.t 18) (.t 17))]) (.seq (.cond (.t 19) (.skip) (.exit 0 [4] [15])) (.seq (.block 1 (.seq (.region [oM 20 18, oM 5 20]) (.seq (.seq (.region [oM 21 5, oP 22 (.bin .eql (.t 21) (.k (.int .i64 0)))]) (.cond (.t 22) (.region [oM 23 4, oM 24 5, oP 25 (.iaddr (.t 23) (.t 24) 1 tI), oP 26 (.load (.t 25) none tI), oP 27 (.bin .add (.t 26) (.k (.int .i64 1))), oP 28 (.iaddr (.t 23) (.t 24) 1 tI), .op none none (.store (.t 28) (.t 27) 1)]) (.skip))) (.seq (.region [oM 29 3, oM 30 5, oP 31 (.iaddr (.t 29) (.t 30) 4 tT), oP 32 (.faddr (.t 31) 3), oP 33 (.load (.t 32) none (.row 1)), oP 34 (.len (.t 33) false), kI 35 0]) (.block 2 (.loop [3, 4, 17, 18, 33, 34, 35] [15] (isoShared_c0))))))) (isoShared_c1)))
theorem isoShared_L1s_eq (k0 : RT) (h0 : ∀ (n8 : Nat) (l19 : LA), K (.exit 0) ⟨[(4, .own 15 0 n8 none)], [(15, .row 1 l19 false)]⟩ = k0 n8 l19) (l3 : LA) (n1 : Nat) (i1 i2 : Int) (l4 : LA) : isoShared_L1s R N (fun (l3 : LA) (n1 : Nat) (i1 i2 : Int) (l4 : LA) => W ⟨[vR 3 4 l3, (4, .own 15 0 n1 none), vI 17 i1, vI 18 i2], [(15, .row 1 l4 false)]⟩) k0 l3 n1 i1 i2 l4 =
    evC gl R N isoShared_c2 (Kseq (fun st' => W (prune [3, 4, 17, 18] [15] st')) K) ⟨[vR 3 4 l3, (4, .own 15 0 n1 none), vI 17 i1, vI 18 i2], [(15, .row 1 l4 false)]⟩ := by
  unfold isoShared_L1s
  simp (disch := (intros; refine id ?_; kernel_rfl)) only [← h0, isoShared_L2_eq R N (Kblock 2 (Kblock 1 (Kthen gl R N isoShared_c1 (Kseq (fun st' => W (prune [3, 4, 17, 18] [15] st')) K))))]
  kernel_rfl
theorem isoShared_L1_eq (k0 : RT) (h0 : ∀ (n8 : Nat) (l19 : LA), K (.exit 0) ⟨[(4, .own 15 0 n8 none)], [(15, .row 1 l19 false)]⟩ = k0 n8 l19) : ∀ (n : Nat) (l3 : LA) (n1 : Nat) (i1 i2 : Int) (l4 : LA), isoShared_L1 R N k0 n l3 n1 i1 i2 l4 = rounds [3, 4, 17, 18] [15] (evC gl R N isoShared_c2) K n ⟨[vR 3 4 l3, (4, .own 15 0 n1 none), vI 17 i1, vI 18 i2], [(15, .row 1 l4 false)]⟩
  | 0, _, _, _, _, _ => rfl
  | n + 1, l3, n1, i1, i2, l4 => (congrArg (fun go => isoShared_L1s R N go k0 l3 n1 i1 i2 l4) (funext fun l3 => funext fun n1 => funext fun i1 => funext fun i2 => funext fun l4 => isoShared_L1_eq k0 h0 n l3 n1 i1 i2 l4)).trans (isoShared_L1s_eq R N K (rounds [3, 4, 17, 18] [15] (evC gl R N isoShared_c2) K n) k0 h0 l3 n1 i1 i2 l4)
def isoShared_L3s (R : RT) (N : Nat) (go : Nat → Int → Int → LA → LA → OR) (k0 : LA → OR) (n10 : Nat) (i20 i21 : Int) (l21 l22 : LA) : OR :=
  bif decide ((i21 : Int) < i20) then
    (need (decide (0 ≤ (i21 : Int)) && decide ((i21 : Int) < ((n10 : Nat) : Int))) <|
    (l22[0 + Int.toNat i21]?).bind fun e8 =>
    (e8.flat[0]?).bind fun v3 =>
    asI .i64 v3 fun i22 =>
    bif decide ((i22 : Int) > 1) then
    (need (decide (((l21.drop 0).take l21.length).length + [AV.int .i64 i21].length ≤ 1099511627776)) <|
    go n10 i20 (IntKind.i64.wrap (i21 + 1)) (((l21.drop 0).take l21.length) ++ [AV.int .i64 i21]) l22)
    else
    go n10 i20 (IntKind.i64.wrap (i21 + 1)) l21 l22)
  else
    k0 l21
def isoShared_L3 (R : RT) (N : Nat) (k0 : LA → OR) : Nat → Nat → Int → Int → LA → LA → OR
  | 0, _, _, _, _, _ => none
  | n + 1, n10, i20, i21, l21, l22 => isoShared_L3s R N (isoShared_L3 R N k0 n) k0 n10 i20 i21 l21 l22
def isoShared_c3 : AC := .seq (.region [oP 50 (.bin .lss (.t 49) (.t 48))]) (.seq (.cond (.t 50) (.skip) (.exit 4 [8] [8])) (.seq (.block 5 (.seq (.region [oM 51 49, oP 52 (.iaddr (.t 47) (.t 49) 1 tI), oP 53 (.load (.t 52) none tI), oM 9 51, oM 10 53]) (.seq (.region [oM 54 10, oP 55 (.bin .gtr (.t 54) (.k (.int .i64 1)))]) (.cond (.t 55) (.region [oM 56 8, oM 57 9, oP 58 (.bslice [.t 57] 1 false), oP 59 (.app 8 (.t 56) (.t 58) 1 .any false), oM 8 59]) (.skip))))) (.region [oP 60 (.bin .add (.t 49) (.k (.int .i64 1))), oM 49 60])))
theorem isoShared_L3s_eq (k0 : LA → OR) (h0 : ∀ (l24 : LA), K (.exit 4) ⟨[(8, .own 8 0 l24.length none)], [(8, .row 1 l24 false)]⟩ = k0 l24) (n10 : Nat) (i20 i21 : Int) (l21 l22 : LA) : isoShared_L3s R N (fun (n10 : Nat) (i20 i21 : Int) (l21 l22 : LA) => W ⟨[(8, .own 8 0 l21.length none), (47, .own 15 0 n10 none), vI 48 i20, vI 49 i21], [(8, .row 1 l21 false), (15, .row 1 l22 false)]⟩) k0 n10 i20 i21 l21 l22 =
    evC gl R N isoShared_c3 (Kseq (fun st' => W (prune [8, 47, 48, 49] [8, 15] st')) K) ⟨[(8, .own 8 0 l21.length none), (47, .own 15 0 n10 none), vI 48 i20, vI 49 i21], [(8, .row 1 l21 false), (15, .row 1 l22 false)]⟩ := by
  unfold isoShared_L3s
  simp (disch := (intros; refine id ?_; kernel_rfl)) only [← h0]
  kernel_rfl
theorem isoShared_L3_eq (k0 : LA → OR) (h0 : ∀ (l24 : LA), K (.exit 4) ⟨[(8, .own 8 0 l24.length none)], [(8, .row 1 l24 false)]⟩ = k0 l24) : ∀ (n n10 : Nat) (i20 i21 : Int) (l21 l22 : LA), isoShared_L3 R N k0 n n10 i20 i21 l21 l22 = rounds [8, 47, 48, 49] [8, 15] (evC gl R N isoShared_c3) K n ⟨[(8, .own 8 0 l21.length none), (47, .own 15 0 n10 none), vI 48 i20, vI 49 i21], [(8, .row 1 l21 false), (15, .row 1 l22 false)]⟩
  | 0, _, _, _, _, _ => rfl
  | n + 1, n10, i20, i21, l21, l22 => (congrArg (fun go => isoShared_L3s R N go k0 n10 i20 i21 l21 l22) (funext fun n10 => funext fun i20 => funext fun i21 => funext fun l21 => funext fun l22 => isoShared_L3_eq k0 h0 n n10 i20 i21 l21 l22)).trans (isoShared_L3s_eq R N K (rounds [8, 47, 48, 49] [8, 15] (evC gl R N isoShared_c3) K n) k0 h0 n10 i20 i21 l21 l22)
def isoShared_c4 : AC := .seq (.region [oM 61 8, oM 2 61]) (.ret [2] [8])
def isoShared_c5 : AC := .seq (.region [oP 8 (.nilOwn 8 (some (1, .any)))]) (.seq (.seq (.region [oM 47 4, oP 48 (.len (.t 47) false), kI 49 0]) (.block 4 (.loop [8, 47, 48, 49] [8, 15] (isoShared_c3)))) (isoShared_c4))
def isoShared_c6 : AC := .seq (.region [oP 2 (.nilOwn 8 (some (1, .any)))]) (.seq (.region [oM 11 0, oP 12 (.call id_isoCanon [.t 11] (.row 4)), oM 3 12]) (.seq (.region [oM 13 3, oP 14 (.len (.t 13) false), oP 15 (.mkOwn 15 (.t 14) 1 (.int .i64 0) false), oM 4 15]) (.seq (.seq (.region [oM 16 4, oP 17 (.len (.t 16) false), kI 18 0]) (.block 0 (.loop [3, 4, 17, 18] [15] (isoShared_c2)))) (isoShared_c5))))
def isoShared : AFunc := ⟨1, 62, [.tmp 2], isoShared_c6⟩
def isoSharedr (R : RT) (N : Nat) (l1 : LA) : OR :=
  (R id_isoCanon [AV.row 4 l1]).bind fun r1 =>
  asR 4 r1.v fun l2 =>
  need (decide (0 ≤ (((l2.length : Nat) : Int) : Int)) && decide ((((l2.length : Nat) : Int) : Int) ≤ 1099511627776)) <|
  isoShared_L1 R N
    (fun n9 l20 =>
    isoShared_L3 R N
      (fun l25 =>
    some ⟨AV.row 1 ((l25.drop 0).take l25.length), true, []⟩)
      N n9 ((n9 : Nat) : Int) 0 [] l20)
    N l2 (Int.toNat ((l2.length : Nat) : Int)) ((Int.toNat ((l2.length : Nat) : Int) : Nat) : Int) 0 (List.replicate (Int.toNat ((l2.length : Nat) : Int)) (AV.int .i64 0))
theorem isoShared_eq (l1 : LA) : runF gl R N isoShared [AV.row 4 l1] = isoSharedr R N l1 := by
  unfold isoSharedr
  simp (disch := (intros; refine id ?_; kernel_rfl)) only [isoShared_L1_eq R N (Kblock 0 (Kthen gl R N isoShared_c5 (Kret isoShared.rets []))), isoShared_L3_eq R N (Kblock 4 (Kthen gl R N isoShared_c4 (Kret isoShared.rets [])))]
  kernel_rfl
theorem isoShared_fit : fitF Tryd.prog isoShared Tryd.f14 = true := by
  kernel_rfl

def ref18Shared_L2s (R : RT) (N : Nat) (go : LA → Nat → Int → Int → LA → Int → Int → LA → OR) (k0 : LA → Nat → Int → Int → LA → OR) (l6 : LA) (n2 : Nat) (i4 i5 : Int) (l7 : LA) (i6 i7 : Int) (l8 : LA) : OR :=
  bif decide ((i7 : Int) < i6) then
    (need (decide (0 ≤ (i7 : Int))) <|
    (l7[Int.toNat i7]?).bind fun e3 =>
    asI .i64 e3 fun i8 =>
    need (decide (0 ≤ (i8 : Int)) && decide ((i8 : Int) < ((n2 : Nat) : Int))) <|
    (l8[0 + Int.toNat i8]?).bind fun e4 =>
    (e4.flat[0]?).bind fun v1 =>
    asI .i64 v1 fun i9 =>
    need (decide (0 ≤ (i8 : Int)) && decide ((i8 : Int) < ((n2 : Nat) : Int))) <|
    (l8[0 + Int.toNat i8]?).bind fun e5 =>
    needSt e5 (AV.int .i64 (IntKind.i64.wrap (i9 + 1))) 0 1 <|
    go l6 n2 i4 i5 l7 i6 (IntKind.i64.wrap (i7 + 1)) (l8.set (0 + Int.toNat i8) (AV.int .i64 (IntKind.i64.wrap (i9 + 1)))))
  else
    k0 l6 n2 i4 i5 l8
def ref18Shared_L2 (R : RT) (N : Nat) (k0 : LA → Nat → Int → Int → LA → OR) : Nat → LA → Nat → Int → Int → LA → Int → Int → LA → OR
  | 0, _, _, _, _, _, _, _, _ => none
  | n + 1, l6, n2, i4, i5, l7, i6, i7, l8 => ref18Shared_L2s R N (ref18Shared_L2 R N k0 n) k0 l6 n2 i4 i5 l7 i6 i7 l8
def ref18Shared_c0 : AC := .seq (.region [oP 29 (.bin .lss (.t 28) (.t 27))]) (.seq (.cond (.t 29) (.skip) (.exit 2 [3, 4, 18, 19] [14])) (.seq (.block 3 (.seq (.region [oP 30 (.iaddr (.t 26) (.t 28) 1 tI), oP 31 (.load (.t 30) none tI), oM 7 31]) (.region [oM 32 4, oM 33 7, oP 34 (.iaddr (.t 32) (.t 33) 1 tI), oP 35 (.load (.t 34) none tI), oP 36 (.bin .add (.t 35) (.k (.int .i64 1))), oP 37 (.iaddr (.t 32) (.t 33) 1 tI), .op none none (.store (.t 37) (.t 36) 1)]))) (.region [oP 38 (.bin .add (.t 28) (.k (.int .i64 1))), oM 28 38])))
theorem ref18Shared_L2s_eq (k0 : LA → Nat → Int → Int → LA → OR) (h0 : ∀ (l11 : LA) (n4 : Nat) (i12 i13 : Int) (l12 : LA), K (.exit 2) ⟨[vR 3 4 l11, (4, .own 14 0 n4 none), vI 18 i12, vI 19 i13], [(14, .row 1 l12 false)]⟩ = k0 l11 n4 i12 i13 l12) (l6 : LA) (n2 : Nat) (i4 i5 : Int) (l7 : LA) (i6 i7 : Int) (l8 : LA) : ref18Shared_L2s R N (fun (l6 : LA) (n2 : Nat) (i4 i5 : Int) (l7 : LA) (i6 i7 : Int) (l8 : LA) => W ⟨[vR 3 4 l6, (4, .own 14 0 n2 none), vI 18 i4, vI 19 i5, vR 26 1 l7, vI 27 i6, vI 28 i7], [(14, .row 1 l8 false)]⟩) k0 l6 n2 i4 i5 l7 i6 i7 l8 =
    evC gl R N ref18Shared_c0 (Kseq (fun st' => W (prune [3, 4, 18, 19, 26, 27, 28] [14] st')) K) ⟨[vR 3 4 l6, (4, .own 14 0 n2 none), vI 18 i4, vI 19 i5, vR 26 1 l7, vI 27 i6, vI 28 i7], [(14, .row 1 l8 false)]⟩ := by
  unfold ref18Shared_L2s
  simp (disch := (intros; refine id ?_; kernel_rfl)) only [← h0]
  kernel_rfl
theorem ref18Shared_L2_eq (k0 : LA → Nat → Int → Int → LA → OR) (h0 : ∀ (l11 : LA) (n4 : Nat) (i12 i13 : Int) (l12 : LA), K (.exit 2) ⟨[vR 3 4 l11, (4, .own 14 0 n4 none), vI 18 i12, vI 19 i13], [(14, .row 1 l12 false)]⟩ = k0 l11 n4 i12 i13 l12) : ∀ (n : Nat) (l6 : LA) (n2 : Nat) (i4 i5 : Int) (l7 : LA) (i6 i7 : Int) (l8 : LA), ref18Shared_L2 R N k0 n l6 n2 i4 i5 l7 i6 i7 l8 = rounds [3, 4, 18, 19, 26, 27, 28] [14] (evC gl R N ref18Shared_c0) K n ⟨[vR 3 4 l6, (4, .own 14 0 n2 none), vI 18 i4, vI 19 i5, vR 26 1 l7, vI 27 i6, vI 28 i7], [(14, .row 1 l8 false)]⟩
  | 0, _, _, _, _, _, _, _, _ => rfl
  | n + 1, l6, n2, i4, i5, l7, i6, i7, l8 => (congrArg (fun go => ref18Shared_L2s R N go k0 l6 n2 i4 i5 l7 i6 i7 l8) (funext fun l6 => funext fun n2 => funext fun i4 => funext fun i5 => funext fun l7 => funext fun i6 => funext fun i7 => funext fun l8 => ref18Shared_L2_eq k0 h0 n l6 n2 i4 i5 l7 i6 i7 l8)).trans (ref18Shared_L2s_eq R N K (rounds [3, 4, 18, 19, 26, 27, 28] [14] (evC gl R N ref18Shared_c0) K n) k0 h0 l6 n2 i4 i5 l7 i6 i7 l8)
def ref18Shared_L1s (R : RT) (N : Nat) (go : LA → Nat → Int → Int → LA → OR) (k0 : RT) (l3 : LA) (n1 : Nat) (i1 i2 : Int) (l4 : LA) : OR :=
  bif decide ((i2 : Int) < i1) then
    (need (decide (0 ≤ (i2 : Int))) <|
    (l3[Int.toNat i2]?).bind fun e2 =>
    asISSRA e2 fun i3 s1 s2 l5 =>
    ref18Shared_L2 R N
      (fun l13 n5 i14 i15 l14 =>
    go l13 n5 i14 (IntKind.i64.wrap (i15 + 1)) l14)
      N l3 n1 i1 i2 l5 ((l5.length : Nat) : Int) 0 l4)
  else
    k0 n1 l4
def ref18Shared_L1 (R : RT) (N : Nat) (k0 : RT) : Nat → LA → Nat → Int → Int → LA → OR
  | 0, _, _, _, _, _ => none
  | n + 1, l3, n1, i1, i2, l4 => ref18Shared_L1s R N (ref18Shared_L1 R N k0 n) k0 l3 n1 i1 i2 l4
def ref18Shared_c1 : AC := .region [oP 39 (.bin .add (.t 19) (.k (.int .i64 1))), oM 19 39]
def ref18Shared_c2 : AC := .seq (.region [oP 20 (.bin .lss (.t 19) (.t 18))]) (.seq (.cond (.t 20) (.skip) (.exit 0 [4] [14])) (.seq (.block 1 (.seq (.region [oM 21 19, oM 5 21]) (.seq (.region [oM 22 3, oM 23 5, oP 24 (.iaddr (.t 22) (.t 23) 4 tT), oP 25 (.faddr (.t 24) 3), oP 26 (.load (.t 25) none (.row 1)), oP 27 (.len (.t 26) false), kI 28 0]) (.block 2 (.loop [3, 4, 18, 19, 26, 27, 28] [14] (ref18Shared_c0)))))) (ref18Shared_c1)))
theorem ref18Shared_L1s_eq (k0 : RT) (h0 : ∀ (n7 : Nat) (l16 : LA), K (.exit 0) ⟨[(4, .own 14 0 n7 none)], [(14, .row 1 l16 false)]⟩ = k0 n7 l16) (l3 : LA) (n1 : Nat) (i1 i2 : Int) (l4 : LA) : ref18Shared_L1s R N (fun (l3 : LA) (n1 : Nat) (i1 i2 : Int) (l4 : LA) => W ⟨[vR 3 4 l3, (4, .own 14 0 n1 none), vI 18 i1, vI 19 i2], [(14, .row 1 l4 false)]⟩) k0 l3 n1 i1 i2 l4 =
    evC gl R N ref18Shared_c2 (Kseq (fun st' => W (prune [3, 4, 18, 19] [14] st')) K) ⟨[vR 3 4 l3, (4, .own 14 0 n1 none), vI 18 i1, vI 19 i2], [(14, .row 1 l4 false)]⟩ := by
  unfold ref18Shared_L1s
  simp (disch := (intros; refine id ?_; kernel_rfl)) only [← h0, ref18Shared_L2_eq R N (Kblock 2 (Kblock 1 (Kthen gl R N ref18Shared_c1 (Kseq (fun st' => W (prune [3, 4, 18, 19] [14] st')) K))))]
  kernel_rfl
theorem ref18Shared_L1_eq (k0 : RT) (h0 : ∀ (n7 : Nat) (l16 : LA), K (.exit 0) ⟨[(4, .own 14 0 n7 none)], [(14, .row 1 l16 false)]⟩ = k0 n7 l16) : ∀ (n : Nat) (l3 : LA) (n1 : Nat) (i1 i2 : Int) (l4 : LA), ref18Shared_L1 R N k0 n l3 n1 i1 i2 l4 = rounds [3, 4, 18, 19] [14] (evC gl R N ref18Shared_c2) K n ⟨[vR 3 4 l3, (4, .own 14 0 n1 none), vI 18 i1, vI 19 i2], [(14, .row 1 l4 false)]⟩
  | 0, _, _, _, _, _ => rfl
  | n + 1, l3, n1, i1, i2, l4 => (congrArg (fun go => ref18Shared_L1s R N go k0 l3 n1 i1 i2 l4) (funext fun l3 => funext fun n1 => funext fun i1 => funext fun i2 => funext fun l4 => ref18Shared_L1_eq k0 h0 n l3 n1 i1 i2 l4)).trans (ref18Shared_L1s_eq R N K (rounds [3, 4, 18, 19] [14] (evC gl R N ref18Shared_c2) K n) k0 h0 l3 n1 i1 i2 l4)
def ref18Shared_L3s (R : RT) (N : Nat) (go : Nat → Int → Int → LA → LA → OR) (k0 : LA → OR) (n9 : Nat) (i16 i17 : Int) (l18 l19 : LA) : OR :=
  bif decide ((i17 : Int) < i16) then
    (need (decide (0 ≤ (i17 : Int)) && decide ((i17 : Int) < ((n9 : Nat) : Int))) <|
    (l19[0 + Int.toNat i17]?).bind fun e6 =>
    (e6.flat[0]?).bind fun v2 =>
    asI .i64 v2 fun i18 =>
    bif decide ((i18 : Int) > 1) then
    (need (decide (((l18.drop 0).take l18.length).length + [AV.int .i64 i17].length ≤ 1099511627776)) <|
    go n9 i16 (IntKind.i64.wrap (i17 + 1)) (((l18.drop 0).take l18.length) ++ [AV.int .i64 i17]) l19)
    else
    go n9 i16 (IntKind.i64.wrap (i17 + 1)) l18 l19)
  else
    k0 l18
def ref18Shared_L3 (R : RT) (N : Nat) (k0 : LA → OR) : Nat → Nat → Int → Int → LA → LA → OR
  | 0, _, _, _, _, _ => none
  | n + 1, n9, i16, i17, l18, l19 => ref18Shared_L3s R N (ref18Shared_L3 R N k0 n) k0 n9 i16 i17 l18 l19
def ref18Shared_c3 : AC := .seq (.region [oP 43 (.bin .lss (.t 42) (.t 41))]) (.seq (.cond (.t 43) (.skip) (.exit 4 [8] [8])) (.seq (.block 5 (.seq (.region [oM 44 42, oM 9 44]) (.seq (.region [oM 45 4, oM 46 9, oP 47 (.iaddr (.t 45) (.t 46) 1 tI), oP 48 (.load (.t 47) none tI), oP 49 (.bin .gtr (.t 48) (.k (.int .i64 1)))]) (.cond (.t 49) (.region [oM 50 8, oM 51 9, oP 52 (.bslice [.t 51] 1 false), oP 53 (.app 8 (.t 50) (.t 52) 1 .any false), oM 8 53]) (.skip))))) (.region [oP 54 (.bin .add (.t 42) (.k (.int .i64 1))), oM 42 54])))
theorem ref18Shared_L3s_eq (k0 : LA → OR) (h0 : ∀ (l21 : LA), K (.exit 4) ⟨[(8, .own 8 0 l21.length none)], [(8, .row 1 l21 false)]⟩ = k0 l21) (n9 : Nat) (i16 i17 : Int) (l18 l19 : LA) : ref18Shared_L3s R N (fun (n9 : Nat) (i16 i17 : Int) (l18 l19 : LA) => W ⟨[(4, .own 14 0 n9 none), (8, .own 8 0 l18.length none), vI 41 i16, vI 42 i17], [(8, .row 1 l18 false), (14, .row 1 l19 false)]⟩) k0 n9 i16 i17 l18 l19 =
    evC gl R N ref18Shared_c3 (Kseq (fun st' => W (prune [4, 8, 41, 42] [8, 14] st')) K) ⟨[(4, .own 14 0 n9 none), (8, .own 8 0 l18.length none), vI 41 i16, vI 42 i17], [(8, .row 1 l18 false), (14, .row 1 l19 false)]⟩ := by
  unfold ref18Shared_L3s
  simp (disch := (intros; refine id ?_; kernel_rfl)) only [← h0]
  kernel_rfl
theorem ref18Shared_L3_eq (k0 : LA → OR) (h0 : ∀ (l21 : LA), K (.exit 4) ⟨[(8, .own 8 0 l21.length none)], [(8, .row 1 l21 false)]⟩ = k0 l21) : ∀ (n n9 : Nat) (i16 i17 : Int) (l18 l19 : LA), ref18Shared_L3 R N k0 n n9 i16 i17 l18 l19 = rounds [4, 8, 41, 42] [8, 14] (evC gl R N ref18Shared_c3) K n ⟨[(4, .own 14 0 n9 none), (8, .own 8 0 l18.length none), vI 41 i16, vI 42 i17], [(8, .row 1 l18 false), (14, .row 1 l19 false)]⟩
  | 0, _, _, _, _, _ => rfl
  | n + 1, n9, i16, i17, l18, l19 => (congrArg (fun go => ref18Shared_L3s R N go k0 n9 i16 i17 l18 l19) (funext fun n9 => funext fun i16 => funext fun i17 => funext fun l18 => funext fun l19 => ref18Shared_L3_eq k0 h0 n n9 i16 i17 l18 l19)).trans (ref18Shared_L3s_eq R N K (rounds [4, 8, 41, 42] [8, 14] (evC gl R N ref18Shared_c3) K n) k0 h0 n9 i16 i17 l18 l19)
def ref18Shared_c4 : AC := .seq (.region [oM 55 8, oM 2 55]) (.ret [2] [8])
def ref18Shared_c5 : AC := .seq (.region [oP 8 (.nilOwn 8 (some (1, .any)))]) (.seq (.seq (.region [oM 40 4, oP 41 (.len (.t 40) false), kI 42 0]) (.block 4 (.loop [4, 8, 41, 42] [8, 14] (ref18Shared_c3)))) (ref18Shared_c4))
def ref18Shared_c6 : AC := .seq (.region [oP 2 (.nilOwn 8 (some (1, .any)))]) (.seq (.region [oM 10 0, oP 11 (.call id_ref18Canon [.t 10] (.row 4)), oM 3 11]) (.seq (.region [oM 12 3, oP 13 (.len (.t 12) false), oP 14 (.mkOwn 14 (.t 13) 1 (.int .i64 0) false), oM 4 14]) (.seq (.region [oM 15 4, oP 16 (.iaddr (.t 15) (.k (.int .i64 0)) 1 tI), .op none none (.store (.t 16) (.k (.int .i64 1)) 1)]) (.seq (.seq (.region [oM 17 3, oP 18 (.len (.t 17) false), kI 19 0]) (.block 0 (.loop [3, 4, 18, 19] [14] (ref18Shared_c2)))) (ref18Shared_c5)))))
def ref18Shared : AFunc := ⟨1, 56, [.tmp 2], ref18Shared_c6⟩
def ref18Sharedr (R : RT) (N : Nat) (l1 : LA) : OR :=
  (R id_ref18Canon [AV.row 4 l1]).bind fun r1 =>
  asR 4 r1.v fun l2 =>
  need (decide (0 ≤ (((l2.length : Nat) : Int) : Int)) && decide ((((l2.length : Nat) : Int) : Int) ≤ 1099511627776)) <|
  need (decide (0 ≤ (0 : Int)) && decide ((0 : Int) < ((Int.toNat ((l2.length : Nat) : Int) : Nat) : Int))) <|
  ((List.replicate (Int.toNat ((l2.length : Nat) : Int)) (AV.int .i64 0))[0 + Int.toNat 0]?).bind fun e1 =>
  needSt e1 (AV.int .i64 1) 0 1 <|
  ref18Shared_L1 R N
    (fun n8 l17 =>
    ref18Shared_L3 R N
      (fun l22 =>
    some ⟨AV.row 1 ((l22.drop 0).take l22.length), true, []⟩)
      N n8 ((n8 : Nat) : Int) 0 [] l17)
    N l2 (Int.toNat ((l2.length : Nat) : Int)) ((l2.length : Nat) : Int) 0 ((List.replicate (Int.toNat ((l2.length : Nat) : Int)) (AV.int .i64 0)).set (0 + Int.toNat 0) (AV.int .i64 1))
theorem ref18Shared_eq (l1 : LA) : runF gl R N ref18Shared [AV.row 4 l1] = ref18Sharedr R N l1 := by
  unfold ref18Sharedr
  simp (disch := (intros; refine id ?_; kernel_rfl)) only [ref18Shared_L1_eq R N (Kblock 0 (Kthen gl R N ref18Shared_c5 (Kret ref18Shared.rets []))), ref18Shared_L3_eq R N (Kblock 4 (Kthen gl R N ref18Shared_c4 (Kret ref18Shared.rets [])))]
  kernel_rfl
theorem ref18Shared_fit : fitF Tryd.prog ref18Shared Tryd.f15 = true := by
  kernel_rfl

def law18IsoTells_J2 (R : RT) (N : Nat) (k0 : Bool → OR) (l4 : LA) : OR :=
  posN N <|
  (R id_isoDepth [AV.row 4 l4]).bind fun r5 =>
  asIBT r5.v fun i1 b6 =>
  (R id_ref18Depth [AV.row 4 l4]).bind fun r6 =>
  asIBT r6.v fun i2 b7 =>
  (R id_isoCanon [AV.row 4 l4]).bind fun r7 =>
  asR 4 r7.v fun l5 =>
  (R id_ref18Canon [AV.row 4 l4]).bind fun r8 =>
  asR 4 r8.v fun l6 =>
  (R id_keepThings [AV.row 4 l5, AV.row 4 l6]).bind fun r9 =>
  asB r9.v fun b8 =>
  bif b8 then
    ((R id_isoShared [AV.row 4 l4]).bind fun r10 =>
    asR 1 r10.v fun l7 =>
    (R id_ref18Shared [AV.row 4 l4]).bind fun r11 =>
    asR 1 r11.v fun l8 =>
    (R id_keepSameInt [AV.row 1 l7, AV.row 1 l8]).bind fun r12 =>
    asB r12.v fun b9 =>
    bif b9 then
    (bif (i1 : Int) == i2 then
    (bif b6 == b7 then
    ((R id_isoSame [AV.row 4 l4, AV.row 4 l4]).bind fun r13 =>
    asB r13.v fun b10 =>
    bif b10 then
    ((R id_law18Wakes []).bind fun r14 =>
    asB r14.v fun b11 =>
    k0 b11)
    else
    k0 false)
    else
    k0 false)
    else
    k0 false)
    else
    k0 false)
  else
    k0 false
def law18IsoTells_c0 : AC := .seq (.region [oM 24 5, oP 25 (.call id_isoDepth [.t 24] (.tup [.int .i64, .bool])), oM 23 25, oP 26 (.extract (.t 23) 0), oP 27 (.extract (.t 23) 1), oM 7 26, oM 8 27]) (.seq (.region [oM 29 5, oP 30 (.call id_ref18Depth [.t 29] (.tup [.int .i64, .bool])), oM 28 30, oP 31 (.extract (.t 28) 0), oP 32 (.extract (.t 28) 1), oM 9 31, oM 10 32]) (.seq (.region [oM 33 5, oP 34 (.call id_isoCanon [.t 33] (.row 4)), oM 35 5, oP 36 (.call id_ref18Canon [.t 35] (.row 4)), oP 37 (.call id_keepThings [.t 34, .t 36] (.bool)), oM 38 37, .split 38, oG 39 38 true (.mv (.t 5)), oG 40 38 true (.call id_isoShared [.t 39] (.row 1)), oG 41 38 true (.mv (.t 5)), oG 42 38 true (.call id_ref18Shared [.t 41] (.row 1)), oG 43 38 true (.call id_keepSameInt [.t 40, .t 42] (.bool)), oP 44 (.pick (.t 38) (.t 43) (.k (.bool false))), oM 45 44, .split 45, oG 46 45 true (.mv (.t 7)), oG 47 45 true (.mv (.t 9)), oG 48 45 true (.bin .eql (.t 46) (.t 47)), oP 49 (.pick (.t 45) (.t 48) (.k (.bool false))), oM 50 49, .split 50, oG 51 50 true (.mv (.t 8)), oG 52 50 true (.mv (.t 10)), oG 53 50 true (.binB .eql (.t 51) (.t 52)), oP 54 (.pick (.t 50) (.t 53) (.k (.bool false))), oM 55 54, .split 55, oG 56 55 true (.mv (.t 5)), oG 57 55 true (.mv (.t 5)), oG 58 55 true (.call id_isoSame [.t 56, .t 57] (.bool)), oP 59 (.pick (.t 55) (.t 58) (.k (.bool false))), oM 60 59, .split 60, oG 61 60 true (.call id_law18Wakes [] (.bool)), oP 62 (.pick (.t 60) (.t 61) (.k (.bool false))), oM 4 62]) (.ret [4] [])))
def law18IsoTells_c1 : AC := .meet [] [] law18IsoTells_c0
theorem law18IsoTells_J2_eq (k0 : Bool → OR) (h0 : ∀ (b14 : Bool), K .ret ⟨[vB 4 b14], []⟩ = k0 b14) (l4 : LA) : law18IsoTells_J2 R N k0 l4 =
    runJ [] [] (evC gl R N law18IsoTells_c0) K N ⟨[vR 5 4 l4], []⟩ := by
  unfold law18IsoTells_J2
  refine (congrArg (posN N) ?_).trans (runJ_eq _ _ _ _ _ _).symm
  simp (disch := (intros; refine id ?_; kernel_rfl)) only [← h0]
  kernel_rfl
def law18IsoTells_J1 (R : RT) (N : Nat) (k0 : Bool → OR) (l3 : LA) (b4 : Bool) : OR :=
  posN N <|
  bif !b4 then
    ((R id_law18Wakes []).bind fun r4 =>
    asB r4.v fun b5 =>
    k0 b5)
  else
    law18IsoTells_J2 R N
      (fun b15 =>
    k0 b15)
       l3
def law18IsoTells_c2 : AC := .seq (.join [5] [] (.seq (.region [oM 20 6, oP 21 (.un .not (.t 20))]) (.cond (.t 21) (.seq (.region [oP 22 (.call id_law18Wakes [] (.bool)), oM 4 22]) (.ret [4] [])) (.skip)))) (law18IsoTells_c1)
def law18IsoTells_c3 : AC := .meet [] [] law18IsoTells_c2
theorem law18IsoTells_J1_eq (k0 : Bool → OR) (h0 : ∀ (b18 : Bool), K .ret ⟨[vB 4 b18], []⟩ = k0 b18) (l3 : LA) (b4 : Bool) : law18IsoTells_J1 R N k0 l3 b4 =
    runJ [] [] (evC gl R N law18IsoTells_c2) K N ⟨[vR 5 4 l3, vB 6 b4], []⟩ := by
  unfold law18IsoTells_J1
  refine (congrArg (posN N) ?_).trans (runJ_eq _ _ _ _ _ _).symm
  simp (disch := (intros; refine id ?_; kernel_rfl)) only [← h0, law18IsoTells_J2_eq R N (Kjoin [] [] K)]
  kernel_rfl
def law18IsoTells_c4 : AC := .seq (.region [kB 4 false]) (.seq (.region [oM 11 0, oM 12 1, oP 13 (.call id_law18Graph [.t 11, .t 12] (.row 4)), oM 5 13]) (.seq (.region [oM 14 5, oP 15 (.call id_isoValid [.t 14] (.bool)), oM 6 15]) (.seq (.join [5, 6] [] (.seq (.region [oM 16 6, oM 17 5, oP 18 (.call id_ref18Valid [.t 17] (.bool)), oP 19 (.binB .neq (.t 16) (.t 18))]) (.cond (.t 19) (.seq (.region [kB 4 false]) (.ret [4] [])) (.skip)))) (law18IsoTells_c3))))
def law18IsoTells : AFunc := ⟨2, 63, [.tmp 4], law18IsoTells_c4⟩
def law18IsoTellsr (R : RT) (N : Nat) (l1 : LA) (b1 : Bool) : OR :=
  (R id_law18Graph [AV.row 5 l1, AV.bool b1]).bind fun r1 =>
  asR 4 r1.v fun l2 =>
  (R id_isoValid [AV.row 4 l2]).bind fun r2 =>
  asB r2.v fun b2 =>
  (R id_ref18Valid [AV.row 4 l2]).bind fun r3 =>
  asB r3.v fun b3 =>
  bif !(b2 == b3) then
    (some ⟨AV.bool false, false, []⟩)
  else
    law18IsoTells_J1 R N
      (fun b19 =>
    some ⟨AV.bool b19, false, []⟩)
       l2 b2
theorem law18IsoTells_eq (l1 : LA) (b1 : Bool) : runF gl R N law18IsoTells [AV.row 5 l1, AV.bool b1] = law18IsoTellsr R N l1 b1 := by
  unfold law18IsoTellsr
  simp (disch := (intros; refine id ?_; kernel_rfl)) only [law18IsoTells_J1_eq R N (Kret law18IsoTells.rets [])]
  kernel_rfl
theorem law18IsoTells_fit : fitF Tryd.prog law18IsoTells Tryd.f3 = true := by
  kernel_rfl

def isoValid1_c0 : AC := .seq (.region [oP 2 (.box 1002 (.t 0) 4), kB 3 false]) (.seq (.region [oP 4 (.loadC (.t 1) none (.row 4)), oP 5 (.load (.t 2) (some 4) tT), oP 6 (.call id_isoRight [.t 4, .t 5] (.bool)), oP 7 (.un .not (.t 6)), oM 3 7]) (.ret [3] []))
def isoValid1 : AFunc := ⟨2, 8, [.tmp 3], isoValid1_c0⟩
def isoValid1r (R : RT) (N : Nat) (i1 : Int) (s1 s2 : LB) (l1 l2 : LA) : OR :=
  (R id_isoRight [AV.row 4 l2, AV.agg [AV.int .i64 i1, AV.str s1, AV.str s2, AV.row 1 l1]]).bind fun r1 =>
  asB r1.v fun b1 =>
  some ⟨AV.bool (!b1), false, []⟩
theorem isoValid1_eq (i1 : Int) (s1 s2 : LB) (l1 l2 : LA) : runF gl R N isoValid1 [AV.agg [AV.int .i64 i1, AV.str s1, AV.str s2, AV.row 1 l1], AV.cell [AV.row 4 l2]] = isoValid1r R N i1 s1 s2 l1 l2 := by
  unfold isoValid1r
  kernel_rfl
theorem isoValid1_fit : fitF Tryd.prog isoValid1 Tryd.f22 = true := by
  kernel_rfl

def isoSame1_c0 : AC := .seq (.region [oP 2 (.box 1002 (.t 0) 4), oP 3 (.box 1003 (.t 1) 4), kB 4 false]) (.seq (.region [oP 5 (.faddr (.t 2) 0), oP 6 (.load (.t 5) none tI), oP 7 (.faddr (.t 3) 0), oP 8 (.load (.t 7) none tI), oP 9 (.bin .eql (.t 6) (.t 8)), oM 10 9, .split 10, oG 11 10 true (.faddr (.t 2) 1), oG 12 10 true (.load (.t 11) none (.str)), oG 13 10 true (.faddr (.t 3) 1), oG 14 10 true (.load (.t 13) none (.str)), oG 15 10 true (.bin .eql (.t 12) (.t 14)), oP 16 (.pick (.t 10) (.t 15) (.k (.bool false))), oM 17 16, .split 17, oG 18 17 true (.faddr (.t 2) 2), oG 19 17 true (.load (.t 18) none (.str)), oG 20 17 true (.faddr (.t 3) 2), oG 21 17 true (.load (.t 20) none (.str)), oG 22 17 true (.bin .eql (.t 19) (.t 21)), oP 23 (.pick (.t 17) (.t 22) (.k (.bool false))), oM 24 23, .split 24, oG 25 24 true (.faddr (.t 2) 3), oG 26 24 true (.load (.t 25) none (.row 1)), oG 27 24 true (.faddr (.t 3) 3), oG 28 24 true (.load (.t 27) none (.row 1)), oG 29 24 true (.call id_slicesEqualIntInt [.t 26, .t 28] (.bool)), oP 30 (.pick (.t 24) (.t 29) (.k (.bool false))), oM 4 30]) (.ret [4] []))
def isoSame1 : AFunc := ⟨2, 31, [.tmp 4], isoSame1_c0⟩
def isoSame1r (R : RT) (N : Nat) (i1 : Int) (s1 s2 : LB) (l1 : LA) (i2 : Int) (s3 s4 : LB) (l2 : LA) : OR :=
  bif (i1 : Int) == i2 then
    (bif s1 == s3 then
    (bif s2 == s4 then
    ((R id_slicesEqualIntInt [AV.row 1 l1, AV.row 1 l2]).bind fun r1 =>
    asB r1.v fun b1 =>
    some ⟨AV.bool b1, false, []⟩)
    else
    some ⟨AV.bool false, false, []⟩)
    else
    some ⟨AV.bool false, false, []⟩)
  else
    some ⟨AV.bool false, false, []⟩
theorem isoSame1_eq (i1 : Int) (s1 s2 : LB) (l1 : LA) (i2 : Int) (s3 s4 : LB) (l2 : LA) : runF gl R N isoSame1 [AV.agg [AV.int .i64 i1, AV.str s1, AV.str s2, AV.row 1 l1], AV.agg [AV.int .i64 i2, AV.str s3, AV.str s4, AV.row 1 l2]] = isoSame1r R N i1 s1 s2 l1 i2 s3 s4 l2 := by
  unfold isoSame1r
  kernel_rfl
theorem isoSame1_fit : fitF Tryd.prog isoSame1 Tryd.f33 = true := by
  kernel_rfl

def table : List (Nat × AFunc) := [(id_charsDigit, charsDigit), (id_charsLetter, charsLetter), (id_internalStringsliteHasPrefix, internalStringsliteHasPrefix), (id_internalStringsliteCutPrefix, internalStringsliteCutPrefix), (id_internalStringsliteTrimPrefix, internalStringsliteTrimPrefix), (id_stringsCutPrefix, stringsCutPrefix), (id_stringsTrimPrefix, stringsTrimPrefix), (id_charsName, charsName), (id_propsValidTag, propsValidTag), (id_slicesEqualIntInt, slicesEqualIntInt), (id_isoRight, isoRight), (id_isoKeyed, isoKeyed), (id_keepWithin, keepWithin), (id_keepText, keepText), (id_ref01Rune, ref01Rune), (id_ref01Escape, ref01Escape), (id_ref01Printable, ref01Printable), (id_ref01Hex, ref01Hex), (id_ref01PutDouble, ref01PutDouble), (id_keepCopyInt, keepCopyInt), (id_keepCutInt, keepCutInt), (id_law18Graph, law18Graph), (id_slicesIndexFuncT, slicesIndexFuncT), (id_slicesContainsFuncT, slicesContainsFuncT), (id_isoValid, isoValid), (id_ref01Letter, ref01Letter), (id_ref01Name, ref01Name), (id_ref08ValidTag, ref08ValidTag), (id_ref18Utf8, ref18Utf8), (id_ref18Valid, ref18Valid), (id_slicesCloneIntInt, slicesCloneIntInt), (id_isoOrder, isoOrder), (id_isoCanon, isoCanon), (id_slicesEqualFuncT, slicesEqualFuncT), (id_isoSame, isoSame), (id_keepCopyApiThing, keepCopyApiThing), (id_law18Wakes, law18Wakes), (id_isoDepths, isoDepths), (id_isoDepth, isoDepth), (id_ref18DepthLow, ref18DepthLow), (id_ref18Depth, ref18Depth), (id_keepSameInt, keepSameInt), (id_keepThings, keepThings), (id_isoShared, isoShared), (id_ref18Shared, ref18Shared), (id_law18IsoTells, law18IsoTells), (id_isoValid1, isoValid1), (id_isoSame1, isoSame1)]
theorem table_fits : Fits Tryd.prog table := ⟨⟨_, Tryd.func55, charsDigit_fit⟩, ⟨_, Tryd.func52, charsLetter_fit⟩, ⟨_, Tryd.func54, internalStringsliteHasPrefix_fit⟩, ⟨_, Tryd.func51, internalStringsliteCutPrefix_fit⟩, ⟨_, Tryd.func53, internalStringsliteTrimPrefix_fit⟩, ⟨_, Tryd.func46, stringsCutPrefix_fit⟩, ⟨_, Tryd.func48, stringsTrimPrefix_fit⟩, ⟨_, Tryd.func47, charsName_fit⟩, ⟨_, Tryd.func41, propsValidTag_fit⟩, ⟨_, Tryd.func34, slicesEqualIntInt_fit⟩, ⟨_, Tryd.func23, isoRight_fit⟩, ⟨_, Tryd.func43, isoKeyed_fit⟩, ⟨_, Tryd.func17, keepWithin_fit⟩, ⟨_, Tryd.func18, keepText_fit⟩, ⟨_, Tryd.func35, ref01Rune_fit⟩, ⟨_, Tryd.func36, ref01Escape_fit⟩, ⟨_, Tryd.func37, ref01Printable_fit⟩, ⟨_, Tryd.func38, ref01Hex_fit⟩, ⟨_, Tryd.func19, ref01PutDouble_fit⟩, ⟨_, Tryd.func39, keepCopyInt_fit⟩, ⟨_, Tryd.func20, keepCutInt_fit⟩, ⟨_, Tryd.func4, law18Graph_fit⟩, ⟨_, Tryd.func40, slicesIndexFuncT_fit⟩, ⟨_, Tryd.func21, slicesContainsFuncT_fit⟩, ⟨_, Tryd.func5, isoValid_fit⟩, ⟨_, Tryd.func50, ref01Letter_fit⟩, ⟨_, Tryd.func44, ref01Name_fit⟩, ⟨_, Tryd.func24, ref08ValidTag_fit⟩, ⟨_, Tryd.func25, ref18Utf8_fit⟩, ⟨_, Tryd.func6, ref18Valid_fit⟩, ⟨_, Tryd.func30, slicesCloneIntInt_fit⟩, ⟨_, Tryd.func29, isoOrder_fit⟩, ⟨_, Tryd.func11, isoCanon_fit⟩, ⟨_, Tryd.func32, slicesEqualFuncT_fit⟩, ⟨_, Tryd.func16, isoSame_fit⟩, ⟨_, Tryd.func26, keepCopyApiThing_fit⟩, ⟨_, Tryd.func7, law18Wakes_fit⟩, ⟨_, Tryd.func27, isoDepths_fit⟩, ⟨_, Tryd.func8, isoDepth_fit⟩, ⟨_, Tryd.func28, ref18DepthLow_fit⟩, ⟨_, Tryd.func9, ref18Depth_fit⟩, ⟨_, Tryd.func13, keepSameInt_fit⟩, ⟨_, Tryd.func10, keepThings_fit⟩, ⟨_, Tryd.func14, isoShared_fit⟩, ⟨_, Tryd.func15, ref18Shared_fit⟩, ⟨_, Tryd.func3, law18IsoTells_fit⟩, ⟨_, Tryd.func22, isoValid1_fit⟩, ⟨_, Tryd.func33, isoSame1_fit⟩, trivial⟩
theorem table_fit : ∀ f F, get table f = some F → ∃ fn, Tryd.prog.funcs[f]? = some fn ∧ fitF Tryd.prog F fn = true := table_fits.get
end Go.Proofs.YthdefengmkcacaaDoor.Vf
