/- The code of the functions that the statements reach, as our evaluator takes it, and what each of them comes to, readably: printed by a program of ours. No condition. -/
import Derived.Test.YtmpjohnbddnehaaDoorVfWalk1
namespace Go.Proofs.YtmpjohnbddnehaaDoor.Vf
set_option linter.unusedVariables false
set_option linter.unusedSimpArgs false
set_option maxRecDepth 100000


def law18Graph_J9 (R : Nat → List AV → Option Res) (N : Nat) (k0 : List AV → Bool → Int → List AV → Int → Int → List AV → List AV → Int → List UInt8 → List UInt8 → Option Res) (l36 : List AV) (b11 : Bool) (i51 : Int) (i52 : Int) (l37 : List AV) (i53 : Int) (i54 : Int) (l38 : List AV) (l39 : List AV) (i55 : Int) (s27 : List UInt8) (s28 : List UInt8) : Option Res :=
  posN N <|
  need (decide (((l38.drop 0).take l38.length).length + [AV.int .i64 i52].length ≤ 1099511627776)) <|
  k0 l36 b11 i51 l37 i53 i54 (((l38.drop 0).take l38.length) ++ [AV.int .i64 i52]) l39 i55 s27 s28
def law18Graph_c0 : AC := .region [.op (some 170) none (.faddr (.t 7) 3), .op (some 171) none (.load (.t 170) none (.row 1)), .op (some 172) none (.mv (.t 11)), .op (some 173) none (.bslice [.t 172] 1 false), .op (some 174) none (.app 171 (.t 171) (.t 173) 1 .any false), .op (some 175) none (.faddr (.t 7) 3), .op none none (.store (.t 175) (.t 174) 1)]
def law18Graph_c1 : AC := .meet [0, 1, 5, 6, 7, 152, 153, 154] [171, 187, 1007] law18Graph_c0
theorem law18Graph_J9_eq0 (R : Nat → List AV → Option Res) (N : Nat) (K : Ex → St → Option Res) (l36 : List AV) (b11 : Bool) (i51 : Int) (i52 : Int) (l37 : List AV) (i53 : Int) (i54 : Int) (l38 : List AV) (l39 : List AV) (i55 : Int) (s27 : List UInt8) (s28 : List UInt8) :
    evC gl R N law18Graph_c0 (Kjoin [0, 1, 5, 6, 7, 152, 153, 154] [171, 187, 1007] K) ⟨[(0, .imm (AV.row 5 l36)), (1, .imm (AV.bool b11)), (5, .own 187 0 l39.length none), (6, .imm (AV.int .i64 i51)), (7, .ptr 1007 0 0), (11, .imm (AV.int .i64 i52)), (152, .imm (AV.row 1 l37)), (153, .imm (AV.int .i64 i53)), (154, .imm (AV.int .i64 i54))], [(171, .row 1 l38 false), (187, .row 4 l39 false), (1007, .box [.imm (AV.int .i64 i55), .imm (AV.str s27), .imm (AV.str s28), .own 171 0 l38.length none])]⟩ =
    (need (decide (((l38.drop 0).take l38.length).length + [AV.int .i64 i52].length ≤ 1099511627776)) <|
    (fun (l44 : List AV) (b13 : Bool) (i60 : Int) (l45 : List AV) (i61 : Int) (i62 : Int) (l46 : List AV) (l47 : List AV) (i63 : Int) (s31 : List UInt8) (s32 : List UInt8) => K .normal ⟨[(0, .imm (AV.row 5 l44)), (1, .imm (AV.bool b13)), (5, .own 187 0 l47.length none), (6, .imm (AV.int .i64 i60)), (7, .ptr 1007 0 0), (152, .imm (AV.row 1 l45)), (153, .imm (AV.int .i64 i61)), (154, .imm (AV.int .i64 i62))], [(171, .row 1 l46 false), (187, .row 4 l47 false), (1007, .box [.imm (AV.int .i64 i63), .imm (AV.str s31), .imm (AV.str s32), .own 171 0 l46.length none])]⟩) l36 b11 i51 l37 i53 i54 (((l38.drop 0).take l38.length) ++ [AV.int .i64 i52]) l39 i55 s27 s28) := by
  kernel_rfl
theorem law18Graph_J9_eq (R : Nat → List AV → Option Res) (N : Nat) (K : Ex → St → Option Res) (l36 : List AV) (b11 : Bool) (i51 : Int) (i52 : Int) (l37 : List AV) (i53 : Int) (i54 : Int) (l38 : List AV) (l39 : List AV) (i55 : Int) (s27 : List UInt8) (s28 : List UInt8) :
    runJ [0, 1, 5, 6, 7, 152, 153, 154] [171, 187, 1007] (evC gl R N law18Graph_c0) K N ⟨[(0, .imm (AV.row 5 l36)), (1, .imm (AV.bool b11)), (5, .own 187 0 l39.length none), (6, .imm (AV.int .i64 i51)), (7, .ptr 1007 0 0), (11, .imm (AV.int .i64 i52)), (152, .imm (AV.row 1 l37)), (153, .imm (AV.int .i64 i53)), (154, .imm (AV.int .i64 i54))], [(171, .row 1 l38 false), (187, .row 4 l39 false), (1007, .box [.imm (AV.int .i64 i55), .imm (AV.str s27), .imm (AV.str s28), .own 171 0 l38.length none])]⟩ =
    law18Graph_J9 R N (fun (l40 : List AV) (b12 : Bool) (i56 : Int) (l41 : List AV) (i57 : Int) (i58 : Int) (l42 : List AV) (l43 : List AV) (i59 : Int) (s29 : List UInt8) (s30 : List UInt8) => K .normal ⟨[(0, .imm (AV.row 5 l40)), (1, .imm (AV.bool b12)), (5, .own 187 0 l43.length none), (6, .imm (AV.int .i64 i56)), (7, .ptr 1007 0 0), (152, .imm (AV.row 1 l41)), (153, .imm (AV.int .i64 i57)), (154, .imm (AV.int .i64 i58))], [(171, .row 1 l42 false), (187, .row 4 l43 false), (1007, .box [.imm (AV.int .i64 i59), .imm (AV.str s29), .imm (AV.str s30), .own 171 0 l42.length none])]⟩) l36 b11 i51 i52 l37 i53 i54 l38 l39 i55 s27 s28 :=
  (runJ_eq _ _ _ _ _ _).trans (congrArg (posN N) (law18Graph_J9_eq0 R N K l36 b11 i51 i52 l37 i53 i54 l38 l39 i55 s27 s28))
def law18Graph_J10 (R : Nat → List AV → Option Res) (N : Nat) (k0 : List AV → Bool → Int → List AV → Int → Int → List AV → List AV → Int → List UInt8 → List UInt8 → Option Res) (l52 : List AV) (b15 : Bool) (i68 : Int) (l53 : List AV) (i69 : Int) (i70 : Int) (l54 : List AV) (l55 : List AV) (i71 : Int) (s35 : List UInt8) (s36 : List UInt8) : Option Res :=
  posN N <|
  k0 l52 b15 i68 l53 i69 (IntKind.i64.wrap (i70 + 1)) l54 l55 i71 s35 s36
def law18Graph_c2 : AC := .region [.op (some 176) none (.bin .add (.t 154) (.k (AV.int .i64 1))), .op (some 154) none (.mv (.t 176))]
def law18Graph_c3 : AC := .meet [0, 1, 5, 6, 7, 152, 153, 154] [171, 187, 1007] law18Graph_c2
theorem law18Graph_J10_eq0 (R : Nat → List AV → Option Res) (N : Nat) (K : Ex → St → Option Res) (l52 : List AV) (b15 : Bool) (i68 : Int) (l53 : List AV) (i69 : Int) (i70 : Int) (l54 : List AV) (l55 : List AV) (i71 : Int) (s35 : List UInt8) (s36 : List UInt8) :
    evC gl R N law18Graph_c2 (Kjoin [0, 1, 5, 6, 7, 152, 153, 154] [171, 187, 1007] K) ⟨[(0, .imm (AV.row 5 l52)), (1, .imm (AV.bool b15)), (5, .own 187 0 l55.length none), (6, .imm (AV.int .i64 i68)), (7, .ptr 1007 0 0), (152, .imm (AV.row 1 l53)), (153, .imm (AV.int .i64 i69)), (154, .imm (AV.int .i64 i70))], [(171, .row 1 l54 false), (187, .row 4 l55 false), (1007, .box [.imm (AV.int .i64 i71), .imm (AV.str s35), .imm (AV.str s36), .own 171 0 l54.length none])]⟩ =
    ((fun (l60 : List AV) (b17 : Bool) (i76 : Int) (l61 : List AV) (i77 : Int) (i78 : Int) (l62 : List AV) (l63 : List AV) (i79 : Int) (s39 : List UInt8) (s40 : List UInt8) => K .normal ⟨[(0, .imm (AV.row 5 l60)), (1, .imm (AV.bool b17)), (5, .own 187 0 l63.length none), (6, .imm (AV.int .i64 i76)), (7, .ptr 1007 0 0), (152, .imm (AV.row 1 l61)), (153, .imm (AV.int .i64 i77)), (154, .imm (AV.int .i64 i78))], [(171, .row 1 l62 false), (187, .row 4 l63 false), (1007, .box [.imm (AV.int .i64 i79), .imm (AV.str s39), .imm (AV.str s40), .own 171 0 l62.length none])]⟩) l52 b15 i68 l53 i69 (IntKind.i64.wrap (i70 + 1)) l54 l55 i71 s35 s36) := by
  kernel_rfl
theorem law18Graph_J10_eq (R : Nat → List AV → Option Res) (N : Nat) (K : Ex → St → Option Res) (l52 : List AV) (b15 : Bool) (i68 : Int) (l53 : List AV) (i69 : Int) (i70 : Int) (l54 : List AV) (l55 : List AV) (i71 : Int) (s35 : List UInt8) (s36 : List UInt8) :
    runJ [0, 1, 5, 6, 7, 152, 153, 154] [171, 187, 1007] (evC gl R N law18Graph_c2) K N ⟨[(0, .imm (AV.row 5 l52)), (1, .imm (AV.bool b15)), (5, .own 187 0 l55.length none), (6, .imm (AV.int .i64 i68)), (7, .ptr 1007 0 0), (152, .imm (AV.row 1 l53)), (153, .imm (AV.int .i64 i69)), (154, .imm (AV.int .i64 i70))], [(171, .row 1 l54 false), (187, .row 4 l55 false), (1007, .box [.imm (AV.int .i64 i71), .imm (AV.str s35), .imm (AV.str s36), .own 171 0 l54.length none])]⟩ =
    law18Graph_J10 R N (fun (l56 : List AV) (b16 : Bool) (i72 : Int) (l57 : List AV) (i73 : Int) (i74 : Int) (l58 : List AV) (l59 : List AV) (i75 : Int) (s37 : List UInt8) (s38 : List UInt8) => K .normal ⟨[(0, .imm (AV.row 5 l56)), (1, .imm (AV.bool b16)), (5, .own 187 0 l59.length none), (6, .imm (AV.int .i64 i72)), (7, .ptr 1007 0 0), (152, .imm (AV.row 1 l57)), (153, .imm (AV.int .i64 i73)), (154, .imm (AV.int .i64 i74))], [(171, .row 1 l58 false), (187, .row 4 l59 false), (1007, .box [.imm (AV.int .i64 i75), .imm (AV.str s37), .imm (AV.str s38), .own 171 0 l58.length none])]⟩) l52 b15 i68 l53 i69 i70 l54 l55 i71 s35 s36 :=
  (runJ_eq _ _ _ _ _ _).trans (congrArg (posN N) (law18Graph_J10_eq0 R N K l52 b15 i68 l53 i69 i70 l54 l55 i71 s35 s36))
def law18Graph_J8 (R : Nat → List AV → Option Res) (N : Nat) (k0 : List AV → Bool → Int → List AV → Int → Int → List AV → List AV → Int → List UInt8 → List UInt8 → Option Res) (l32 : List AV) (b10 : Bool) (i45 : Int) (l33 : List AV) (i46 : Int) (i47 : Int) (l34 : List AV) (l35 : List AV) (i48 : Int) (s25 : List UInt8) (s26 : List UInt8) : Option Res :=
  posN N <|
  need (decide (0 ≤ (i47 : Int))) <|
  (l33[Int.toNat i47]?).bind fun e12 =>
  asI .i64 e12 fun i49 =>
  bif !b10 then
    ((R id_keepWithin [AV.int .i64 i49, AV.int .i64 (if 9 < ((l32.length : Nat) : Int) then 9 else ((l32.length : Nat) : Int))]).bind fun r8 =>
    asI .i64 r8.v fun i50 =>
    law18Graph_J9 R N
      (fun l48 b14 i64 l49 i65 i66 l50 l51 i67 s33 s34 =>
    law18Graph_J10 R N
      (fun l64 b18 i80 l65 i81 i82 l66 l67 i83 s41 s42 =>
    k0 l64 b18 i80 l65 i81 i82 l66 l67 i83 s41 s42)
       l48 b14 i64 l49 i65 i66 l50 l51 i67 s33 s34)
       l32 b10 i45 i50 l33 i46 i47 l34 l35 i48 s25 s26)
  else
    need (!decide (9 = 0)) <|
    bif ((Int.tmod i49 9) : Int) != 8 then
    ((R id_keepWithin [AV.int .i64 i49, AV.int .i64 (if 9 < ((l32.length : Nat) : Int) then 9 else ((l32.length : Nat) : Int))]).bind fun r9 =>
    asI .i64 r9.v fun i84 =>
    law18Graph_J9 R N
      (fun l68 b19 i85 l69 i86 i87 l70 l71 i88 s43 s44 =>
    law18Graph_J10 R N
      (fun l72 b20 i89 l73 i90 i91 l74 l75 i92 s45 s46 =>
    k0 l72 b20 i89 l73 i90 i91 l74 l75 i92 s45 s46)
       l68 b19 i85 l69 i86 i87 l70 l71 i88 s43 s44)
       l32 b10 i45 i84 l33 i46 i47 l34 l35 i48 s25 s26)
    else
    law18Graph_J9 R N
      (fun l76 b21 i93 l77 i94 i95 l78 l79 i96 s47 s48 =>
    law18Graph_J10 R N
      (fun l80 b22 i97 l81 i98 i99 l82 l83 i100 s49 s50 =>
    k0 l80 b22 i97 l81 i98 i99 l82 l83 i100 s49 s50)
       l76 b21 i93 l77 i94 i95 l78 l79 i96 s47 s48)
       l32 b10 i45 i49 l33 i46 i47 l34 l35 i48 s25 s26
def law18Graph_c4 : AC := .seq (.join [0, 1, 5, 6, 7, 152, 153, 154] [171, 187, 1007] (.block 4 (.seq (.region [.op (some 156) none (.iaddr (.t 152) (.t 154) 1 (.int .i64)), .op (some 157) none (.load (.t 156) none (.int .i64)), .op (some 11) none (.mv (.t 157))]) (.seq (.join [0, 1, 5, 6, 7, 11, 152, 153, 154] [171, 187, 1007] (.seq (.region [.op (some 158) none (.mv (.t 1)), .op (some 159) none (.un .not (.t 158)), .op (some 160) none (.mv (.t 159)), .split 160, .op (some 161) (some (160, false)) (.mv (.t 11)), .op (some 162) (some (160, false)) (.bin .rem (.t 161) (.k (AV.int .i64 9))), .op (some 163) (some (160, false)) (.bin .neq (.t 162) (.k (AV.int .i64 8))), .op (some 164) none (.pick (.t 160) (.k (AV.bool true)) (.t 163))]) (.cond (.t 164) (.region [.op (some 165) none (.mv (.t 11)), .op (some 166) none (.mv (.t 0)), .op (some 167) none (.len (.t 166) false), .op (some 168) none (.mn [.t 167, .k (AV.int .i64 9)]), .op (some 169) none (.call id_keepWithin [.t 165, .t 168] (.int .i64)), .op (some 11) none (.mv (.t 169))]) (.skip)))) (law18Graph_c1))))) (law18Graph_c3)
def law18Graph_c5 : AC := .meet [0, 1, 5, 6, 7, 152, 153, 154] [171, 187, 1007] law18Graph_c4
theorem law18Graph_J8_eq0 (R : Nat → List AV → Option Res) (N : Nat) (K : Ex → St → Option Res) (l32 : List AV) (b10 : Bool) (i45 : Int) (l33 : List AV) (i46 : Int) (i47 : Int) (l34 : List AV) (l35 : List AV) (i48 : Int) (s25 : List UInt8) (s26 : List UInt8) :
    evC gl R N law18Graph_c4 (Kjoin [0, 1, 5, 6, 7, 152, 153, 154] [171, 187, 1007] K) ⟨[(0, .imm (AV.row 5 l32)), (1, .imm (AV.bool b10)), (5, .own 187 0 l35.length none), (6, .imm (AV.int .i64 i45)), (7, .ptr 1007 0 0), (152, .imm (AV.row 1 l33)), (153, .imm (AV.int .i64 i46)), (154, .imm (AV.int .i64 i47))], [(171, .row 1 l34 false), (187, .row 4 l35 false), (1007, .box [.imm (AV.int .i64 i48), .imm (AV.str s25), .imm (AV.str s26), .own 171 0 l34.length none])]⟩ =
    (need (decide (0 ≤ (i47 : Int))) <|
    (l33[Int.toNat i47]?).bind fun e12 =>
    asI .i64 e12 fun i49 =>
    bif !b10 then
    ((R id_keepWithin [AV.int .i64 i49, AV.int .i64 (if 9 < ((l32.length : Nat) : Int) then 9 else ((l32.length : Nat) : Int))]).bind fun r8 =>
    asI .i64 r8.v fun i50 =>
    law18Graph_J9 R N
      (fun l48 b14 i64 l49 i65 i66 l50 l51 i67 s33 s34 =>
    law18Graph_J10 R N
      (fun l64 b18 i80 l65 i81 i82 l66 l67 i83 s41 s42 =>
    (fun (l88 : List AV) (b24 : Bool) (i105 : Int) (l89 : List AV) (i106 : Int) (i107 : Int) (l90 : List AV) (l91 : List AV) (i108 : Int) (s53 : List UInt8) (s54 : List UInt8) => K .normal ⟨[(0, .imm (AV.row 5 l88)), (1, .imm (AV.bool b24)), (5, .own 187 0 l91.length none), (6, .imm (AV.int .i64 i105)), (7, .ptr 1007 0 0), (152, .imm (AV.row 1 l89)), (153, .imm (AV.int .i64 i106)), (154, .imm (AV.int .i64 i107))], [(171, .row 1 l90 false), (187, .row 4 l91 false), (1007, .box [.imm (AV.int .i64 i108), .imm (AV.str s53), .imm (AV.str s54), .own 171 0 l90.length none])]⟩) l64 b18 i80 l65 i81 i82 l66 l67 i83 s41 s42)
       l48 b14 i64 l49 i65 i66 l50 l51 i67 s33 s34)
       l32 b10 i45 i50 l33 i46 i47 l34 l35 i48 s25 s26)
    else
    need (!decide (9 = 0)) <|
    bif ((Int.tmod i49 9) : Int) != 8 then
    ((R id_keepWithin [AV.int .i64 i49, AV.int .i64 (if 9 < ((l32.length : Nat) : Int) then 9 else ((l32.length : Nat) : Int))]).bind fun r9 =>
    asI .i64 r9.v fun i84 =>
    law18Graph_J9 R N
      (fun l68 b19 i85 l69 i86 i87 l70 l71 i88 s43 s44 =>
    law18Graph_J10 R N
      (fun l72 b20 i89 l73 i90 i91 l74 l75 i92 s45 s46 =>
    (fun (l88 : List AV) (b24 : Bool) (i105 : Int) (l89 : List AV) (i106 : Int) (i107 : Int) (l90 : List AV) (l91 : List AV) (i108 : Int) (s53 : List UInt8) (s54 : List UInt8) => K .normal ⟨[(0, .imm (AV.row 5 l88)), (1, .imm (AV.bool b24)), (5, .own 187 0 l91.length none), (6, .imm (AV.int .i64 i105)), (7, .ptr 1007 0 0), (152, .imm (AV.row 1 l89)), (153, .imm (AV.int .i64 i106)), (154, .imm (AV.int .i64 i107))], [(171, .row 1 l90 false), (187, .row 4 l91 false), (1007, .box [.imm (AV.int .i64 i108), .imm (AV.str s53), .imm (AV.str s54), .own 171 0 l90.length none])]⟩) l72 b20 i89 l73 i90 i91 l74 l75 i92 s45 s46)
       l68 b19 i85 l69 i86 i87 l70 l71 i88 s43 s44)
       l32 b10 i45 i84 l33 i46 i47 l34 l35 i48 s25 s26)
    else
    law18Graph_J9 R N
      (fun l76 b21 i93 l77 i94 i95 l78 l79 i96 s47 s48 =>
    law18Graph_J10 R N
      (fun l80 b22 i97 l81 i98 i99 l82 l83 i100 s49 s50 =>
    (fun (l88 : List AV) (b24 : Bool) (i105 : Int) (l89 : List AV) (i106 : Int) (i107 : Int) (l90 : List AV) (l91 : List AV) (i108 : Int) (s53 : List UInt8) (s54 : List UInt8) => K .normal ⟨[(0, .imm (AV.row 5 l88)), (1, .imm (AV.bool b24)), (5, .own 187 0 l91.length none), (6, .imm (AV.int .i64 i105)), (7, .ptr 1007 0 0), (152, .imm (AV.row 1 l89)), (153, .imm (AV.int .i64 i106)), (154, .imm (AV.int .i64 i107))], [(171, .row 1 l90 false), (187, .row 4 l91 false), (1007, .box [.imm (AV.int .i64 i108), .imm (AV.str s53), .imm (AV.str s54), .own 171 0 l90.length none])]⟩) l80 b22 i97 l81 i98 i99 l82 l83 i100 s49 s50)
       l76 b21 i93 l77 i94 i95 l78 l79 i96 s47 s48)
       l32 b10 i45 i49 l33 i46 i47 l34 l35 i48 s25 s26) := by
  refine Eq.trans (b :=
    need (decide (0 ≤ (i47 : Int))) <|
    (l33[Int.toNat i47]?).bind fun e12 =>
    asI .i64 e12 fun i49 =>
    bif !b10 then
    ((R id_keepWithin [AV.int .i64 i49, AV.int .i64 (if 9 < ((l32.length : Nat) : Int) then 9 else ((l32.length : Nat) : Int))]).bind fun r8 =>
    asI .i64 r8.v fun i50 =>
    runJ [0, 1, 5, 6, 7, 152, 153, 154] [171, 187, 1007] (evC gl R N law18Graph_c0) (Kblock 4 (Kjoin [0, 1, 5, 6, 7, 152, 153, 154] [171, 187, 1007] (Kthen gl R N law18Graph_c3 (Kjoin [0, 1, 5, 6, 7, 152, 153, 154] [171, 187, 1007] K)))) N ⟨[(0, .imm (AV.row 5 l32)), (1, .imm (AV.bool b10)), (5, .own 187 0 l35.length none), (6, .imm (AV.int .i64 i45)), (7, .ptr 1007 0 0), (11, .imm (AV.int .i64 i50)), (152, .imm (AV.row 1 l33)), (153, .imm (AV.int .i64 i46)), (154, .imm (AV.int .i64 i47))], [(171, .row 1 l34 false), (187, .row 4 l35 false), (1007, .box [.imm (AV.int .i64 i48), .imm (AV.str s25), .imm (AV.str s26), .own 171 0 l34.length none])]⟩)
    else
    need (!decide (9 = 0)) <|
    bif ((Int.tmod i49 9) : Int) != 8 then
    ((R id_keepWithin [AV.int .i64 i49, AV.int .i64 (if 9 < ((l32.length : Nat) : Int) then 9 else ((l32.length : Nat) : Int))]).bind fun r9 =>
    asI .i64 r9.v fun i84 =>
    runJ [0, 1, 5, 6, 7, 152, 153, 154] [171, 187, 1007] (evC gl R N law18Graph_c0) (Kblock 4 (Kjoin [0, 1, 5, 6, 7, 152, 153, 154] [171, 187, 1007] (Kthen gl R N law18Graph_c3 (Kjoin [0, 1, 5, 6, 7, 152, 153, 154] [171, 187, 1007] K)))) N ⟨[(0, .imm (AV.row 5 l32)), (1, .imm (AV.bool b10)), (5, .own 187 0 l35.length none), (6, .imm (AV.int .i64 i45)), (7, .ptr 1007 0 0), (11, .imm (AV.int .i64 i84)), (152, .imm (AV.row 1 l33)), (153, .imm (AV.int .i64 i46)), (154, .imm (AV.int .i64 i47))], [(171, .row 1 l34 false), (187, .row 4 l35 false), (1007, .box [.imm (AV.int .i64 i48), .imm (AV.str s25), .imm (AV.str s26), .own 171 0 l34.length none])]⟩)
    else
    runJ [0, 1, 5, 6, 7, 152, 153, 154] [171, 187, 1007] (evC gl R N law18Graph_c0) (Kblock 4 (Kjoin [0, 1, 5, 6, 7, 152, 153, 154] [171, 187, 1007] (Kthen gl R N law18Graph_c3 (Kjoin [0, 1, 5, 6, 7, 152, 153, 154] [171, 187, 1007] K)))) N ⟨[(0, .imm (AV.row 5 l32)), (1, .imm (AV.bool b10)), (5, .own 187 0 l35.length none), (6, .imm (AV.int .i64 i45)), (7, .ptr 1007 0 0), (11, .imm (AV.int .i64 i49)), (152, .imm (AV.row 1 l33)), (153, .imm (AV.int .i64 i46)), (154, .imm (AV.int .i64 i47))], [(171, .row 1 l34 false), (187, .row 4 l35 false), (1007, .box [.imm (AV.int .i64 i48), .imm (AV.str s25), .imm (AV.str s26), .own 171 0 l34.length none])]⟩) (by kernel_rfl) ?_
  simp (config := { maxSteps := 100000000 }) only [law18Graph_J10_eq, law18Graph_J9_eq]
  refine Eq.trans (b :=
    need (decide (0 ≤ (i47 : Int))) <|
    (l33[Int.toNat i47]?).bind fun e12 =>
    asI .i64 e12 fun i49 =>
    bif !b10 then
    ((R id_keepWithin [AV.int .i64 i49, AV.int .i64 (if 9 < ((l32.length : Nat) : Int) then 9 else ((l32.length : Nat) : Int))]).bind fun r8 =>
    asI .i64 r8.v fun i50 =>
    law18Graph_J9 R N
      (fun l48 b14 i64 l49 i65 i66 l50 l51 i67 s33 s34 =>
    runJ [0, 1, 5, 6, 7, 152, 153, 154] [171, 187, 1007] (evC gl R N law18Graph_c2) (Kjoin [0, 1, 5, 6, 7, 152, 153, 154] [171, 187, 1007] K) N ⟨[(0, .imm (AV.row 5 l48)), (1, .imm (AV.bool b14)), (5, .own 187 0 l51.length none), (6, .imm (AV.int .i64 i64)), (7, .ptr 1007 0 0), (152, .imm (AV.row 1 l49)), (153, .imm (AV.int .i64 i65)), (154, .imm (AV.int .i64 i66))], [(171, .row 1 l50 false), (187, .row 4 l51 false), (1007, .box [.imm (AV.int .i64 i67), .imm (AV.str s33), .imm (AV.str s34), .own 171 0 l50.length none])]⟩)
       l32 b10 i45 i50 l33 i46 i47 l34 l35 i48 s25 s26)
    else
    need (!decide (9 = 0)) <|
    bif ((Int.tmod i49 9) : Int) != 8 then
    ((R id_keepWithin [AV.int .i64 i49, AV.int .i64 (if 9 < ((l32.length : Nat) : Int) then 9 else ((l32.length : Nat) : Int))]).bind fun r9 =>
    asI .i64 r9.v fun i84 =>
    law18Graph_J9 R N
      (fun l68 b19 i85 l69 i86 i87 l70 l71 i88 s43 s44 =>
    runJ [0, 1, 5, 6, 7, 152, 153, 154] [171, 187, 1007] (evC gl R N law18Graph_c2) (Kjoin [0, 1, 5, 6, 7, 152, 153, 154] [171, 187, 1007] K) N ⟨[(0, .imm (AV.row 5 l68)), (1, .imm (AV.bool b19)), (5, .own 187 0 l71.length none), (6, .imm (AV.int .i64 i85)), (7, .ptr 1007 0 0), (152, .imm (AV.row 1 l69)), (153, .imm (AV.int .i64 i86)), (154, .imm (AV.int .i64 i87))], [(171, .row 1 l70 false), (187, .row 4 l71 false), (1007, .box [.imm (AV.int .i64 i88), .imm (AV.str s43), .imm (AV.str s44), .own 171 0 l70.length none])]⟩)
       l32 b10 i45 i84 l33 i46 i47 l34 l35 i48 s25 s26)
    else
    law18Graph_J9 R N
      (fun l76 b21 i93 l77 i94 i95 l78 l79 i96 s47 s48 =>
    runJ [0, 1, 5, 6, 7, 152, 153, 154] [171, 187, 1007] (evC gl R N law18Graph_c2) (Kjoin [0, 1, 5, 6, 7, 152, 153, 154] [171, 187, 1007] K) N ⟨[(0, .imm (AV.row 5 l76)), (1, .imm (AV.bool b21)), (5, .own 187 0 l79.length none), (6, .imm (AV.int .i64 i93)), (7, .ptr 1007 0 0), (152, .imm (AV.row 1 l77)), (153, .imm (AV.int .i64 i94)), (154, .imm (AV.int .i64 i95))], [(171, .row 1 l78 false), (187, .row 4 l79 false), (1007, .box [.imm (AV.int .i64 i96), .imm (AV.str s47), .imm (AV.str s48), .own 171 0 l78.length none])]⟩)
       l32 b10 i45 i49 l33 i46 i47 l34 l35 i48 s25 s26) (by kernel_rfl) ?_
  simp (config := { maxSteps := 100000000 }) only [law18Graph_J10_eq, law18Graph_J9_eq]
  kernel_rfl
theorem law18Graph_J8_eq (R : Nat → List AV → Option Res) (N : Nat) (K : Ex → St → Option Res) (l32 : List AV) (b10 : Bool) (i45 : Int) (l33 : List AV) (i46 : Int) (i47 : Int) (l34 : List AV) (l35 : List AV) (i48 : Int) (s25 : List UInt8) (s26 : List UInt8) :
    runJ [0, 1, 5, 6, 7, 152, 153, 154] [171, 187, 1007] (evC gl R N law18Graph_c4) K N ⟨[(0, .imm (AV.row 5 l32)), (1, .imm (AV.bool b10)), (5, .own 187 0 l35.length none), (6, .imm (AV.int .i64 i45)), (7, .ptr 1007 0 0), (152, .imm (AV.row 1 l33)), (153, .imm (AV.int .i64 i46)), (154, .imm (AV.int .i64 i47))], [(171, .row 1 l34 false), (187, .row 4 l35 false), (1007, .box [.imm (AV.int .i64 i48), .imm (AV.str s25), .imm (AV.str s26), .own 171 0 l34.length none])]⟩ =
    law18Graph_J8 R N (fun (l84 : List AV) (b23 : Bool) (i101 : Int) (l85 : List AV) (i102 : Int) (i103 : Int) (l86 : List AV) (l87 : List AV) (i104 : Int) (s51 : List UInt8) (s52 : List UInt8) => K .normal ⟨[(0, .imm (AV.row 5 l84)), (1, .imm (AV.bool b23)), (5, .own 187 0 l87.length none), (6, .imm (AV.int .i64 i101)), (7, .ptr 1007 0 0), (152, .imm (AV.row 1 l85)), (153, .imm (AV.int .i64 i102)), (154, .imm (AV.int .i64 i103))], [(171, .row 1 l86 false), (187, .row 4 l87 false), (1007, .box [.imm (AV.int .i64 i104), .imm (AV.str s51), .imm (AV.str s52), .own 171 0 l86.length none])]⟩) l32 b10 i45 l33 i46 i47 l34 l35 i48 s25 s26 :=
  (runJ_eq _ _ _ _ _ _).trans (congrArg (posN N) (law18Graph_J8_eq0 R N K l32 b10 i45 l33 i46 i47 l34 l35 i48 s25 s26))
def law18Graph_L7s (R : Nat → List AV → Option Res) (N : Nat) (go : List AV → Bool → Int → List AV → Int → Int → List AV → List AV → Int → List UInt8 → List UInt8 → Option Res) (k0 : List AV → Bool → Int → List AV → List AV → Int → List UInt8 → List UInt8 → Option Res) (l28 : List AV) (b9 : Bool) (i41 : Int) (l29 : List AV) (i42 : Int) (i43 : Int) (l30 : List AV) (l31 : List AV) (i44 : Int) (s23 : List UInt8) (s24 : List UInt8) : Option Res :=
  bif decide ((i43 : Int) < i42) then
    (law18Graph_J8 R N
      (fun l92 b25 i109 l93 i110 i111 l94 l95 i112 s55 s56 =>
    go l92 b25 i109 l93 i110 i111 l94 l95 i112 s55 s56)
       l28 b9 i41 l29 i42 i43 l30 l31 i44 s23 s24)
  else
    k0 l28 b9 i41 l30 l31 i44 s23 s24
def law18Graph_L7 (R : Nat → List AV → Option Res) (N : Nat) (k0 : List AV → Bool → Int → List AV → List AV → Int → List UInt8 → List UInt8 → Option Res) : Nat → List AV → Bool → Int → List AV → Int → Int → List AV → List AV → Int → List UInt8 → List UInt8 → Option Res
  | 0, _, _, _, _, _, _, _, _, _, _, _ => none
  | n + 1, l28, b9, i41, l29, i42, i43, l30, l31, i44, s23, s24 => law18Graph_L7s R N (law18Graph_L7 R N k0 n) k0 l28 b9 i41 l29 i42 i43 l30 l31 i44 s23 s24
def law18Graph_c6 : AC := .seq (.region [.op (some 155) none (.bin .lss (.t 154) (.t 153))]) (.seq (.join [0, 1, 5, 6, 7, 152, 153, 154] [171, 187, 1007] (.cond (.t 155) (.skip) (.exit 3 [0, 1, 5, 6, 7] [171, 187, 1007]))) (law18Graph_c5))
theorem law18Graph_L7s_eq (R : Nat → List AV → Option Res) (N : Nat) (K : Ex → St → Option Res) (W : St → Option Res) (l28 : List AV) (b9 : Bool) (i41 : Int) (l29 : List AV) (i42 : Int) (i43 : Int) (l30 : List AV) (l31 : List AV) (i44 : Int) (s23 : List UInt8) (s24 : List UInt8) :
    evC gl R N law18Graph_c6 (Kseq (fun st' => W (prune [0, 1, 5, 6, 7, 152, 153, 154] [171, 187, 1007] st')) K) ⟨[(0, .imm (AV.row 5 l28)), (1, .imm (AV.bool b9)), (5, .own 187 0 l31.length none), (6, .imm (AV.int .i64 i41)), (7, .ptr 1007 0 0), (152, .imm (AV.row 1 l29)), (153, .imm (AV.int .i64 i42)), (154, .imm (AV.int .i64 i43))], [(171, .row 1 l30 false), (187, .row 4 l31 false), (1007, .box [.imm (AV.int .i64 i44), .imm (AV.str s23), .imm (AV.str s24), .own 171 0 l30.length none])]⟩ =
    law18Graph_L7s R N (fun (l28 : List AV) (b9 : Bool) (i41 : Int) (l29 : List AV) (i42 : Int) (i43 : Int) (l30 : List AV) (l31 : List AV) (i44 : Int) (s23 : List UInt8) (s24 : List UInt8) => W ⟨[(0, .imm (AV.row 5 l28)), (1, .imm (AV.bool b9)), (5, .own 187 0 l31.length none), (6, .imm (AV.int .i64 i41)), (7, .ptr 1007 0 0), (152, .imm (AV.row 1 l29)), (153, .imm (AV.int .i64 i42)), (154, .imm (AV.int .i64 i43))], [(171, .row 1 l30 false), (187, .row 4 l31 false), (1007, .box [.imm (AV.int .i64 i44), .imm (AV.str s23), .imm (AV.str s24), .own 171 0 l30.length none])]⟩) (fun (l96 : List AV) (b26 : Bool) (i113 : Int) (l97 : List AV) (l98 : List AV) (i114 : Int) (s57 : List UInt8) (s58 : List UInt8) => K (.exit 3) ⟨[(0, .imm (AV.row 5 l96)), (1, .imm (AV.bool b26)), (5, .own 187 0 l98.length none), (6, .imm (AV.int .i64 i113)), (7, .ptr 1007 0 0)], [(171, .row 1 l97 false), (187, .row 4 l98 false), (1007, .box [.imm (AV.int .i64 i114), .imm (AV.str s57), .imm (AV.str s58), .own 171 0 l97.length none])]⟩) l28 b9 i41 l29 i42 i43 l30 l31 i44 s23 s24 := by
  refine Eq.trans (b :=
    bif decide ((i43 : Int) < i42) then
    (runJ [0, 1, 5, 6, 7, 152, 153, 154] [171, 187, 1007] (evC gl R N law18Graph_c4) (Kseq (fun st' => W (prune [0, 1, 5, 6, 7, 152, 153, 154] [171, 187, 1007] st')) K) N ⟨[(0, .imm (AV.row 5 l28)), (1, .imm (AV.bool b9)), (5, .own 187 0 l31.length none), (6, .imm (AV.int .i64 i41)), (7, .ptr 1007 0 0), (152, .imm (AV.row 1 l29)), (153, .imm (AV.int .i64 i42)), (154, .imm (AV.int .i64 i43))], [(171, .row 1 l30 false), (187, .row 4 l31 false), (1007, .box [.imm (AV.int .i64 i44), .imm (AV.str s23), .imm (AV.str s24), .own 171 0 l30.length none])]⟩)
    else
    (fun (l99 : List AV) (b27 : Bool) (i115 : Int) (l100 : List AV) (l101 : List AV) (i116 : Int) (s59 : List UInt8) (s60 : List UInt8) => K (.exit 3) ⟨[(0, .imm (AV.row 5 l99)), (1, .imm (AV.bool b27)), (5, .own 187 0 l101.length none), (6, .imm (AV.int .i64 i115)), (7, .ptr 1007 0 0)], [(171, .row 1 l100 false), (187, .row 4 l101 false), (1007, .box [.imm (AV.int .i64 i116), .imm (AV.str s59), .imm (AV.str s60), .own 171 0 l100.length none])]⟩) l28 b9 i41 l30 l31 i44 s23 s24) (by kernel_rfl) ?_
  simp (config := { maxSteps := 100000000 }) only [law18Graph_J8_eq]
  kernel_rfl
theorem law18Graph_L7_eq (R : Nat → List AV → Option Res) (N : Nat) (K : Ex → St → Option Res) : ∀ (n : Nat) (l28 : List AV) (b9 : Bool) (i41 : Int) (l29 : List AV) (i42 : Int) (i43 : Int) (l30 : List AV) (l31 : List AV) (i44 : Int) (s23 : List UInt8) (s24 : List UInt8),
    rounds [0, 1, 5, 6, 7, 152, 153, 154] [171, 187, 1007] (evC gl R N law18Graph_c6) K n ⟨[(0, .imm (AV.row 5 l28)), (1, .imm (AV.bool b9)), (5, .own 187 0 l31.length none), (6, .imm (AV.int .i64 i41)), (7, .ptr 1007 0 0), (152, .imm (AV.row 1 l29)), (153, .imm (AV.int .i64 i42)), (154, .imm (AV.int .i64 i43))], [(171, .row 1 l30 false), (187, .row 4 l31 false), (1007, .box [.imm (AV.int .i64 i44), .imm (AV.str s23), .imm (AV.str s24), .own 171 0 l30.length none])]⟩ = law18Graph_L7 R N (fun (l96 : List AV) (b26 : Bool) (i113 : Int) (l97 : List AV) (l98 : List AV) (i114 : Int) (s57 : List UInt8) (s58 : List UInt8) => K (.exit 3) ⟨[(0, .imm (AV.row 5 l96)), (1, .imm (AV.bool b26)), (5, .own 187 0 l98.length none), (6, .imm (AV.int .i64 i113)), (7, .ptr 1007 0 0)], [(171, .row 1 l97 false), (187, .row 4 l98 false), (1007, .box [.imm (AV.int .i64 i114), .imm (AV.str s57), .imm (AV.str s58), .own 171 0 l97.length none])]⟩) n l28 b9 i41 l29 i42 i43 l30 l31 i44 s23 s24
  | 0, _, _, _, _, _, _, _, _, _, _, _ => rfl
  | n + 1, l28, b9, i41, l29, i42, i43, l30, l31, i44, s23, s24 => (law18Graph_L7s_eq R N K (rounds [0, 1, 5, 6, 7, 152, 153, 154] [171, 187, 1007] (evC gl R N law18Graph_c6) K n) l28 b9 i41 l29 i42 i43 l30 l31 i44 s23 s24).trans
      (congrArg (fun go => law18Graph_L7s R N go (fun (l96 : List AV) (b26 : Bool) (i113 : Int) (l97 : List AV) (l98 : List AV) (i114 : Int) (s57 : List UInt8) (s58 : List UInt8) => K (.exit 3) ⟨[(0, .imm (AV.row 5 l96)), (1, .imm (AV.bool b26)), (5, .own 187 0 l98.length none), (6, .imm (AV.int .i64 i113)), (7, .ptr 1007 0 0)], [(171, .row 1 l97 false), (187, .row 4 l98 false), (1007, .box [.imm (AV.int .i64 i114), .imm (AV.str s57), .imm (AV.str s58), .own 171 0 l97.length none])]⟩) l28 b9 i41 l29 i42 i43 l30 l31 i44 s23 s24) (funext fun l28 => funext fun b9 => funext fun i41 => funext fun l29 => funext fun i42 => funext fun i43 => funext fun l30 => funext fun l31 => funext fun i44 => funext fun s23 => funext fun s24 => law18Graph_L7_eq R N K n l28 b9 i41 l29 i42 i43 l30 l31 i44 s23 s24))
def law18Graph_J11 (R : Nat → List AV → Option Res) (N : Nat) (k0 : List AV → Bool → Int → List AV → Option Res) (l105 : List AV) (b29 : Bool) (i119 : Int) (l106 : List AV) (l107 : List AV) (i120 : Int) (s63 : List UInt8) (s64 : List UInt8) : Option Res :=
  posN N <|
  need (decide (((l107.drop 0).take l107.length).length + [AV.agg [AV.int .i64 i120, AV.str s63, AV.str s64, AV.row 1 ((l106.drop 0).take l106.length)]].length ≤ 1099511627776)) <|
  k0 l105 b29 i119 (((l107.drop 0).take l107.length) ++ [AV.agg [AV.int .i64 i120, AV.str s63, AV.str s64, AV.row 1 ((l106.drop 0).take l106.length)]])
def law18Graph_c7 : AC := .region [.op (some 177) none (.mv (.t 5)), .op (some 178) none (.loadG (.t 7) 4 (.agg [.int .i64, .str, .str, .row 1])), .op (some 179) none (.bslice [.t 178] 4 false), .op (some 180) none (.app 187 (.t 177) (.t 179) 4 .any false), .op (some 5) none (.mv (.t 180))]
def law18Graph_c8 : AC := .meet [0, 1, 5, 6] [187] law18Graph_c7
theorem law18Graph_J11_eq0 (R : Nat → List AV → Option Res) (N : Nat) (K : Ex → St → Option Res) (l105 : List AV) (b29 : Bool) (i119 : Int) (l106 : List AV) (l107 : List AV) (i120 : Int) (s63 : List UInt8) (s64 : List UInt8) :
    evC gl R N law18Graph_c7 (Kjoin [0, 1, 5, 6] [187] K) ⟨[(0, .imm (AV.row 5 l105)), (1, .imm (AV.bool b29)), (5, .own 187 0 l107.length none), (6, .imm (AV.int .i64 i119)), (7, .ptr 1007 0 0)], [(171, .row 1 l106 false), (187, .row 4 l107 false), (1007, .box [.imm (AV.int .i64 i120), .imm (AV.str s63), .imm (AV.str s64), .own 171 0 l106.length none])]⟩ =
    (need (decide (((l107.drop 0).take l107.length).length + [AV.agg [AV.int .i64 i120, AV.str s63, AV.str s64, AV.row 1 ((l106.drop 0).take l106.length)]].length ≤ 1099511627776)) <|
    (fun (l110 : List AV) (b31 : Bool) (i122 : Int) (l111 : List AV) => K .normal ⟨[(0, .imm (AV.row 5 l110)), (1, .imm (AV.bool b31)), (5, .own 187 0 l111.length none), (6, .imm (AV.int .i64 i122))], [(187, .row 4 l111 false)]⟩) l105 b29 i119 (((l107.drop 0).take l107.length) ++ [AV.agg [AV.int .i64 i120, AV.str s63, AV.str s64, AV.row 1 ((l106.drop 0).take l106.length)]])) := by
  kernel_rfl
theorem law18Graph_J11_eq (R : Nat → List AV → Option Res) (N : Nat) (K : Ex → St → Option Res) (l105 : List AV) (b29 : Bool) (i119 : Int) (l106 : List AV) (l107 : List AV) (i120 : Int) (s63 : List UInt8) (s64 : List UInt8) :
    runJ [0, 1, 5, 6] [187] (evC gl R N law18Graph_c7) K N ⟨[(0, .imm (AV.row 5 l105)), (1, .imm (AV.bool b29)), (5, .own 187 0 l107.length none), (6, .imm (AV.int .i64 i119)), (7, .ptr 1007 0 0)], [(171, .row 1 l106 false), (187, .row 4 l107 false), (1007, .box [.imm (AV.int .i64 i120), .imm (AV.str s63), .imm (AV.str s64), .own 171 0 l106.length none])]⟩ =
    law18Graph_J11 R N (fun (l108 : List AV) (b30 : Bool) (i121 : Int) (l109 : List AV) => K .normal ⟨[(0, .imm (AV.row 5 l108)), (1, .imm (AV.bool b30)), (5, .own 187 0 l109.length none), (6, .imm (AV.int .i64 i121))], [(187, .row 4 l109 false)]⟩) l105 b29 i119 l106 l107 i120 s63 s64 :=
  (runJ_eq _ _ _ _ _ _).trans (congrArg (posN N) (law18Graph_J11_eq0 R N K l105 b29 i119 l106 l107 i120 s63 s64))
def law18Graph_J6 (R : Nat → List AV → Option Res) (N : Nat) (k0 : List AV → Bool → Int → List AV → Option Res) (l23 : List AV) (b8 : Bool) (i36 : Int) (l24 : List AV) (l25 : List AV) (i37 : Int) (s20 : List UInt8) (s21 : List UInt8) : Option Res :=
  posN N <|
  bif (i37 : Int) != 1 then
    (need (decide (0 ≤ (i36 : Int))) <|
    (l23[Int.toNat i36]?).bind fun e11 =>
    asIIISRA e11 fun i38 i39 i40 s22 l26 =>
    (R id_keepCutInt [AV.row 1 l26, AV.int .i64 5]).bind fun r7 =>
    asR 1 r7.v fun l27 =>
    law18Graph_L7 R N
      (fun l102 b28 i117 l103 l104 i118 s61 s62 =>
    law18Graph_J11 R N
      (fun l112 b32 i123 l113 =>
    k0 l112 b32 i123 l113)
       l102 b28 i117 l103 l104 i118 s61 s62)
      N l23 b8 i36 l27 ((l27.length : Nat) : Int) 0 l24 l25 i37 s20 s21)
  else
    bif b8 then
    (need (decide (0 ≤ (i36 : Int))) <|
    (l23[Int.toNat i36]?).bind fun e13 =>
    asIIISRA e13 fun i124 i125 i126 s65 l114 =>
    need (!decide (7 = 0)) <|
    bif ((Int.tmod i126 7) : Int) == 6 then
    (need (decide (0 ≤ (i36 : Int))) <|
    (l23[Int.toNat i36]?).bind fun e14 =>
    asIIISRA e14 fun i127 i128 i129 s66 l115 =>
    (R id_keepCutInt [AV.row 1 l115, AV.int .i64 5]).bind fun r10 =>
    asR 1 r10.v fun l116 =>
    law18Graph_L7 R N
      (fun l117 b33 i130 l118 l119 i131 s67 s68 =>
    law18Graph_J11 R N
      (fun l120 b34 i132 l121 =>
    k0 l120 b34 i132 l121)
       l117 b33 i130 l118 l119 i131 s67 s68)
      N l23 b8 i36 l116 ((l116.length : Nat) : Int) 0 l24 l25 i37 s20 s21)
    else
    law18Graph_J11 R N
      (fun l122 b35 i133 l123 =>
    k0 l122 b35 i133 l123)
       l23 b8 i36 l24 l25 i37 s20 s21)
    else
    law18Graph_J11 R N
      (fun l124 b36 i134 l125 =>
    k0 l124 b36 i134 l125)
       l23 b8 i36 l24 l25 i37 s20 s21
def law18Graph_c9 : AC := .seq (.join [0, 1, 5, 6, 7] [171, 187, 1007] (.seq (.region [.op (some 132) none (.faddr (.t 7) 0), .op (some 133) none (.load (.t 132) none (.int .i64)), .op (some 134) none (.bin .neq (.t 133) (.k (AV.int .i64 1))), .op (some 135) none (.mv (.t 134)), .split 135, .op (some 136) (some (135, false)) (.mv (.t 1)), .op (some 137) (some (135, false)) (.mv (.t 136)), .split 137, .op (some 138) (some (137, true)) (.mv (.t 0)), .op (some 139) (some (137, true)) (.mv (.t 6)), .op (some 140) (some (137, true)) (.iaddr (.t 138) (.t 139) 5 (.agg [.int .i64, .int .i64, .int .i64, .str, .row 1])), .op (some 141) (some (137, true)) (.faddr (.t 140) 2), .op (some 142) (some (137, true)) (.load (.t 141) none (.int .i64)), .op (some 143) (some (137, true)) (.bin .rem (.t 142) (.k (AV.int .i64 7))), .op (some 144) (some (137, true)) (.bin .eql (.t 143) (.k (AV.int .i64 6))), .op (some 145) (some (135, false)) (.pick (.t 137) (.t 144) (.k (AV.bool false))), .op (some 146) none (.pick (.t 135) (.k (AV.bool true)) (.t 145))]) (.cond (.t 146) (.seq (.region [.op (some 147) none (.mv (.t 0)), .op (some 148) none (.mv (.t 6)), .op (some 149) none (.iaddr (.t 147) (.t 148) 5 (.agg [.int .i64, .int .i64, .int .i64, .str, .row 1])), .op (some 150) none (.faddr (.t 149) 4), .op (some 151) none (.load (.t 150) none (.row 1)), .op (some 152) none (.call id_keepCutInt [.t 151, .k (AV.int .i64 5)] (.row 1)), .op (some 153) none (.len (.t 152) false), .op (some 154) none (.mv (.k (AV.int .i64 0)))]) (.block 3 (.loop [0, 1, 5, 6, 7, 152, 153, 154] [171, 187, 1007] (law18Graph_c6)))) (.skip)))) (law18Graph_c8)
def law18Graph_c10 : AC := .meet [0, 1, 5, 6] [187] law18Graph_c9
theorem law18Graph_J6_eq0 (R : Nat → List AV → Option Res) (N : Nat) (K : Ex → St → Option Res) (l23 : List AV) (b8 : Bool) (i36 : Int) (l24 : List AV) (l25 : List AV) (i37 : Int) (s20 : List UInt8) (s21 : List UInt8) :
    evC gl R N law18Graph_c9 (Kjoin [0, 1, 5, 6] [187] K) ⟨[(0, .imm (AV.row 5 l23)), (1, .imm (AV.bool b8)), (5, .own 187 0 l25.length none), (6, .imm (AV.int .i64 i36)), (7, .ptr 1007 0 0)], [(171, .row 1 l24 false), (187, .row 4 l25 false), (1007, .box [.imm (AV.int .i64 i37), .imm (AV.str s20), .imm (AV.str s21), .own 171 0 l24.length none])]⟩ =
    (bif (i37 : Int) != 1 then
    (need (decide (0 ≤ (i36 : Int))) <|
    (l23[Int.toNat i36]?).bind fun e11 =>
    asIIISRA e11 fun i38 i39 i40 s22 l26 =>
    (R id_keepCutInt [AV.row 1 l26, AV.int .i64 5]).bind fun r7 =>
    asR 1 r7.v fun l27 =>
    law18Graph_L7 R N
      (fun l102 b28 i117 l103 l104 i118 s61 s62 =>
    law18Graph_J11 R N
      (fun l112 b32 i123 l113 =>
    (fun (l128 : List AV) (b38 : Bool) (i136 : Int) (l129 : List AV) => K .normal ⟨[(0, .imm (AV.row 5 l128)), (1, .imm (AV.bool b38)), (5, .own 187 0 l129.length none), (6, .imm (AV.int .i64 i136))], [(187, .row 4 l129 false)]⟩) l112 b32 i123 l113)
       l102 b28 i117 l103 l104 i118 s61 s62)
      N l23 b8 i36 l27 ((l27.length : Nat) : Int) 0 l24 l25 i37 s20 s21)
    else
    bif b8 then
    (need (decide (0 ≤ (i36 : Int))) <|
    (l23[Int.toNat i36]?).bind fun e13 =>
    asIIISRA e13 fun i124 i125 i126 s65 l114 =>
    need (!decide (7 = 0)) <|
    bif ((Int.tmod i126 7) : Int) == 6 then
    (need (decide (0 ≤ (i36 : Int))) <|
    (l23[Int.toNat i36]?).bind fun e14 =>
    asIIISRA e14 fun i127 i128 i129 s66 l115 =>
    (R id_keepCutInt [AV.row 1 l115, AV.int .i64 5]).bind fun r10 =>
    asR 1 r10.v fun l116 =>
    law18Graph_L7 R N
      (fun l117 b33 i130 l118 l119 i131 s67 s68 =>
    law18Graph_J11 R N
      (fun l120 b34 i132 l121 =>
    (fun (l128 : List AV) (b38 : Bool) (i136 : Int) (l129 : List AV) => K .normal ⟨[(0, .imm (AV.row 5 l128)), (1, .imm (AV.bool b38)), (5, .own 187 0 l129.length none), (6, .imm (AV.int .i64 i136))], [(187, .row 4 l129 false)]⟩) l120 b34 i132 l121)
       l117 b33 i130 l118 l119 i131 s67 s68)
      N l23 b8 i36 l116 ((l116.length : Nat) : Int) 0 l24 l25 i37 s20 s21)
    else
    law18Graph_J11 R N
      (fun l122 b35 i133 l123 =>
    (fun (l128 : List AV) (b38 : Bool) (i136 : Int) (l129 : List AV) => K .normal ⟨[(0, .imm (AV.row 5 l128)), (1, .imm (AV.bool b38)), (5, .own 187 0 l129.length none), (6, .imm (AV.int .i64 i136))], [(187, .row 4 l129 false)]⟩) l122 b35 i133 l123)
       l23 b8 i36 l24 l25 i37 s20 s21)
    else
    law18Graph_J11 R N
      (fun l124 b36 i134 l125 =>
    (fun (l128 : List AV) (b38 : Bool) (i136 : Int) (l129 : List AV) => K .normal ⟨[(0, .imm (AV.row 5 l128)), (1, .imm (AV.bool b38)), (5, .own 187 0 l129.length none), (6, .imm (AV.int .i64 i136))], [(187, .row 4 l129 false)]⟩) l124 b36 i134 l125)
       l23 b8 i36 l24 l25 i37 s20 s21) := by
  refine Eq.trans (b :=
    bif (i37 : Int) != 1 then
    (need (decide (0 ≤ (i36 : Int))) <|
    (l23[Int.toNat i36]?).bind fun e11 =>
    asIIISRA e11 fun i38 i39 i40 s22 l26 =>
    (R id_keepCutInt [AV.row 1 l26, AV.int .i64 5]).bind fun r7 =>
    asR 1 r7.v fun l27 =>
    rounds [0, 1, 5, 6, 7, 152, 153, 154] [171, 187, 1007] (evC gl R N law18Graph_c6) (Kblock 3 (Kjoin [0, 1, 5, 6, 7] [171, 187, 1007] (Kthen gl R N law18Graph_c8 (Kjoin [0, 1, 5, 6] [187] K)))) N ⟨[(0, .imm (AV.row 5 l23)), (1, .imm (AV.bool b8)), (5, .own 187 0 l25.length none), (6, .imm (AV.int .i64 i36)), (7, .ptr 1007 0 0), (152, .imm (AV.row 1 l27)), (153, .imm (AV.int .i64 ((l27.length : Nat) : Int))), (154, .imm (AV.int .i64 0))], [(171, .row 1 l24 false), (187, .row 4 l25 false), (1007, .box [.imm (AV.int .i64 i37), .imm (AV.str s20), .imm (AV.str s21), .own 171 0 l24.length none])]⟩)
    else
    bif b8 then
    (need (decide (0 ≤ (i36 : Int))) <|
    (l23[Int.toNat i36]?).bind fun e13 =>
    asIIISRA e13 fun i124 i125 i126 s65 l114 =>
    need (!decide (7 = 0)) <|
    bif ((Int.tmod i126 7) : Int) == 6 then
    (need (decide (0 ≤ (i36 : Int))) <|
    (l23[Int.toNat i36]?).bind fun e14 =>
    asIIISRA e14 fun i127 i128 i129 s66 l115 =>
    (R id_keepCutInt [AV.row 1 l115, AV.int .i64 5]).bind fun r10 =>
    asR 1 r10.v fun l116 =>
    rounds [0, 1, 5, 6, 7, 152, 153, 154] [171, 187, 1007] (evC gl R N law18Graph_c6) (Kblock 3 (Kjoin [0, 1, 5, 6, 7] [171, 187, 1007] (Kthen gl R N law18Graph_c8 (Kjoin [0, 1, 5, 6] [187] K)))) N ⟨[(0, .imm (AV.row 5 l23)), (1, .imm (AV.bool b8)), (5, .own 187 0 l25.length none), (6, .imm (AV.int .i64 i36)), (7, .ptr 1007 0 0), (152, .imm (AV.row 1 l116)), (153, .imm (AV.int .i64 ((l116.length : Nat) : Int))), (154, .imm (AV.int .i64 0))], [(171, .row 1 l24 false), (187, .row 4 l25 false), (1007, .box [.imm (AV.int .i64 i37), .imm (AV.str s20), .imm (AV.str s21), .own 171 0 l24.length none])]⟩)
    else
    runJ [0, 1, 5, 6] [187] (evC gl R N law18Graph_c7) (Kjoin [0, 1, 5, 6] [187] K) N ⟨[(0, .imm (AV.row 5 l23)), (1, .imm (AV.bool b8)), (5, .own 187 0 l25.length none), (6, .imm (AV.int .i64 i36)), (7, .ptr 1007 0 0)], [(171, .row 1 l24 false), (187, .row 4 l25 false), (1007, .box [.imm (AV.int .i64 i37), .imm (AV.str s20), .imm (AV.str s21), .own 171 0 l24.length none])]⟩)
    else
    runJ [0, 1, 5, 6] [187] (evC gl R N law18Graph_c7) (Kjoin [0, 1, 5, 6] [187] K) N ⟨[(0, .imm (AV.row 5 l23)), (1, .imm (AV.bool b8)), (5, .own 187 0 l25.length none), (6, .imm (AV.int .i64 i36)), (7, .ptr 1007 0 0)], [(171, .row 1 l24 false), (187, .row 4 l25 false), (1007, .box [.imm (AV.int .i64 i37), .imm (AV.str s20), .imm (AV.str s21), .own 171 0 l24.length none])]⟩) (by kernel_rfl) ?_
  simp (config := { maxSteps := 100000000 }) only [law18Graph_J11_eq, law18Graph_L7_eq]
  refine Eq.trans (b :=
    bif (i37 : Int) != 1 then
    (need (decide (0 ≤ (i36 : Int))) <|
    (l23[Int.toNat i36]?).bind fun e11 =>
    asIIISRA e11 fun i38 i39 i40 s22 l26 =>
    (R id_keepCutInt [AV.row 1 l26, AV.int .i64 5]).bind fun r7 =>
    asR 1 r7.v fun l27 =>
    law18Graph_L7 R N
      (fun l102 b28 i117 l103 l104 i118 s61 s62 =>
    runJ [0, 1, 5, 6] [187] (evC gl R N law18Graph_c7) (Kjoin [0, 1, 5, 6] [187] K) N ⟨[(0, .imm (AV.row 5 l102)), (1, .imm (AV.bool b28)), (5, .own 187 0 l104.length none), (6, .imm (AV.int .i64 i117)), (7, .ptr 1007 0 0)], [(171, .row 1 l103 false), (187, .row 4 l104 false), (1007, .box [.imm (AV.int .i64 i118), .imm (AV.str s61), .imm (AV.str s62), .own 171 0 l103.length none])]⟩)
      N l23 b8 i36 l27 ((l27.length : Nat) : Int) 0 l24 l25 i37 s20 s21)
    else
    bif b8 then
    (need (decide (0 ≤ (i36 : Int))) <|
    (l23[Int.toNat i36]?).bind fun e13 =>
    asIIISRA e13 fun i124 i125 i126 s65 l114 =>
    need (!decide (7 = 0)) <|
    bif ((Int.tmod i126 7) : Int) == 6 then
    (need (decide (0 ≤ (i36 : Int))) <|
    (l23[Int.toNat i36]?).bind fun e14 =>
    asIIISRA e14 fun i127 i128 i129 s66 l115 =>
    (R id_keepCutInt [AV.row 1 l115, AV.int .i64 5]).bind fun r10 =>
    asR 1 r10.v fun l116 =>
    law18Graph_L7 R N
      (fun l117 b33 i130 l118 l119 i131 s67 s68 =>
    runJ [0, 1, 5, 6] [187] (evC gl R N law18Graph_c7) (Kjoin [0, 1, 5, 6] [187] K) N ⟨[(0, .imm (AV.row 5 l117)), (1, .imm (AV.bool b33)), (5, .own 187 0 l119.length none), (6, .imm (AV.int .i64 i130)), (7, .ptr 1007 0 0)], [(171, .row 1 l118 false), (187, .row 4 l119 false), (1007, .box [.imm (AV.int .i64 i131), .imm (AV.str s67), .imm (AV.str s68), .own 171 0 l118.length none])]⟩)
      N l23 b8 i36 l116 ((l116.length : Nat) : Int) 0 l24 l25 i37 s20 s21)
    else
    law18Graph_J11 R N
      (fun l122 b35 i133 l123 =>
    (fun (l128 : List AV) (b38 : Bool) (i136 : Int) (l129 : List AV) => K .normal ⟨[(0, .imm (AV.row 5 l128)), (1, .imm (AV.bool b38)), (5, .own 187 0 l129.length none), (6, .imm (AV.int .i64 i136))], [(187, .row 4 l129 false)]⟩) l122 b35 i133 l123)
       l23 b8 i36 l24 l25 i37 s20 s21)
    else
    law18Graph_J11 R N
      (fun l124 b36 i134 l125 =>
    (fun (l128 : List AV) (b38 : Bool) (i136 : Int) (l129 : List AV) => K .normal ⟨[(0, .imm (AV.row 5 l128)), (1, .imm (AV.bool b38)), (5, .own 187 0 l129.length none), (6, .imm (AV.int .i64 i136))], [(187, .row 4 l129 false)]⟩) l124 b36 i134 l125)
       l23 b8 i36 l24 l25 i37 s20 s21) (by kernel_rfl) ?_
  simp (config := { maxSteps := 100000000 }) only [law18Graph_J11_eq, law18Graph_L7_eq]
  kernel_rfl
theorem law18Graph_J6_eq (R : Nat → List AV → Option Res) (N : Nat) (K : Ex → St → Option Res) (l23 : List AV) (b8 : Bool) (i36 : Int) (l24 : List AV) (l25 : List AV) (i37 : Int) (s20 : List UInt8) (s21 : List UInt8) :
    runJ [0, 1, 5, 6] [187] (evC gl R N law18Graph_c9) K N ⟨[(0, .imm (AV.row 5 l23)), (1, .imm (AV.bool b8)), (5, .own 187 0 l25.length none), (6, .imm (AV.int .i64 i36)), (7, .ptr 1007 0 0)], [(171, .row 1 l24 false), (187, .row 4 l25 false), (1007, .box [.imm (AV.int .i64 i37), .imm (AV.str s20), .imm (AV.str s21), .own 171 0 l24.length none])]⟩ =
    law18Graph_J6 R N (fun (l126 : List AV) (b37 : Bool) (i135 : Int) (l127 : List AV) => K .normal ⟨[(0, .imm (AV.row 5 l126)), (1, .imm (AV.bool b37)), (5, .own 187 0 l127.length none), (6, .imm (AV.int .i64 i135))], [(187, .row 4 l127 false)]⟩) l23 b8 i36 l24 l25 i37 s20 s21 :=
  (runJ_eq _ _ _ _ _ _).trans (congrArg (posN N) (law18Graph_J6_eq0 R N K l23 b8 i36 l24 l25 i37 s20 s21))
def law18Graph_J5 (R : Nat → List AV → Option Res) (N : Nat) (k0 : List AV → Bool → Int → List AV → Option Res) (l18 : List AV) (b7 : Bool) (i28 : Int) (l19 : List AV) (l20 : List AV) (i29 : Int) (s15 : List UInt8) (s16 : List UInt8) : Option Res :=
  posN N <|
  bif b7 then
    (need (decide (0 ≤ (i28 : Int))) <|
    (l18[Int.toNat i28]?).bind fun e9 =>
    asIIISRA e9 fun i30 i31 i32 s17 l21 =>
    need (!decide (7 = 0)) <|
    bif ((Int.tmod i31 7) : Int) == 6 then
    (need (decide (0 ≤ (i28 : Int))) <|
    (l18[Int.toNat i28]?).bind fun e10 =>
    asIIISRA e10 fun i33 i34 i35 s18 l22 =>
    (R id_keepText [AV.str s18, AV.int .i64 8]).bind fun r6 =>
    asS r6.v fun s19 =>
    law18Graph_J6 R N
      (fun l130 b39 i137 l131 =>
    k0 l130 b39 i137 l131)
       l18 b7 i28 l19 l20 i29 s19 s16)
    else
    law18Graph_J6 R N
      (fun l132 b40 i138 l133 =>
    k0 l132 b40 i138 l133)
       l18 b7 i28 l19 l20 i29 s15 s16)
  else
    law18Graph_J6 R N
      (fun l134 b41 i139 l135 =>
    k0 l134 b41 i139 l135)
       l18 b7 i28 l19 l20 i29 s15 s16
def law18Graph_c11 : AC := .seq (.join [0, 1, 5, 6, 7] [171, 187, 1007] (.seq (.region [.op (some 115) none (.mv (.t 1)), .op (some 116) none (.mv (.t 115)), .split 116, .op (some 117) (some (116, true)) (.mv (.t 0)), .op (some 118) (some (116, true)) (.mv (.t 6)), .op (some 119) (some (116, true)) (.iaddr (.t 117) (.t 118) 5 (.agg [.int .i64, .int .i64, .int .i64, .str, .row 1])), .op (some 120) (some (116, true)) (.faddr (.t 119) 1), .op (some 121) (some (116, true)) (.load (.t 120) none (.int .i64)), .op (some 122) (some (116, true)) (.bin .rem (.t 121) (.k (AV.int .i64 7))), .op (some 123) (some (116, true)) (.bin .eql (.t 122) (.k (AV.int .i64 6))), .op (some 124) none (.pick (.t 116) (.t 123) (.k (AV.bool false)))]) (.cond (.t 124) (.region [.op (some 125) none (.mv (.t 0)), .op (some 126) none (.mv (.t 6)), .op (some 127) none (.iaddr (.t 125) (.t 126) 5 (.agg [.int .i64, .int .i64, .int .i64, .str, .row 1])), .op (some 128) none (.faddr (.t 127) 3), .op (some 129) none (.load (.t 128) none (.str)), .op (some 130) none (.call id_keepText [.t 129, .k (AV.int .i64 8)] (.str)), .op (some 131) none (.faddr (.t 7) 1), .op none none (.store (.t 131) (.t 130) 1)]) (.skip)))) (law18Graph_c10)
def law18Graph_c12 : AC := .meet [0, 1, 5, 6] [187] law18Graph_c11
theorem law18Graph_J5_eq0 (R : Nat → List AV → Option Res) (N : Nat) (K : Ex → St → Option Res) (l18 : List AV) (b7 : Bool) (i28 : Int) (l19 : List AV) (l20 : List AV) (i29 : Int) (s15 : List UInt8) (s16 : List UInt8) :
    evC gl R N law18Graph_c11 (Kjoin [0, 1, 5, 6] [187] K) ⟨[(0, .imm (AV.row 5 l18)), (1, .imm (AV.bool b7)), (5, .own 187 0 l20.length none), (6, .imm (AV.int .i64 i28)), (7, .ptr 1007 0 0)], [(171, .row 1 l19 false), (187, .row 4 l20 false), (1007, .box [.imm (AV.int .i64 i29), .imm (AV.str s15), .imm (AV.str s16), .own 171 0 l19.length none])]⟩ =
    (bif b7 then
    (need (decide (0 ≤ (i28 : Int))) <|
    (l18[Int.toNat i28]?).bind fun e9 =>
    asIIISRA e9 fun i30 i31 i32 s17 l21 =>
    need (!decide (7 = 0)) <|
    bif ((Int.tmod i31 7) : Int) == 6 then
    (need (decide (0 ≤ (i28 : Int))) <|
    (l18[Int.toNat i28]?).bind fun e10 =>
    asIIISRA e10 fun i33 i34 i35 s18 l22 =>
    (R id_keepText [AV.str s18, AV.int .i64 8]).bind fun r6 =>
    asS r6.v fun s19 =>
    law18Graph_J6 R N
      (fun l130 b39 i137 l131 =>
    (fun (l138 : List AV) (b43 : Bool) (i141 : Int) (l139 : List AV) => K .normal ⟨[(0, .imm (AV.row 5 l138)), (1, .imm (AV.bool b43)), (5, .own 187 0 l139.length none), (6, .imm (AV.int .i64 i141))], [(187, .row 4 l139 false)]⟩) l130 b39 i137 l131)
       l18 b7 i28 l19 l20 i29 s19 s16)
    else
    law18Graph_J6 R N
      (fun l132 b40 i138 l133 =>
    (fun (l138 : List AV) (b43 : Bool) (i141 : Int) (l139 : List AV) => K .normal ⟨[(0, .imm (AV.row 5 l138)), (1, .imm (AV.bool b43)), (5, .own 187 0 l139.length none), (6, .imm (AV.int .i64 i141))], [(187, .row 4 l139 false)]⟩) l132 b40 i138 l133)
       l18 b7 i28 l19 l20 i29 s15 s16)
    else
    law18Graph_J6 R N
      (fun l134 b41 i139 l135 =>
    (fun (l138 : List AV) (b43 : Bool) (i141 : Int) (l139 : List AV) => K .normal ⟨[(0, .imm (AV.row 5 l138)), (1, .imm (AV.bool b43)), (5, .own 187 0 l139.length none), (6, .imm (AV.int .i64 i141))], [(187, .row 4 l139 false)]⟩) l134 b41 i139 l135)
       l18 b7 i28 l19 l20 i29 s15 s16) := by
  refine Eq.trans (b :=
    bif b7 then
    (need (decide (0 ≤ (i28 : Int))) <|
    (l18[Int.toNat i28]?).bind fun e9 =>
    asIIISRA e9 fun i30 i31 i32 s17 l21 =>
    need (!decide (7 = 0)) <|
    bif ((Int.tmod i31 7) : Int) == 6 then
    (need (decide (0 ≤ (i28 : Int))) <|
    (l18[Int.toNat i28]?).bind fun e10 =>
    asIIISRA e10 fun i33 i34 i35 s18 l22 =>
    (R id_keepText [AV.str s18, AV.int .i64 8]).bind fun r6 =>
    asS r6.v fun s19 =>
    runJ [0, 1, 5, 6] [187] (evC gl R N law18Graph_c9) (Kjoin [0, 1, 5, 6] [187] K) N ⟨[(0, .imm (AV.row 5 l18)), (1, .imm (AV.bool b7)), (5, .own 187 0 l20.length none), (6, .imm (AV.int .i64 i28)), (7, .ptr 1007 0 0)], [(171, .row 1 l19 false), (187, .row 4 l20 false), (1007, .box [.imm (AV.int .i64 i29), .imm (AV.str s19), .imm (AV.str s16), .own 171 0 l19.length none])]⟩)
    else
    runJ [0, 1, 5, 6] [187] (evC gl R N law18Graph_c9) (Kjoin [0, 1, 5, 6] [187] K) N ⟨[(0, .imm (AV.row 5 l18)), (1, .imm (AV.bool b7)), (5, .own 187 0 l20.length none), (6, .imm (AV.int .i64 i28)), (7, .ptr 1007 0 0)], [(171, .row 1 l19 false), (187, .row 4 l20 false), (1007, .box [.imm (AV.int .i64 i29), .imm (AV.str s15), .imm (AV.str s16), .own 171 0 l19.length none])]⟩)
    else
    runJ [0, 1, 5, 6] [187] (evC gl R N law18Graph_c9) (Kjoin [0, 1, 5, 6] [187] K) N ⟨[(0, .imm (AV.row 5 l18)), (1, .imm (AV.bool b7)), (5, .own 187 0 l20.length none), (6, .imm (AV.int .i64 i28)), (7, .ptr 1007 0 0)], [(171, .row 1 l19 false), (187, .row 4 l20 false), (1007, .box [.imm (AV.int .i64 i29), .imm (AV.str s15), .imm (AV.str s16), .own 171 0 l19.length none])]⟩) (by kernel_rfl) ?_
  simp (config := { maxSteps := 100000000 }) only [law18Graph_J6_eq]
  kernel_rfl
theorem law18Graph_J5_eq (R : Nat → List AV → Option Res) (N : Nat) (K : Ex → St → Option Res) (l18 : List AV) (b7 : Bool) (i28 : Int) (l19 : List AV) (l20 : List AV) (i29 : Int) (s15 : List UInt8) (s16 : List UInt8) :
    runJ [0, 1, 5, 6] [187] (evC gl R N law18Graph_c11) K N ⟨[(0, .imm (AV.row 5 l18)), (1, .imm (AV.bool b7)), (5, .own 187 0 l20.length none), (6, .imm (AV.int .i64 i28)), (7, .ptr 1007 0 0)], [(171, .row 1 l19 false), (187, .row 4 l20 false), (1007, .box [.imm (AV.int .i64 i29), .imm (AV.str s15), .imm (AV.str s16), .own 171 0 l19.length none])]⟩ =
    law18Graph_J5 R N (fun (l136 : List AV) (b42 : Bool) (i140 : Int) (l137 : List AV) => K .normal ⟨[(0, .imm (AV.row 5 l136)), (1, .imm (AV.bool b42)), (5, .own 187 0 l137.length none), (6, .imm (AV.int .i64 i140))], [(187, .row 4 l137 false)]⟩) l18 b7 i28 l19 l20 i29 s15 s16 :=
  (runJ_eq _ _ _ _ _ _).trans (congrArg (posN N) (law18Graph_J5_eq0 R N K l18 b7 i28 l19 l20 i29 s15 s16))
def law18Graph_J4 (R : Nat → List AV → Option Res) (N : Nat) (k0 : List AV → Bool → Int → List AV → Option Res) (l15 : List AV) (b5 : Bool) (i26 : Int) (l16 : List AV) (l17 : List AV) (i27 : Int) (s12 : List UInt8) (s13 : List UInt8) : Option Res :=
  posN N <|
  (R id_ref01PutDouble [AV.str s13]).bind fun r5 =>
  asSBT r5.v fun s14 b6 =>
  bif !b6 then
    (bif !b5 then
    (law18Graph_J5 R N
      (fun l140 b44 i142 l141 =>
    k0 l140 b44 i142 l141)
       l15 b5 i26 l16 l17 i27 s12 ([97] : List UInt8))
    else
    law18Graph_J5 R N
      (fun l142 b45 i143 l143 =>
    k0 l142 b45 i143 l143)
       l15 b5 i26 l16 l17 i27 s12 s13)
  else
    law18Graph_J5 R N
      (fun l144 b46 i144 l145 =>
    k0 l144 b46 i144 l145)
       l15 b5 i26 l16 l17 i27 s12 s13
def law18Graph_c13 : AC := .seq (.join [0, 1, 5, 6, 7] [171, 187, 1007] (.seq (.region [.op (some 103) none (.faddr (.t 7) 2), .op (some 104) none (.load (.t 103) none (.str)), .op (some 105) none (.call id_ref01PutDouble [.t 104] (.tup [.str, .bool])), .op (some 102) none (.mv (.t 105)), .op (some 106) none (.extract (.t 102) 0), .op (some 107) none (.extract (.t 102) 1), .op (some 8) none (.mv (.t 106)), .op (some 9) none (.mv (.t 107))]) (.seq (.region [.op (some 108) none (.mv (.t 9)), .op (some 109) none (.un .not (.t 108)), .op (some 110) none (.mv (.t 109)), .split 110, .op (some 111) (some (110, true)) (.mv (.t 1)), .op (some 112) (some (110, true)) (.un .not (.t 111)), .op (some 113) none (.pick (.t 110) (.t 112) (.k (AV.bool false)))]) (.cond (.t 113) (.region [.op (some 114) none (.faddr (.t 7) 2), .op none none (.store (.t 114) (.k (AV.str ([97] : List UInt8))) 1)]) (.skip))))) (law18Graph_c12)
def law18Graph_c14 : AC := .meet [0, 1, 5, 6] [187] law18Graph_c13
theorem law18Graph_J4_eq0 (R : Nat → List AV → Option Res) (N : Nat) (K : Ex → St → Option Res) (l15 : List AV) (b5 : Bool) (i26 : Int) (l16 : List AV) (l17 : List AV) (i27 : Int) (s12 : List UInt8) (s13 : List UInt8) :
    evC gl R N law18Graph_c13 (Kjoin [0, 1, 5, 6] [187] K) ⟨[(0, .imm (AV.row 5 l15)), (1, .imm (AV.bool b5)), (5, .own 187 0 l17.length none), (6, .imm (AV.int .i64 i26)), (7, .ptr 1007 0 0)], [(171, .row 1 l16 false), (187, .row 4 l17 false), (1007, .box [.imm (AV.int .i64 i27), .imm (AV.str s12), .imm (AV.str s13), .own 171 0 l16.length none])]⟩ =
    ((R id_ref01PutDouble [AV.str s13]).bind fun r5 =>
    asSBT r5.v fun s14 b6 =>
    bif !b6 then
    (bif !b5 then
    (law18Graph_J5 R N
      (fun l140 b44 i142 l141 =>
    (fun (l148 : List AV) (b48 : Bool) (i146 : Int) (l149 : List AV) => K .normal ⟨[(0, .imm (AV.row 5 l148)), (1, .imm (AV.bool b48)), (5, .own 187 0 l149.length none), (6, .imm (AV.int .i64 i146))], [(187, .row 4 l149 false)]⟩) l140 b44 i142 l141)
       l15 b5 i26 l16 l17 i27 s12 ([97] : List UInt8))
    else
    law18Graph_J5 R N
      (fun l142 b45 i143 l143 =>
    (fun (l148 : List AV) (b48 : Bool) (i146 : Int) (l149 : List AV) => K .normal ⟨[(0, .imm (AV.row 5 l148)), (1, .imm (AV.bool b48)), (5, .own 187 0 l149.length none), (6, .imm (AV.int .i64 i146))], [(187, .row 4 l149 false)]⟩) l142 b45 i143 l143)
       l15 b5 i26 l16 l17 i27 s12 s13)
    else
    law18Graph_J5 R N
      (fun l144 b46 i144 l145 =>
    (fun (l148 : List AV) (b48 : Bool) (i146 : Int) (l149 : List AV) => K .normal ⟨[(0, .imm (AV.row 5 l148)), (1, .imm (AV.bool b48)), (5, .own 187 0 l149.length none), (6, .imm (AV.int .i64 i146))], [(187, .row 4 l149 false)]⟩) l144 b46 i144 l145)
       l15 b5 i26 l16 l17 i27 s12 s13) := by
  refine Eq.trans (b :=
    (R id_ref01PutDouble [AV.str s13]).bind fun r5 =>
    asSBT r5.v fun s14 b6 =>
    bif !b6 then
    (bif !b5 then
    (runJ [0, 1, 5, 6] [187] (evC gl R N law18Graph_c11) (Kjoin [0, 1, 5, 6] [187] K) N ⟨[(0, .imm (AV.row 5 l15)), (1, .imm (AV.bool b5)), (5, .own 187 0 l17.length none), (6, .imm (AV.int .i64 i26)), (7, .ptr 1007 0 0)], [(171, .row 1 l16 false), (187, .row 4 l17 false), (1007, .box [.imm (AV.int .i64 i27), .imm (AV.str s12), .imm (AV.str ([97] : List UInt8)), .own 171 0 l16.length none])]⟩)
    else
    runJ [0, 1, 5, 6] [187] (evC gl R N law18Graph_c11) (Kjoin [0, 1, 5, 6] [187] K) N ⟨[(0, .imm (AV.row 5 l15)), (1, .imm (AV.bool b5)), (5, .own 187 0 l17.length none), (6, .imm (AV.int .i64 i26)), (7, .ptr 1007 0 0)], [(171, .row 1 l16 false), (187, .row 4 l17 false), (1007, .box [.imm (AV.int .i64 i27), .imm (AV.str s12), .imm (AV.str s13), .own 171 0 l16.length none])]⟩)
    else
    runJ [0, 1, 5, 6] [187] (evC gl R N law18Graph_c11) (Kjoin [0, 1, 5, 6] [187] K) N ⟨[(0, .imm (AV.row 5 l15)), (1, .imm (AV.bool b5)), (5, .own 187 0 l17.length none), (6, .imm (AV.int .i64 i26)), (7, .ptr 1007 0 0)], [(171, .row 1 l16 false), (187, .row 4 l17 false), (1007, .box [.imm (AV.int .i64 i27), .imm (AV.str s12), .imm (AV.str s13), .own 171 0 l16.length none])]⟩) (by kernel_rfl) ?_
  simp (config := { maxSteps := 100000000 }) only [law18Graph_J5_eq]
  kernel_rfl
theorem law18Graph_J4_eq (R : Nat → List AV → Option Res) (N : Nat) (K : Ex → St → Option Res) (l15 : List AV) (b5 : Bool) (i26 : Int) (l16 : List AV) (l17 : List AV) (i27 : Int) (s12 : List UInt8) (s13 : List UInt8) :
    runJ [0, 1, 5, 6] [187] (evC gl R N law18Graph_c13) K N ⟨[(0, .imm (AV.row 5 l15)), (1, .imm (AV.bool b5)), (5, .own 187 0 l17.length none), (6, .imm (AV.int .i64 i26)), (7, .ptr 1007 0 0)], [(171, .row 1 l16 false), (187, .row 4 l17 false), (1007, .box [.imm (AV.int .i64 i27), .imm (AV.str s12), .imm (AV.str s13), .own 171 0 l16.length none])]⟩ =
    law18Graph_J4 R N (fun (l146 : List AV) (b47 : Bool) (i145 : Int) (l147 : List AV) => K .normal ⟨[(0, .imm (AV.row 5 l146)), (1, .imm (AV.bool b47)), (5, .own 187 0 l147.length none), (6, .imm (AV.int .i64 i145))], [(187, .row 4 l147 false)]⟩) l15 b5 i26 l16 l17 i27 s12 s13 :=
  (runJ_eq _ _ _ _ _ _).trans (congrArg (posN N) (law18Graph_J4_eq0 R N K l15 b5 i26 l16 l17 i27 s12 s13))
def law18Graph_J3 (R : Nat → List AV → Option Res) (N : Nat) (k0 : List AV → Bool → Int → List AV → Option Res) (l9 : List AV) (b4 : Bool) (i13 : Int) (l10 : List AV) (l11 : List AV) (i14 : Int) (s4 : List UInt8) (s5 : List UInt8) : Option Res :=
  posN N <|
  bif (i14 : Int) == 1 then
    (need (decide (0 ≤ (i13 : Int))) <|
    (l9[Int.toNat i13]?).bind fun e4 =>
    asIIISRA e4 fun i15 i16 i17 s6 l12 =>
    (R id_keepWithin [AV.int .i64 i16, AV.int .i64 6]).bind fun r2 =>
    asI .i64 r2.v fun i18 =>
    need (decide (0 ≤ (i18 : Int))) <|
    (([AV.str ([33, 33, 115, 116, 114] : List UInt8), AV.str ([33, 33, 115, 116, 114] : List UInt8), AV.str ([33, 33, 105, 110, 116] : List UInt8), AV.str ([33, 33, 110, 117, 108, 108] : List UInt8), AV.str ([33, 120] : List UInt8), AV.str ([33, 33, 102, 108, 111, 97, 116] : List UInt8)] : List AV)[Int.toNat i18]?).bind fun e5 =>
    asS e5 fun s7 =>
    need (decide (0 ≤ (i13 : Int))) <|
    (l9[Int.toNat i13]?).bind fun e6 =>
    asIIISRA e6 fun i19 i20 i21 s8 l13 =>
    (R id_keepText [AV.str s8, AV.int .i64 12]).bind fun r3 =>
    asS r3.v fun s9 =>
    need (decide (0 ≤ (i13 : Int))) <|
    (l9[Int.toNat i13]?).bind fun e7 =>
    asIIISRA e7 fun i22 i23 i24 s10 l14 =>
    (R id_keepWithin [AV.int .i64 i24, AV.int .i64 8]).bind fun r4 =>
    asI .i64 r4.v fun i25 =>
    need (decide (0 ≤ (i25 : Int))) <|
    (([AV.str ([97] : List UInt8), AV.str ([98] : List UInt8), AV.str ([49] : List UInt8), AV.str ([] : List UInt8), AV.str ([116, 114, 117, 101] : List UInt8), AV.str ([120, 32, 121] : List UInt8), AV.str ([48, 46, 53] : List UInt8), AV.str s9] : List AV)[Int.toNat i25]?).bind fun e8 =>
    asS e8 fun s11 =>
    law18Graph_J4 R N
      (fun l150 b49 i147 l151 =>
    k0 l150 b49 i147 l151)
       l9 b4 i13 l10 l11 i14 s7 s11)
  else
    bif (i14 : Int) == 2 then
    (need (decide (0 ≤ (i13 : Int))) <|
    (l9[Int.toNat i13]?).bind fun e15 =>
    asIIISRA e15 fun i148 i149 i150 s69 l152 =>
    (R id_keepWithin [AV.int .i64 i149, AV.int .i64 3]).bind fun r11 =>
    asI .i64 r11.v fun i151 =>
    need (decide (0 ≤ (i151 : Int))) <|
    (([AV.str ([33, 33, 115, 101, 113] : List UInt8), AV.str ([33, 33, 115, 101, 113] : List UInt8), AV.str ([33, 121] : List UInt8)] : List AV)[Int.toNat i151]?).bind fun e16 =>
    asS e16 fun s70 =>
    law18Graph_J4 R N
      (fun l153 b50 i152 l154 =>
    k0 l153 b50 i152 l154)
       l9 b4 i13 l10 l11 i14 s70 s5)
    else
    need (decide (0 ≤ (i13 : Int))) <|
    (l9[Int.toNat i13]?).bind fun e17 =>
    asIIISRA e17 fun i153 i154 i155 s71 l155 =>
    (R id_keepWithin [AV.int .i64 i154, AV.int .i64 3]).bind fun r12 =>
    asI .i64 r12.v fun i156 =>
    need (decide (0 ≤ (i156 : Int))) <|
    (([AV.str ([33, 33, 109, 97, 112] : List UInt8), AV.str ([33, 33, 109, 97, 112] : List UInt8), AV.str ([33, 122] : List UInt8)] : List AV)[Int.toNat i156]?).bind fun e18 =>
    asS e18 fun s72 =>
    law18Graph_J4 R N
      (fun l156 b51 i157 l157 =>
    k0 l156 b51 i157 l157)
       l9 b4 i13 l10 l11 i14 s72 s5
def law18Graph_c15 : AC := .seq (.join [0, 1, 5, 6, 7] [171, 187, 1007] (.seq (.region [.op (some 50) none (.faddr (.t 7) 0), .op (some 51) none (.load (.t 50) none (.int .i64))]) (.block 2 (.seq (.region [.op (some 63) none (.bin .eql (.t 51) (.k (AV.int .i64 1))), .op (some 62) none (.mv (.t 63))]) (.cond (.t 62) (.seq (.region [.op (some 64) none (.bslice [.k (AV.str ([33, 33, 115, 116, 114] : List UInt8)), .k (AV.str ([33, 33, 115, 116, 114] : List UInt8)), .k (AV.str ([33, 33, 105, 110, 116] : List UInt8)), .k (AV.str ([33, 33, 110, 117, 108, 108] : List UInt8)), .k (AV.str ([33, 120] : List UInt8)), .k (AV.str ([33, 33, 102, 108, 111, 97, 116] : List UInt8))] 1 false), .op (some 65) none (.mv (.t 0)), .op (some 66) none (.mv (.t 6)), .op (some 67) none (.iaddr (.t 65) (.t 66) 5 (.agg [.int .i64, .int .i64, .int .i64, .str, .row 1])), .op (some 68) none (.faddr (.t 67) 1), .op (some 69) none (.load (.t 68) none (.int .i64)), .op (some 70) none (.call id_keepWithin [.t 69, .k (AV.int .i64 6)] (.int .i64)), .op (some 71) none (.iaddr (.t 64) (.t 70) 1 (.str)), .op (some 72) none (.load (.t 71) none (.str)), .op (some 73) none (.faddr (.t 7) 1), .op none none (.store (.t 73) (.t 72) 1)]) (.regionD [0, 1, 5, 6, 7] [171, 187, 1007] [.op (some 74) none (.mv (.t 0)), .op (some 75) none (.mv (.t 6)), .op (some 76) none (.iaddr (.t 74) (.t 75) 5 (.agg [.int .i64, .int .i64, .int .i64, .str, .row 1])), .op (some 77) none (.faddr (.t 76) 3), .op (some 78) none (.load (.t 77) none (.str)), .op (some 79) none (.call id_keepText [.t 78, .k (AV.int .i64 12)] (.str)), .op (some 80) none (.bslice [.k (AV.str ([97] : List UInt8)), .k (AV.str ([98] : List UInt8)), .k (AV.str ([49] : List UInt8)), .k (AV.str ([] : List UInt8)), .k (AV.str ([116, 114, 117, 101] : List UInt8)), .k (AV.str ([120, 32, 121] : List UInt8)), .k (AV.str ([48, 46, 53] : List UInt8)), .t 79] 1 false), .op (some 81) none (.mv (.t 0)), .op (some 82) none (.mv (.t 6)), .op (some 83) none (.iaddr (.t 81) (.t 82) 5 (.agg [.int .i64, .int .i64, .int .i64, .str, .row 1])), .op (some 84) none (.faddr (.t 83) 2), .op (some 85) none (.load (.t 84) none (.int .i64)), .op (some 86) none (.call id_keepWithin [.t 85, .k (AV.int .i64 8)] (.int .i64)), .op (some 87) none (.iaddr (.t 80) (.t 86) 1 (.str)), .op (some 88) none (.load (.t 87) none (.str)), .op (some 89) none (.faddr (.t 7) 2)] [.op none none (.store (.t 89) (.t 88) 1)])) (.seq (.region [.op (some 91) none (.bin .eql (.t 51) (.k (AV.int .i64 2))), .op (some 90) none (.mv (.t 91))]) (.cond (.t 90) (.region [.op (some 92) none (.bslice [.k (AV.str ([33, 33, 115, 101, 113] : List UInt8)), .k (AV.str ([33, 33, 115, 101, 113] : List UInt8)), .k (AV.str ([33, 121] : List UInt8))] 1 false), .op (some 93) none (.mv (.t 0)), .op (some 94) none (.mv (.t 6)), .op (some 95) none (.iaddr (.t 93) (.t 94) 5 (.agg [.int .i64, .int .i64, .int .i64, .str, .row 1])), .op (some 96) none (.faddr (.t 95) 1), .op (some 97) none (.load (.t 96) none (.int .i64)), .op (some 98) none (.call id_keepWithin [.t 97, .k (AV.int .i64 3)] (.int .i64)), .op (some 99) none (.iaddr (.t 92) (.t 98) 1 (.str)), .op (some 100) none (.load (.t 99) none (.str)), .op (some 101) none (.faddr (.t 7) 1), .op none none (.store (.t 101) (.t 100) 1)]) (.region [.op (some 52) none (.bslice [.k (AV.str ([33, 33, 109, 97, 112] : List UInt8)), .k (AV.str ([33, 33, 109, 97, 112] : List UInt8)), .k (AV.str ([33, 122] : List UInt8))] 1 false), .op (some 53) none (.mv (.t 0)), .op (some 54) none (.mv (.t 6)), .op (some 55) none (.iaddr (.t 53) (.t 54) 5 (.agg [.int .i64, .int .i64, .int .i64, .str, .row 1])), .op (some 56) none (.faddr (.t 55) 1), .op (some 57) none (.load (.t 56) none (.int .i64)), .op (some 58) none (.call id_keepWithin [.t 57, .k (AV.int .i64 3)] (.int .i64)), .op (some 59) none (.iaddr (.t 52) (.t 58) 1 (.str)), .op (some 60) none (.load (.t 59) none (.str)), .op (some 61) none (.faddr (.t 7) 1), .op none none (.store (.t 61) (.t 60) 1)])))))))) (law18Graph_c14)
def law18Graph_c16 : AC := .meet [0, 1, 5, 6] [187] law18Graph_c15
theorem law18Graph_J3_eq0 (R : Nat → List AV → Option Res) (N : Nat) (K : Ex → St → Option Res) (l9 : List AV) (b4 : Bool) (i13 : Int) (l10 : List AV) (l11 : List AV) (i14 : Int) (s4 : List UInt8) (s5 : List UInt8) :
    evC gl R N law18Graph_c15 (Kjoin [0, 1, 5, 6] [187] K) ⟨[(0, .imm (AV.row 5 l9)), (1, .imm (AV.bool b4)), (5, .own 187 0 l11.length none), (6, .imm (AV.int .i64 i13)), (7, .ptr 1007 0 0)], [(171, .row 1 l10 false), (187, .row 4 l11 false), (1007, .box [.imm (AV.int .i64 i14), .imm (AV.str s4), .imm (AV.str s5), .own 171 0 l10.length none])]⟩ =
    (bif (i14 : Int) == 1 then
    (need (decide (0 ≤ (i13 : Int))) <|
    (l9[Int.toNat i13]?).bind fun e4 =>
    asIIISRA e4 fun i15 i16 i17 s6 l12 =>
    (R id_keepWithin [AV.int .i64 i16, AV.int .i64 6]).bind fun r2 =>
    asI .i64 r2.v fun i18 =>
    need (decide (0 ≤ (i18 : Int))) <|
    (([AV.str ([33, 33, 115, 116, 114] : List UInt8), AV.str ([33, 33, 115, 116, 114] : List UInt8), AV.str ([33, 33, 105, 110, 116] : List UInt8), AV.str ([33, 33, 110, 117, 108, 108] : List UInt8), AV.str ([33, 120] : List UInt8), AV.str ([33, 33, 102, 108, 111, 97, 116] : List UInt8)] : List AV)[Int.toNat i18]?).bind fun e5 =>
    asS e5 fun s7 =>
    need (decide (0 ≤ (i13 : Int))) <|
    (l9[Int.toNat i13]?).bind fun e6 =>
    asIIISRA e6 fun i19 i20 i21 s8 l13 =>
    (R id_keepText [AV.str s8, AV.int .i64 12]).bind fun r3 =>
    asS r3.v fun s9 =>
    need (decide (0 ≤ (i13 : Int))) <|
    (l9[Int.toNat i13]?).bind fun e7 =>
    asIIISRA e7 fun i22 i23 i24 s10 l14 =>
    (R id_keepWithin [AV.int .i64 i24, AV.int .i64 8]).bind fun r4 =>
    asI .i64 r4.v fun i25 =>
    need (decide (0 ≤ (i25 : Int))) <|
    (([AV.str ([97] : List UInt8), AV.str ([98] : List UInt8), AV.str ([49] : List UInt8), AV.str ([] : List UInt8), AV.str ([116, 114, 117, 101] : List UInt8), AV.str ([120, 32, 121] : List UInt8), AV.str ([48, 46, 53] : List UInt8), AV.str s9] : List AV)[Int.toNat i25]?).bind fun e8 =>
    asS e8 fun s11 =>
    law18Graph_J4 R N
      (fun l150 b49 i147 l151 =>
    (fun (l160 : List AV) (b53 : Bool) (i159 : Int) (l161 : List AV) => K .normal ⟨[(0, .imm (AV.row 5 l160)), (1, .imm (AV.bool b53)), (5, .own 187 0 l161.length none), (6, .imm (AV.int .i64 i159))], [(187, .row 4 l161 false)]⟩) l150 b49 i147 l151)
       l9 b4 i13 l10 l11 i14 s7 s11)
    else
    bif (i14 : Int) == 2 then
    (need (decide (0 ≤ (i13 : Int))) <|
    (l9[Int.toNat i13]?).bind fun e15 =>
    asIIISRA e15 fun i148 i149 i150 s69 l152 =>
    (R id_keepWithin [AV.int .i64 i149, AV.int .i64 3]).bind fun r11 =>
    asI .i64 r11.v fun i151 =>
    need (decide (0 ≤ (i151 : Int))) <|
    (([AV.str ([33, 33, 115, 101, 113] : List UInt8), AV.str ([33, 33, 115, 101, 113] : List UInt8), AV.str ([33, 121] : List UInt8)] : List AV)[Int.toNat i151]?).bind fun e16 =>
    asS e16 fun s70 =>
    law18Graph_J4 R N
      (fun l153 b50 i152 l154 =>
    (fun (l160 : List AV) (b53 : Bool) (i159 : Int) (l161 : List AV) => K .normal ⟨[(0, .imm (AV.row 5 l160)), (1, .imm (AV.bool b53)), (5, .own 187 0 l161.length none), (6, .imm (AV.int .i64 i159))], [(187, .row 4 l161 false)]⟩) l153 b50 i152 l154)
       l9 b4 i13 l10 l11 i14 s70 s5)
    else
    need (decide (0 ≤ (i13 : Int))) <|
    (l9[Int.toNat i13]?).bind fun e17 =>
    asIIISRA e17 fun i153 i154 i155 s71 l155 =>
    (R id_keepWithin [AV.int .i64 i154, AV.int .i64 3]).bind fun r12 =>
    asI .i64 r12.v fun i156 =>
    need (decide (0 ≤ (i156 : Int))) <|
    (([AV.str ([33, 33, 109, 97, 112] : List UInt8), AV.str ([33, 33, 109, 97, 112] : List UInt8), AV.str ([33, 122] : List UInt8)] : List AV)[Int.toNat i156]?).bind fun e18 =>
    asS e18 fun s72 =>
    law18Graph_J4 R N
      (fun l156 b51 i157 l157 =>
    (fun (l160 : List AV) (b53 : Bool) (i159 : Int) (l161 : List AV) => K .normal ⟨[(0, .imm (AV.row 5 l160)), (1, .imm (AV.bool b53)), (5, .own 187 0 l161.length none), (6, .imm (AV.int .i64 i159))], [(187, .row 4 l161 false)]⟩) l156 b51 i157 l157)
       l9 b4 i13 l10 l11 i14 s72 s5) := by
  refine Eq.trans (b :=
    bif (i14 : Int) == 1 then
    (need (decide (0 ≤ (i13 : Int))) <|
    (l9[Int.toNat i13]?).bind fun e4 =>
    asIIISRA e4 fun i15 i16 i17 s6 l12 =>
    (R id_keepWithin [AV.int .i64 i16, AV.int .i64 6]).bind fun r2 =>
    asI .i64 r2.v fun i18 =>
    need (decide (0 ≤ (i18 : Int))) <|
    (([AV.str ([33, 33, 115, 116, 114] : List UInt8), AV.str ([33, 33, 115, 116, 114] : List UInt8), AV.str ([33, 33, 105, 110, 116] : List UInt8), AV.str ([33, 33, 110, 117, 108, 108] : List UInt8), AV.str ([33, 120] : List UInt8), AV.str ([33, 33, 102, 108, 111, 97, 116] : List UInt8)] : List AV)[Int.toNat i18]?).bind fun e5 =>
    asS e5 fun s7 =>
    need (decide (0 ≤ (i13 : Int))) <|
    (l9[Int.toNat i13]?).bind fun e6 =>
    asIIISRA e6 fun i19 i20 i21 s8 l13 =>
    (R id_keepText [AV.str s8, AV.int .i64 12]).bind fun r3 =>
    asS r3.v fun s9 =>
    need (decide (0 ≤ (i13 : Int))) <|
    (l9[Int.toNat i13]?).bind fun e7 =>
    asIIISRA e7 fun i22 i23 i24 s10 l14 =>
    (R id_keepWithin [AV.int .i64 i24, AV.int .i64 8]).bind fun r4 =>
    asI .i64 r4.v fun i25 =>
    need (decide (0 ≤ (i25 : Int))) <|
    (([AV.str ([97] : List UInt8), AV.str ([98] : List UInt8), AV.str ([49] : List UInt8), AV.str ([] : List UInt8), AV.str ([116, 114, 117, 101] : List UInt8), AV.str ([120, 32, 121] : List UInt8), AV.str ([48, 46, 53] : List UInt8), AV.str s9] : List AV)[Int.toNat i25]?).bind fun e8 =>
    asS e8 fun s11 =>
    runJ [0, 1, 5, 6] [187] (evC gl R N law18Graph_c13) (Kjoin [0, 1, 5, 6] [187] K) N ⟨[(0, .imm (AV.row 5 l9)), (1, .imm (AV.bool b4)), (5, .own 187 0 l11.length none), (6, .imm (AV.int .i64 i13)), (7, .ptr 1007 0 0)], [(171, .row 1 l10 false), (187, .row 4 l11 false), (1007, .box [.imm (AV.int .i64 i14), .imm (AV.str s7), .imm (AV.str s11), .own 171 0 l10.length none])]⟩)
    else
    bif (i14 : Int) == 2 then
    (need (decide (0 ≤ (i13 : Int))) <|
    (l9[Int.toNat i13]?).bind fun e15 =>
    asIIISRA e15 fun i148 i149 i150 s69 l152 =>
    (R id_keepWithin [AV.int .i64 i149, AV.int .i64 3]).bind fun r11 =>
    asI .i64 r11.v fun i151 =>
    need (decide (0 ≤ (i151 : Int))) <|
    (([AV.str ([33, 33, 115, 101, 113] : List UInt8), AV.str ([33, 33, 115, 101, 113] : List UInt8), AV.str ([33, 121] : List UInt8)] : List AV)[Int.toNat i151]?).bind fun e16 =>
    asS e16 fun s70 =>
    runJ [0, 1, 5, 6] [187] (evC gl R N law18Graph_c13) (Kjoin [0, 1, 5, 6] [187] K) N ⟨[(0, .imm (AV.row 5 l9)), (1, .imm (AV.bool b4)), (5, .own 187 0 l11.length none), (6, .imm (AV.int .i64 i13)), (7, .ptr 1007 0 0)], [(171, .row 1 l10 false), (187, .row 4 l11 false), (1007, .box [.imm (AV.int .i64 i14), .imm (AV.str s70), .imm (AV.str s5), .own 171 0 l10.length none])]⟩)
    else
    need (decide (0 ≤ (i13 : Int))) <|
    (l9[Int.toNat i13]?).bind fun e17 =>
    asIIISRA e17 fun i153 i154 i155 s71 l155 =>
    (R id_keepWithin [AV.int .i64 i154, AV.int .i64 3]).bind fun r12 =>
    asI .i64 r12.v fun i156 =>
    need (decide (0 ≤ (i156 : Int))) <|
    (([AV.str ([33, 33, 109, 97, 112] : List UInt8), AV.str ([33, 33, 109, 97, 112] : List UInt8), AV.str ([33, 122] : List UInt8)] : List AV)[Int.toNat i156]?).bind fun e18 =>
    asS e18 fun s72 =>
    runJ [0, 1, 5, 6] [187] (evC gl R N law18Graph_c13) (Kjoin [0, 1, 5, 6] [187] K) N ⟨[(0, .imm (AV.row 5 l9)), (1, .imm (AV.bool b4)), (5, .own 187 0 l11.length none), (6, .imm (AV.int .i64 i13)), (7, .ptr 1007 0 0)], [(171, .row 1 l10 false), (187, .row 4 l11 false), (1007, .box [.imm (AV.int .i64 i14), .imm (AV.str s72), .imm (AV.str s5), .own 171 0 l10.length none])]⟩) (by kernel_rfl) ?_
  simp (config := { maxSteps := 100000000 }) only [law18Graph_J4_eq]
  kernel_rfl
theorem law18Graph_J3_eq (R : Nat → List AV → Option Res) (N : Nat) (K : Ex → St → Option Res) (l9 : List AV) (b4 : Bool) (i13 : Int) (l10 : List AV) (l11 : List AV) (i14 : Int) (s4 : List UInt8) (s5 : List UInt8) :
    runJ [0, 1, 5, 6] [187] (evC gl R N law18Graph_c15) K N ⟨[(0, .imm (AV.row 5 l9)), (1, .imm (AV.bool b4)), (5, .own 187 0 l11.length none), (6, .imm (AV.int .i64 i13)), (7, .ptr 1007 0 0)], [(171, .row 1 l10 false), (187, .row 4 l11 false), (1007, .box [.imm (AV.int .i64 i14), .imm (AV.str s4), .imm (AV.str s5), .own 171 0 l10.length none])]⟩ =
    law18Graph_J3 R N (fun (l158 : List AV) (b52 : Bool) (i158 : Int) (l159 : List AV) => K .normal ⟨[(0, .imm (AV.row 5 l158)), (1, .imm (AV.bool b52)), (5, .own 187 0 l159.length none), (6, .imm (AV.int .i64 i158))], [(187, .row 4 l159 false)]⟩) l9 b4 i13 l10 l11 i14 s4 s5 :=
  (runJ_eq _ _ _ _ _ _).trans (congrArg (posN N) (law18Graph_J3_eq0 R N K l9 b4 i13 l10 l11 i14 s4 s5))
def law18Graph_J12 (R : Nat → List AV → Option Res) (N : Nat) (k0 : List AV → Bool → Int → List AV → Option Res) (l164 : List AV) (b55 : Bool) (i161 : Int) (l165 : List AV) : Option Res :=
  posN N <|
  k0 l164 b55 (IntKind.i64.wrap (i161 + 1)) l165
def law18Graph_c17 : AC := .region [.op (some 24) none (.mv (.t 6)), .op (some 25) none (.bin .add (.t 24) (.k (AV.int .i64 1))), .op (some 6) none (.mv (.t 25))]
def law18Graph_c18 : AC := .meet [0, 1, 5, 6] [187] law18Graph_c17
theorem law18Graph_J12_eq0 (R : Nat → List AV → Option Res) (N : Nat) (K : Ex → St → Option Res) (l164 : List AV) (b55 : Bool) (i161 : Int) (l165 : List AV) :
    evC gl R N law18Graph_c17 (Kjoin [0, 1, 5, 6] [187] K) ⟨[(0, .imm (AV.row 5 l164)), (1, .imm (AV.bool b55)), (5, .own 187 0 l165.length none), (6, .imm (AV.int .i64 i161))], [(187, .row 4 l165 false)]⟩ =
    ((fun (l168 : List AV) (b57 : Bool) (i163 : Int) (l169 : List AV) => K .normal ⟨[(0, .imm (AV.row 5 l168)), (1, .imm (AV.bool b57)), (5, .own 187 0 l169.length none), (6, .imm (AV.int .i64 i163))], [(187, .row 4 l169 false)]⟩) l164 b55 (IntKind.i64.wrap (i161 + 1)) l165) := by
  kernel_rfl
theorem law18Graph_J12_eq (R : Nat → List AV → Option Res) (N : Nat) (K : Ex → St → Option Res) (l164 : List AV) (b55 : Bool) (i161 : Int) (l165 : List AV) :
    runJ [0, 1, 5, 6] [187] (evC gl R N law18Graph_c17) K N ⟨[(0, .imm (AV.row 5 l164)), (1, .imm (AV.bool b55)), (5, .own 187 0 l165.length none), (6, .imm (AV.int .i64 i161))], [(187, .row 4 l165 false)]⟩ =
    law18Graph_J12 R N (fun (l166 : List AV) (b56 : Bool) (i162 : Int) (l167 : List AV) => K .normal ⟨[(0, .imm (AV.row 5 l166)), (1, .imm (AV.bool b56)), (5, .own 187 0 l167.length none), (6, .imm (AV.int .i64 i162))], [(187, .row 4 l167 false)]⟩) l164 b55 i161 l165 :=
  (runJ_eq _ _ _ _ _ _).trans (congrArg (posN N) (law18Graph_J12_eq0 R N K l164 b55 i161 l165))
def law18Graph_J2 (R : Nat → List AV → Option Res) (N : Nat) (k0 : List AV → Bool → Int → List AV → Option Res) (l4 : List AV) (b3 : Bool) (i2 : Int) (l5 : List AV) : Option Res :=
  posN N <|
  need (decide (0 ≤ (i2 : Int))) <|
  (l4[Int.toNat i2]?).bind fun e1 =>
  asIIISRA e1 fun i3 i4 i5 s1 l6 =>
  (R id_keepWithin [AV.int .i64 i3, AV.int .i64 3]).bind fun r1 =>
  asI .i64 r1.v fun i6 =>
  bif b3 then
    (need (decide (0 ≤ (i2 : Int))) <|
    (l4[Int.toNat i2]?).bind fun e2 =>
    asIIISRA e2 fun i7 i8 i9 s2 l7 =>
    need (!decide (5 = 0)) <|
    bif ((Int.tmod i7 5) : Int) == 4 then
    (need (decide (0 ≤ (i2 : Int))) <|
    (l4[Int.toNat i2]?).bind fun e3 =>
    asIIISRA e3 fun i10 i11 i12 s3 l8 =>
    law18Graph_J3 R N
      (fun l162 b54 i160 l163 =>
    law18Graph_J12 R N
      (fun l170 b58 i164 l171 =>
    k0 l170 b58 i164 l171)
       l162 b54 i160 l163)
       l4 b3 i2 [] l5 i10 [] [])
    else
    law18Graph_J3 R N
      (fun l172 b59 i165 l173 =>
    law18Graph_J12 R N
      (fun l174 b60 i166 l175 =>
    k0 l174 b60 i166 l175)
       l172 b59 i165 l173)
       l4 b3 i2 [] l5 (IntKind.i64.wrap (1 + i6)) [] [])
  else
    law18Graph_J3 R N
      (fun l176 b61 i167 l177 =>
    law18Graph_J12 R N
      (fun l178 b62 i168 l179 =>
    k0 l178 b62 i168 l179)
       l176 b61 i167 l177)
       l4 b3 i2 [] l5 (IntKind.i64.wrap (1 + i6)) [] []
def law18Graph_c19 : AC := .seq (.join [0, 1, 5, 6, 7] [171, 187, 1007] (.seq (.region [.op (some 34) none (.mv (.t 1)), .op (some 35) none (.mv (.t 34)), .split 35, .op (some 36) (some (35, true)) (.mv (.t 0)), .op (some 37) (some (35, true)) (.mv (.t 6)), .op (some 38) (some (35, true)) (.iaddr (.t 36) (.t 37) 5 (.agg [.int .i64, .int .i64, .int .i64, .str, .row 1])), .op (some 39) (some (35, true)) (.faddr (.t 38) 0), .op (some 40) (some (35, true)) (.load (.t 39) none (.int .i64)), .op (some 41) (some (35, true)) (.bin .rem (.t 40) (.k (AV.int .i64 5))), .op (some 42) (some (35, true)) (.bin .eql (.t 41) (.k (AV.int .i64 4))), .op (some 43) none (.pick (.t 35) (.t 42) (.k (AV.bool false)))]) (.cond (.t 43) (.region [.op (some 44) none (.mv (.t 0)), .op (some 45) none (.mv (.t 6)), .op (some 46) none (.iaddr (.t 44) (.t 45) 5 (.agg [.int .i64, .int .i64, .int .i64, .str, .row 1])), .op (some 47) none (.faddr (.t 46) 0), .op (some 48) none (.load (.t 47) none (.int .i64)), .op (some 49) none (.faddr (.t 7) 0), .op none none (.store (.t 49) (.t 48) 1)]) (.skip)))) (law18Graph_c16)
def law18Graph_c20 : AC := .ownz 7 3 171 1 (law18Graph_c19)
def law18Graph_c21 : AC := .seq (.join [0, 1, 5, 6] [187] (.block 1 (.seq (.region [.op (some 26) none (.mv (.t 0)), .op (some 27) none (.mv (.t 6)), .op (some 28) none (.iaddr (.t 26) (.t 27) 5 (.agg [.int .i64, .int .i64, .int .i64, .str, .row 1])), .op (some 29) none (.faddr (.t 28) 0), .op (some 30) none (.load (.t 29) none (.int .i64)), .op (some 31) none (.call id_keepWithin [.t 30, .k (AV.int .i64 3)] (.int .i64)), .op (some 32) none (.bin .add (.k (AV.int .i64 1)) (.t 31)), .op (some 33) none (.build [AV.int .i64 0, AV.str [], AV.str [], AV.nilR 1] [(0, 1, .t 32)]), .op (some 7) none (.alloc 1007 [AV.int .i64 0, AV.str [], AV.str [], AV.row 1 []]), .op none none (.store (.t 7) (.t 33) 4)]) (law18Graph_c20)))) (law18Graph_c18)
def law18Graph_c22 : AC := .meet [0, 1, 5, 6] [187] law18Graph_c21
theorem law18Graph_J2_eq0 (R : Nat → List AV → Option Res) (N : Nat) (K : Ex → St → Option Res) (l4 : List AV) (b3 : Bool) (i2 : Int) (l5 : List AV) :
    evC gl R N law18Graph_c21 (Kjoin [0, 1, 5, 6] [187] K) ⟨[(0, .imm (AV.row 5 l4)), (1, .imm (AV.bool b3)), (5, .own 187 0 l5.length none), (6, .imm (AV.int .i64 i2))], [(187, .row 4 l5 false)]⟩ =
    (need (decide (0 ≤ (i2 : Int))) <|
    (l4[Int.toNat i2]?).bind fun e1 =>
    asIIISRA e1 fun i3 i4 i5 s1 l6 =>
    (R id_keepWithin [AV.int .i64 i3, AV.int .i64 3]).bind fun r1 =>
    asI .i64 r1.v fun i6 =>
    bif b3 then
    (need (decide (0 ≤ (i2 : Int))) <|
    (l4[Int.toNat i2]?).bind fun e2 =>
    asIIISRA e2 fun i7 i8 i9 s2 l7 =>
    need (!decide (5 = 0)) <|
    bif ((Int.tmod i7 5) : Int) == 4 then
    (need (decide (0 ≤ (i2 : Int))) <|
    (l4[Int.toNat i2]?).bind fun e3 =>
    asIIISRA e3 fun i10 i11 i12 s3 l8 =>
    law18Graph_J3 R N
      (fun l162 b54 i160 l163 =>
    law18Graph_J12 R N
      (fun l170 b58 i164 l171 =>
    (fun (l182 : List AV) (b64 : Bool) (i170 : Int) (l183 : List AV) => K .normal ⟨[(0, .imm (AV.row 5 l182)), (1, .imm (AV.bool b64)), (5, .own 187 0 l183.length none), (6, .imm (AV.int .i64 i170))], [(187, .row 4 l183 false)]⟩) l170 b58 i164 l171)
       l162 b54 i160 l163)
       l4 b3 i2 [] l5 i10 [] [])
    else
    law18Graph_J3 R N
      (fun l172 b59 i165 l173 =>
    law18Graph_J12 R N
      (fun l174 b60 i166 l175 =>
    (fun (l182 : List AV) (b64 : Bool) (i170 : Int) (l183 : List AV) => K .normal ⟨[(0, .imm (AV.row 5 l182)), (1, .imm (AV.bool b64)), (5, .own 187 0 l183.length none), (6, .imm (AV.int .i64 i170))], [(187, .row 4 l183 false)]⟩) l174 b60 i166 l175)
       l172 b59 i165 l173)
       l4 b3 i2 [] l5 (IntKind.i64.wrap (1 + i6)) [] [])
    else
    law18Graph_J3 R N
      (fun l176 b61 i167 l177 =>
    law18Graph_J12 R N
      (fun l178 b62 i168 l179 =>
    (fun (l182 : List AV) (b64 : Bool) (i170 : Int) (l183 : List AV) => K .normal ⟨[(0, .imm (AV.row 5 l182)), (1, .imm (AV.bool b64)), (5, .own 187 0 l183.length none), (6, .imm (AV.int .i64 i170))], [(187, .row 4 l183 false)]⟩) l178 b62 i168 l179)
       l176 b61 i167 l177)
       l4 b3 i2 [] l5 (IntKind.i64.wrap (1 + i6)) [] []) := by
  refine Eq.trans (b :=
    need (decide (0 ≤ (i2 : Int))) <|
    (l4[Int.toNat i2]?).bind fun e1 =>
    asIIISRA e1 fun i3 i4 i5 s1 l6 =>
    (R id_keepWithin [AV.int .i64 i3, AV.int .i64 3]).bind fun r1 =>
    asI .i64 r1.v fun i6 =>
    bif b3 then
    (need (decide (0 ≤ (i2 : Int))) <|
    (l4[Int.toNat i2]?).bind fun e2 =>
    asIIISRA e2 fun i7 i8 i9 s2 l7 =>
    need (!decide (5 = 0)) <|
    bif ((Int.tmod i7 5) : Int) == 4 then
    (need (decide (0 ≤ (i2 : Int))) <|
    (l4[Int.toNat i2]?).bind fun e3 =>
    asIIISRA e3 fun i10 i11 i12 s3 l8 =>
    runJ [0, 1, 5, 6] [187] (evC gl R N law18Graph_c15) (Kblock 1 (Kjoin [0, 1, 5, 6] [187] (Kthen gl R N law18Graph_c18 (Kjoin [0, 1, 5, 6] [187] K)))) N ⟨[(0, .imm (AV.row 5 l4)), (1, .imm (AV.bool b3)), (5, .own 187 0 l5.length none), (6, .imm (AV.int .i64 i2)), (7, .ptr 1007 0 0)], [(171, .row 1 [] false), (187, .row 4 l5 false), (1007, .box [.imm (AV.int .i64 i10), .imm (AV.str []), .imm (AV.str []), .own 171 0 (([] : List AV).length) none])]⟩)
    else
    runJ [0, 1, 5, 6] [187] (evC gl R N law18Graph_c15) (Kblock 1 (Kjoin [0, 1, 5, 6] [187] (Kthen gl R N law18Graph_c18 (Kjoin [0, 1, 5, 6] [187] K)))) N ⟨[(0, .imm (AV.row 5 l4)), (1, .imm (AV.bool b3)), (5, .own 187 0 l5.length none), (6, .imm (AV.int .i64 i2)), (7, .ptr 1007 0 0)], [(171, .row 1 [] false), (187, .row 4 l5 false), (1007, .box [.imm (AV.int .i64 (IntKind.i64.wrap (1 + i6))), .imm (AV.str []), .imm (AV.str []), .own 171 0 (([] : List AV).length) none])]⟩)
    else
    runJ [0, 1, 5, 6] [187] (evC gl R N law18Graph_c15) (Kblock 1 (Kjoin [0, 1, 5, 6] [187] (Kthen gl R N law18Graph_c18 (Kjoin [0, 1, 5, 6] [187] K)))) N ⟨[(0, .imm (AV.row 5 l4)), (1, .imm (AV.bool b3)), (5, .own 187 0 l5.length none), (6, .imm (AV.int .i64 i2)), (7, .ptr 1007 0 0)], [(171, .row 1 [] false), (187, .row 4 l5 false), (1007, .box [.imm (AV.int .i64 (IntKind.i64.wrap (1 + i6))), .imm (AV.str []), .imm (AV.str []), .own 171 0 (([] : List AV).length) none])]⟩) (by kernel_rfl) ?_
  simp (config := { maxSteps := 100000000 }) only [law18Graph_J12_eq, law18Graph_J3_eq]
  refine Eq.trans (b :=
    need (decide (0 ≤ (i2 : Int))) <|
    (l4[Int.toNat i2]?).bind fun e1 =>
    asIIISRA e1 fun i3 i4 i5 s1 l6 =>
    (R id_keepWithin [AV.int .i64 i3, AV.int .i64 3]).bind fun r1 =>
    asI .i64 r1.v fun i6 =>
    bif b3 then
    (need (decide (0 ≤ (i2 : Int))) <|
    (l4[Int.toNat i2]?).bind fun e2 =>
    asIIISRA e2 fun i7 i8 i9 s2 l7 =>
    need (!decide (5 = 0)) <|
    bif ((Int.tmod i7 5) : Int) == 4 then
    (need (decide (0 ≤ (i2 : Int))) <|
    (l4[Int.toNat i2]?).bind fun e3 =>
    asIIISRA e3 fun i10 i11 i12 s3 l8 =>
    law18Graph_J3 R N
      (fun l162 b54 i160 l163 =>
    runJ [0, 1, 5, 6] [187] (evC gl R N law18Graph_c17) (Kjoin [0, 1, 5, 6] [187] K) N ⟨[(0, .imm (AV.row 5 l162)), (1, .imm (AV.bool b54)), (5, .own 187 0 l163.length none), (6, .imm (AV.int .i64 i160))], [(187, .row 4 l163 false)]⟩)
       l4 b3 i2 [] l5 i10 [] [])
    else
    law18Graph_J3 R N
      (fun l172 b59 i165 l173 =>
    runJ [0, 1, 5, 6] [187] (evC gl R N law18Graph_c17) (Kjoin [0, 1, 5, 6] [187] K) N ⟨[(0, .imm (AV.row 5 l172)), (1, .imm (AV.bool b59)), (5, .own 187 0 l173.length none), (6, .imm (AV.int .i64 i165))], [(187, .row 4 l173 false)]⟩)
       l4 b3 i2 [] l5 (IntKind.i64.wrap (1 + i6)) [] [])
    else
    law18Graph_J3 R N
      (fun l176 b61 i167 l177 =>
    runJ [0, 1, 5, 6] [187] (evC gl R N law18Graph_c17) (Kjoin [0, 1, 5, 6] [187] K) N ⟨[(0, .imm (AV.row 5 l176)), (1, .imm (AV.bool b61)), (5, .own 187 0 l177.length none), (6, .imm (AV.int .i64 i167))], [(187, .row 4 l177 false)]⟩)
       l4 b3 i2 [] l5 (IntKind.i64.wrap (1 + i6)) [] []) (by kernel_rfl) ?_
  simp (config := { maxSteps := 100000000 }) only [law18Graph_J12_eq, law18Graph_J3_eq]
  kernel_rfl
theorem law18Graph_J2_eq (R : Nat → List AV → Option Res) (N : Nat) (K : Ex → St → Option Res) (l4 : List AV) (b3 : Bool) (i2 : Int) (l5 : List AV) :
    runJ [0, 1, 5, 6] [187] (evC gl R N law18Graph_c21) K N ⟨[(0, .imm (AV.row 5 l4)), (1, .imm (AV.bool b3)), (5, .own 187 0 l5.length none), (6, .imm (AV.int .i64 i2))], [(187, .row 4 l5 false)]⟩ =
    law18Graph_J2 R N (fun (l180 : List AV) (b63 : Bool) (i169 : Int) (l181 : List AV) => K .normal ⟨[(0, .imm (AV.row 5 l180)), (1, .imm (AV.bool b63)), (5, .own 187 0 l181.length none), (6, .imm (AV.int .i64 i169))], [(187, .row 4 l181 false)]⟩) l4 b3 i2 l5 :=
  (runJ_eq _ _ _ _ _ _).trans (congrArg (posN N) (law18Graph_J2_eq0 R N K l4 b3 i2 l5))
def law18Graph_L1s (R : Nat → List AV → Option Res) (N : Nat) (go : List AV → Bool → Int → List AV → Option Res) (k0 : Bool → List AV → Option Res) (l2 : List AV) (b2 : Bool) (i1 : Int) (l3 : List AV) : Option Res :=
  bif decide ((i1 : Int) < ((l2.length : Nat) : Int)) then
    (bif decide ((i1 : Int) < 9) then
    (law18Graph_J2 R N
      (fun l184 b65 i171 l185 =>
    go l184 b65 i171 l185)
       l2 b2 i1 l3)
    else
    k0 b2 l3)
  else
    k0 b2 l3
def law18Graph_L1 (R : Nat → List AV → Option Res) (N : Nat) (k0 : Bool → List AV → Option Res) : Nat → List AV → Bool → Int → List AV → Option Res
  | 0, _, _, _, _ => none
  | n + 1, l2, b2, i1, l3 => law18Graph_L1s R N (law18Graph_L1 R N k0 n) k0 l2 b2 i1 l3
def law18Graph_c23 : AC := .seq (.join [0, 1, 5, 6] [187] (.seq (.region [.op (some 16) none (.mv (.t 6)), .op (some 17) none (.mv (.t 0)), .op (some 18) none (.len (.t 17) false), .op (some 19) none (.bin .lss (.t 16) (.t 18)), .op (some 20) none (.mv (.t 19)), .split 20, .op (some 21) (some (20, true)) (.mv (.t 6)), .op (some 22) (some (20, true)) (.bin .lss (.t 21) (.k (AV.int .i64 9))), .op (some 23) none (.pick (.t 20) (.t 22) (.k (AV.bool false)))]) (.cond (.t 23) (.skip) (.exit 0 [1, 5] [187])))) (law18Graph_c22)
theorem law18Graph_L1s_eq (R : Nat → List AV → Option Res) (N : Nat) (K : Ex → St → Option Res) (W : St → Option Res) (l2 : List AV) (b2 : Bool) (i1 : Int) (l3 : List AV) :
    evC gl R N law18Graph_c23 (Kseq (fun st' => W (prune [0, 1, 5, 6] [187] st')) K) ⟨[(0, .imm (AV.row 5 l2)), (1, .imm (AV.bool b2)), (5, .own 187 0 l3.length none), (6, .imm (AV.int .i64 i1))], [(187, .row 4 l3 false)]⟩ =
    law18Graph_L1s R N (fun (l2 : List AV) (b2 : Bool) (i1 : Int) (l3 : List AV) => W ⟨[(0, .imm (AV.row 5 l2)), (1, .imm (AV.bool b2)), (5, .own 187 0 l3.length none), (6, .imm (AV.int .i64 i1))], [(187, .row 4 l3 false)]⟩) (fun (b66 : Bool) (l186 : List AV) => K (.exit 0) ⟨[(1, .imm (AV.bool b66)), (5, .own 187 0 l186.length none)], [(187, .row 4 l186 false)]⟩) l2 b2 i1 l3 := by
  refine Eq.trans (b :=
    bif decide ((i1 : Int) < ((l2.length : Nat) : Int)) then
    (bif decide ((i1 : Int) < 9) then
    (runJ [0, 1, 5, 6] [187] (evC gl R N law18Graph_c21) (Kseq (fun st' => W (prune [0, 1, 5, 6] [187] st')) K) N ⟨[(0, .imm (AV.row 5 l2)), (1, .imm (AV.bool b2)), (5, .own 187 0 l3.length none), (6, .imm (AV.int .i64 i1))], [(187, .row 4 l3 false)]⟩)
    else
    (fun (b67 : Bool) (l187 : List AV) => K (.exit 0) ⟨[(1, .imm (AV.bool b67)), (5, .own 187 0 l187.length none)], [(187, .row 4 l187 false)]⟩) b2 l3)
    else
    (fun (b67 : Bool) (l187 : List AV) => K (.exit 0) ⟨[(1, .imm (AV.bool b67)), (5, .own 187 0 l187.length none)], [(187, .row 4 l187 false)]⟩) b2 l3) (by kernel_rfl) ?_
  simp (config := { maxSteps := 100000000 }) only [law18Graph_J2_eq]
  kernel_rfl
theorem law18Graph_L1_eq (R : Nat → List AV → Option Res) (N : Nat) (K : Ex → St → Option Res) : ∀ (n : Nat) (l2 : List AV) (b2 : Bool) (i1 : Int) (l3 : List AV),
    rounds [0, 1, 5, 6] [187] (evC gl R N law18Graph_c23) K n ⟨[(0, .imm (AV.row 5 l2)), (1, .imm (AV.bool b2)), (5, .own 187 0 l3.length none), (6, .imm (AV.int .i64 i1))], [(187, .row 4 l3 false)]⟩ = law18Graph_L1 R N (fun (b66 : Bool) (l186 : List AV) => K (.exit 0) ⟨[(1, .imm (AV.bool b66)), (5, .own 187 0 l186.length none)], [(187, .row 4 l186 false)]⟩) n l2 b2 i1 l3
  | 0, _, _, _, _ => rfl
  | n + 1, l2, b2, i1, l3 => (law18Graph_L1s_eq R N K (rounds [0, 1, 5, 6] [187] (evC gl R N law18Graph_c23) K n) l2 b2 i1 l3).trans
      (congrArg (fun go => law18Graph_L1s R N go (fun (b66 : Bool) (l186 : List AV) => K (.exit 0) ⟨[(1, .imm (AV.bool b66)), (5, .own 187 0 l186.length none)], [(187, .row 4 l186 false)]⟩) l2 b2 i1 l3) (funext fun l2 => funext fun b2 => funext fun i1 => funext fun l3 => law18Graph_L1_eq R N K n l2 b2 i1 l3))
def law18Graph_J17 (R : Nat → List AV → Option Res) (N : Nat) (k0 : Nat → Int → Int → List AV → Option Res) (n13 : Nat) (i254 : Int) (i255 : Int) (l235 : List AV) : Option Res :=
  posN N <|
  k0 n13 i254 (IntKind.i64.wrap (i255 + 1)) l235
def law18Graph_c24 : AC := .region [.op (some 231) none (.bin .add (.t 190) (.k (AV.int .i64 1))), .op (some 190) none (.mv (.t 231))]
def law18Graph_c25 : AC := .meet [5, 189, 190] [187] law18Graph_c24
theorem law18Graph_J17_eq0 (R : Nat → List AV → Option Res) (N : Nat) (K : Ex → St → Option Res) (n13 : Nat) (i254 : Int) (i255 : Int) (l235 : List AV) :
    evC gl R N law18Graph_c24 (Kjoin [5, 189, 190] [187] K) ⟨[(5, .own 187 0 n13 none), (189, .imm (AV.int .i64 i254)), (190, .imm (AV.int .i64 i255))], [(187, .row 4 l235 false)]⟩ =
    ((fun (n15 : Nat) (i258 : Int) (i259 : Int) (l237 : List AV) => K .normal ⟨[(5, .own 187 0 n15 none), (189, .imm (AV.int .i64 i258)), (190, .imm (AV.int .i64 i259))], [(187, .row 4 l237 false)]⟩) n13 i254 (IntKind.i64.wrap (i255 + 1)) l235) := by
  kernel_rfl
theorem law18Graph_J17_eq (R : Nat → List AV → Option Res) (N : Nat) (K : Ex → St → Option Res) (n13 : Nat) (i254 : Int) (i255 : Int) (l235 : List AV) :
    runJ [5, 189, 190] [187] (evC gl R N law18Graph_c24) K N ⟨[(5, .own 187 0 n13 none), (189, .imm (AV.int .i64 i254)), (190, .imm (AV.int .i64 i255))], [(187, .row 4 l235 false)]⟩ =
    law18Graph_J17 R N (fun (n14 : Nat) (i256 : Int) (i257 : Int) (l236 : List AV) => K .normal ⟨[(5, .own 187 0 n14 none), (189, .imm (AV.int .i64 i256)), (190, .imm (AV.int .i64 i257))], [(187, .row 4 l236 false)]⟩) n13 i254 i255 l235 :=
  (runJ_eq _ _ _ _ _ _).trans (congrArg (posN N) (law18Graph_J17_eq0 R N K n13 i254 i255 l235))
def law18Graph_J20 (R : Nat → List AV → Option Res) (N : Nat) (k0 : Nat → Int → Nat → Int → Int → List AV → Int → Int → List AV → List AV → Option Res) (n22 : Nat) (i296 : Int) (n23 : Nat) (i297 : Int) (i298 : Int) (l259 : List AV) (i299 : Int) (i300 : Int) (l260 : List AV) (l261 : List AV) : Option Res :=
  posN N <|
  need (decide (0 ≤ (i300 : Int))) <|
  (l259[Int.toNat i300]?).bind fun e26 =>
  asI .i64 e26 fun i301 =>
  need (decide (((l260.drop 0).take n23).length + [AV.int .i64 ((n22 : Nat) : Int), AV.int .i64 i301].length ≤ 1099511627776)) <|
  need (decide (0 ≤ (IntKind.u8.wrap (IntKind.i64.wrap (97 + i300)) : Int)) && decide ((IntKind.u8.wrap (IntKind.i64.wrap (97 + i300)) : Int) < 256)) <|
  need (decide (((l261.drop 0).take n22).length + [AV.agg [AV.int .i64 1, AV.str ([33, 33, 115, 116, 114] : List UInt8), AV.str [UInt8.ofNat (Int.toNat (IntKind.u8.wrap (IntKind.i64.wrap (97 + i300))))], AV.row 1 []]].length ≤ 1099511627776)) <|
  k0 ((((l261.drop 0).take n22) ++ [AV.agg [AV.int .i64 1, AV.str ([33, 33, 115, 116, 114] : List UInt8), AV.str [UInt8.ofNat (Int.toNat (IntKind.u8.wrap (IntKind.i64.wrap (97 + i300))))], AV.row 1 []]]).length) i296 ((((l260.drop 0).take n23) ++ [AV.int .i64 ((n22 : Nat) : Int), AV.int .i64 i301]).length) i297 i298 l259 i299 (IntKind.i64.wrap (i300 + 1)) (((l260.drop 0).take n23) ++ [AV.int .i64 ((n22 : Nat) : Int), AV.int .i64 i301]) (((l261.drop 0).take n22) ++ [AV.agg [AV.int .i64 1, AV.str ([33, 33, 115, 116, 114] : List UInt8), AV.str [UInt8.ofNat (Int.toNat (IntKind.u8.wrap (IntKind.i64.wrap (97 + i300))))], AV.row 1 []]])
def law18Graph_c26 : AC := .seq (.block 8 (.seq (.region [.op (some 207) none (.mv (.t 205)), .op (some 208) none (.iaddr (.t 203) (.t 205) 1 (.int .i64)), .op (some 209) none (.load (.t 208) none (.int .i64)), .op (some 14) none (.mv (.t 207)), .op (some 15) none (.mv (.t 209))]) (.seq (.region [.op (some 210) none (.mv (.t 13)), .op (some 211) none (.mv (.t 5)), .op (some 212) none (.len (.t 211) false), .op (some 213) none (.mv (.t 15)), .op (some 214) none (.bslice [.t 212, .t 213] 1 false), .op (some 215) none (.app 13 (.t 210) (.t 214) 1 .any false), .op (some 13) none (.mv (.t 215))]) (.region [.op (some 216) none (.mv (.t 5)), .op (some 217) none (.mv (.t 14)), .op (some 218) none (.bin .add (.k (AV.int .i64 97)) (.t 217)), .op (some 219) none (.cvInt .u8 (.t 218)), .op (some 220) none (.bslice [.t 219] 1 true), .op (some 221) none (.cvStr (.t 220)), .op (some 222) none (.build [AV.int .i64 0, AV.str [], AV.str [], AV.row 1 []] [(0, 1, .k (AV.int .i64 1)), (1, 1, .k (AV.str ([33, 33, 115, 116, 114] : List UInt8))), (2, 1, .t 221)]), .op (some 223) none (.bslice [.t 222] 4 false), .op (some 224) none (.app 187 (.t 216) (.t 223) 4 .any false), .op (some 5) none (.mv (.t 224))])))) (.region [.op (some 225) none (.bin .add (.t 205) (.k (AV.int .i64 1))), .op (some 205) none (.mv (.t 225))])
def law18Graph_c27 : AC := .meet [5, 12, 13, 189, 190, 203, 204, 205] [13, 187] law18Graph_c26
theorem law18Graph_J20_eq0 (R : Nat → List AV → Option Res) (N : Nat) (K : Ex → St → Option Res) (n22 : Nat) (i296 : Int) (n23 : Nat) (i297 : Int) (i298 : Int) (l259 : List AV) (i299 : Int) (i300 : Int) (l260 : List AV) (l261 : List AV) :
    evC gl R N law18Graph_c26 (Kjoin [5, 12, 13, 189, 190, 203, 204, 205] [13, 187] K) ⟨[(5, .own 187 0 n22 none), (12, .imm (AV.int .i64 i296)), (13, .own 13 0 n23 none), (189, .imm (AV.int .i64 i297)), (190, .imm (AV.int .i64 i298)), (203, .imm (AV.row 1 l259)), (204, .imm (AV.int .i64 i299)), (205, .imm (AV.int .i64 i300))], [(13, .row 1 l260 false), (187, .row 4 l261 false)]⟩ =
    (need (decide (0 ≤ (i300 : Int))) <|
    (l259[Int.toNat i300]?).bind fun e26 =>
    asI .i64 e26 fun i301 =>
    need (decide (((l260.drop 0).take n23).length + [AV.int .i64 ((n22 : Nat) : Int), AV.int .i64 i301].length ≤ 1099511627776)) <|
    need (decide (0 ≤ (IntKind.u8.wrap (IntKind.i64.wrap (97 + i300)) : Int)) && decide ((IntKind.u8.wrap (IntKind.i64.wrap (97 + i300)) : Int) < 256)) <|
    need (decide (((l261.drop 0).take n22).length + [AV.agg [AV.int .i64 1, AV.str ([33, 33, 115, 116, 114] : List UInt8), AV.str [UInt8.ofNat (Int.toNat (IntKind.u8.wrap (IntKind.i64.wrap (97 + i300))))], AV.row 1 []]].length ≤ 1099511627776)) <|
    (fun (n26 : Nat) (i307 : Int) (n27 : Nat) (i308 : Int) (i309 : Int) (l265 : List AV) (i310 : Int) (i311 : Int) (l266 : List AV) (l267 : List AV) => K .normal ⟨[(5, .own 187 0 n26 none), (12, .imm (AV.int .i64 i307)), (13, .own 13 0 n27 none), (189, .imm (AV.int .i64 i308)), (190, .imm (AV.int .i64 i309)), (203, .imm (AV.row 1 l265)), (204, .imm (AV.int .i64 i310)), (205, .imm (AV.int .i64 i311))], [(13, .row 1 l266 false), (187, .row 4 l267 false)]⟩) ((((l261.drop 0).take n22) ++ [AV.agg [AV.int .i64 1, AV.str ([33, 33, 115, 116, 114] : List UInt8), AV.str [UInt8.ofNat (Int.toNat (IntKind.u8.wrap (IntKind.i64.wrap (97 + i300))))], AV.row 1 []]]).length) i296 ((((l260.drop 0).take n23) ++ [AV.int .i64 ((n22 : Nat) : Int), AV.int .i64 i301]).length) i297 i298 l259 i299 (IntKind.i64.wrap (i300 + 1)) (((l260.drop 0).take n23) ++ [AV.int .i64 ((n22 : Nat) : Int), AV.int .i64 i301]) (((l261.drop 0).take n22) ++ [AV.agg [AV.int .i64 1, AV.str ([33, 33, 115, 116, 114] : List UInt8), AV.str [UInt8.ofNat (Int.toNat (IntKind.u8.wrap (IntKind.i64.wrap (97 + i300))))], AV.row 1 []]])) := by
  kernel_rfl
theorem law18Graph_J20_eq (R : Nat → List AV → Option Res) (N : Nat) (K : Ex → St → Option Res) (n22 : Nat) (i296 : Int) (n23 : Nat) (i297 : Int) (i298 : Int) (l259 : List AV) (i299 : Int) (i300 : Int) (l260 : List AV) (l261 : List AV) :
    runJ [5, 12, 13, 189, 190, 203, 204, 205] [13, 187] (evC gl R N law18Graph_c26) K N ⟨[(5, .own 187 0 n22 none), (12, .imm (AV.int .i64 i296)), (13, .own 13 0 n23 none), (189, .imm (AV.int .i64 i297)), (190, .imm (AV.int .i64 i298)), (203, .imm (AV.row 1 l259)), (204, .imm (AV.int .i64 i299)), (205, .imm (AV.int .i64 i300))], [(13, .row 1 l260 false), (187, .row 4 l261 false)]⟩ =
    law18Graph_J20 R N (fun (n24 : Nat) (i302 : Int) (n25 : Nat) (i303 : Int) (i304 : Int) (l262 : List AV) (i305 : Int) (i306 : Int) (l263 : List AV) (l264 : List AV) => K .normal ⟨[(5, .own 187 0 n24 none), (12, .imm (AV.int .i64 i302)), (13, .own 13 0 n25 none), (189, .imm (AV.int .i64 i303)), (190, .imm (AV.int .i64 i304)), (203, .imm (AV.row 1 l262)), (204, .imm (AV.int .i64 i305)), (205, .imm (AV.int .i64 i306))], [(13, .row 1 l263 false), (187, .row 4 l264 false)]⟩) n22 i296 n23 i297 i298 l259 i299 i300 l260 l261 :=
  (runJ_eq _ _ _ _ _ _).trans (congrArg (posN N) (law18Graph_J20_eq0 R N K n22 i296 n23 i297 i298 l259 i299 i300 l260 l261))
def law18Graph_L19s (R : Nat → List AV → Option Res) (N : Nat) (go : Nat → Int → Nat → Int → Int → List AV → Int → Int → List AV → List AV → Option Res) (k0 : Nat → Int → Nat → Int → Int → List AV → List AV → Option Res) (n20 : Nat) (i291 : Int) (n21 : Nat) (i292 : Int) (i293 : Int) (l256 : List AV) (i294 : Int) (i295 : Int) (l257 : List AV) (l258 : List AV) : Option Res :=
  bif decide ((i295 : Int) < i294) then
    (law18Graph_J20 R N
      (fun n28 i312 n29 i313 i314 l268 i315 i316 l269 l270 =>
    go n28 i312 n29 i313 i314 l268 i315 i316 l269 l270)
       n20 i291 n21 i292 i293 l256 i294 i295 l257 l258)
  else
    k0 n20 i291 n21 i292 i293 l257 l258
def law18Graph_L19 (R : Nat → List AV → Option Res) (N : Nat) (k0 : Nat → Int → Nat → Int → Int → List AV → List AV → Option Res) : Nat → Nat → Int → Nat → Int → Int → List AV → Int → Int → List AV → List AV → Option Res
  | 0, _, _, _, _, _, _, _, _, _, _ => none
  | n + 1, n20, i291, n21, i292, i293, l256, i294, i295, l257, l258 => law18Graph_L19s R N (law18Graph_L19 R N k0 n) k0 n20 i291 n21 i292 i293 l256 i294 i295 l257 l258
def law18Graph_c28 : AC := .seq (.region [.op (some 206) none (.bin .lss (.t 205) (.t 204))]) (.seq (.join [5, 12, 13, 189, 190, 203, 204, 205] [13, 187] (.cond (.t 206) (.skip) (.exit 7 [5, 12, 13, 189, 190] [13, 187]))) (law18Graph_c27))
theorem law18Graph_L19s_eq (R : Nat → List AV → Option Res) (N : Nat) (K : Ex → St → Option Res) (W : St → Option Res) (n20 : Nat) (i291 : Int) (n21 : Nat) (i292 : Int) (i293 : Int) (l256 : List AV) (i294 : Int) (i295 : Int) (l257 : List AV) (l258 : List AV) :
    evC gl R N law18Graph_c28 (Kseq (fun st' => W (prune [5, 12, 13, 189, 190, 203, 204, 205] [13, 187] st')) K) ⟨[(5, .own 187 0 n20 none), (12, .imm (AV.int .i64 i291)), (13, .own 13 0 n21 none), (189, .imm (AV.int .i64 i292)), (190, .imm (AV.int .i64 i293)), (203, .imm (AV.row 1 l256)), (204, .imm (AV.int .i64 i294)), (205, .imm (AV.int .i64 i295))], [(13, .row 1 l257 false), (187, .row 4 l258 false)]⟩ =
    law18Graph_L19s R N (fun (n20 : Nat) (i291 : Int) (n21 : Nat) (i292 : Int) (i293 : Int) (l256 : List AV) (i294 : Int) (i295 : Int) (l257 : List AV) (l258 : List AV) => W ⟨[(5, .own 187 0 n20 none), (12, .imm (AV.int .i64 i291)), (13, .own 13 0 n21 none), (189, .imm (AV.int .i64 i292)), (190, .imm (AV.int .i64 i293)), (203, .imm (AV.row 1 l256)), (204, .imm (AV.int .i64 i294)), (205, .imm (AV.int .i64 i295))], [(13, .row 1 l257 false), (187, .row 4 l258 false)]⟩) (fun (n30 : Nat) (i317 : Int) (n31 : Nat) (i318 : Int) (i319 : Int) (l271 : List AV) (l272 : List AV) => K (.exit 7) ⟨[(5, .own 187 0 n30 none), (12, .imm (AV.int .i64 i317)), (13, .own 13 0 n31 none), (189, .imm (AV.int .i64 i318)), (190, .imm (AV.int .i64 i319))], [(13, .row 1 l271 false), (187, .row 4 l272 false)]⟩) n20 i291 n21 i292 i293 l256 i294 i295 l257 l258 := by
  refine Eq.trans (b :=
    bif decide ((i295 : Int) < i294) then
    (runJ [5, 12, 13, 189, 190, 203, 204, 205] [13, 187] (evC gl R N law18Graph_c26) (Kseq (fun st' => W (prune [5, 12, 13, 189, 190, 203, 204, 205] [13, 187] st')) K) N ⟨[(5, .own 187 0 n20 none), (12, .imm (AV.int .i64 i291)), (13, .own 13 0 n21 none), (189, .imm (AV.int .i64 i292)), (190, .imm (AV.int .i64 i293)), (203, .imm (AV.row 1 l256)), (204, .imm (AV.int .i64 i294)), (205, .imm (AV.int .i64 i295))], [(13, .row 1 l257 false), (187, .row 4 l258 false)]⟩)
    else
    (fun (n32 : Nat) (i320 : Int) (n33 : Nat) (i321 : Int) (i322 : Int) (l273 : List AV) (l274 : List AV) => K (.exit 7) ⟨[(5, .own 187 0 n32 none), (12, .imm (AV.int .i64 i320)), (13, .own 13 0 n33 none), (189, .imm (AV.int .i64 i321)), (190, .imm (AV.int .i64 i322))], [(13, .row 1 l273 false), (187, .row 4 l274 false)]⟩) n20 i291 n21 i292 i293 l257 l258) (by kernel_rfl) ?_
  simp (config := { maxSteps := 100000000 }) only [law18Graph_J20_eq]
  kernel_rfl
theorem law18Graph_L19_eq (R : Nat → List AV → Option Res) (N : Nat) (K : Ex → St → Option Res) : ∀ (n : Nat) (n20 : Nat) (i291 : Int) (n21 : Nat) (i292 : Int) (i293 : Int) (l256 : List AV) (i294 : Int) (i295 : Int) (l257 : List AV) (l258 : List AV),
    rounds [5, 12, 13, 189, 190, 203, 204, 205] [13, 187] (evC gl R N law18Graph_c28) K n ⟨[(5, .own 187 0 n20 none), (12, .imm (AV.int .i64 i291)), (13, .own 13 0 n21 none), (189, .imm (AV.int .i64 i292)), (190, .imm (AV.int .i64 i293)), (203, .imm (AV.row 1 l256)), (204, .imm (AV.int .i64 i294)), (205, .imm (AV.int .i64 i295))], [(13, .row 1 l257 false), (187, .row 4 l258 false)]⟩ = law18Graph_L19 R N (fun (n30 : Nat) (i317 : Int) (n31 : Nat) (i318 : Int) (i319 : Int) (l271 : List AV) (l272 : List AV) => K (.exit 7) ⟨[(5, .own 187 0 n30 none), (12, .imm (AV.int .i64 i317)), (13, .own 13 0 n31 none), (189, .imm (AV.int .i64 i318)), (190, .imm (AV.int .i64 i319))], [(13, .row 1 l271 false), (187, .row 4 l272 false)]⟩) n n20 i291 n21 i292 i293 l256 i294 i295 l257 l258
  | 0, _, _, _, _, _, _, _, _, _, _ => rfl
  | n + 1, n20, i291, n21, i292, i293, l256, i294, i295, l257, l258 => (law18Graph_L19s_eq R N K (rounds [5, 12, 13, 189, 190, 203, 204, 205] [13, 187] (evC gl R N law18Graph_c28) K n) n20 i291 n21 i292 i293 l256 i294 i295 l257 l258).trans
      (congrArg (fun go => law18Graph_L19s R N go (fun (n30 : Nat) (i317 : Int) (n31 : Nat) (i318 : Int) (i319 : Int) (l271 : List AV) (l272 : List AV) => K (.exit 7) ⟨[(5, .own 187 0 n30 none), (12, .imm (AV.int .i64 i317)), (13, .own 13 0 n31 none), (189, .imm (AV.int .i64 i318)), (190, .imm (AV.int .i64 i319))], [(13, .row 1 l271 false), (187, .row 4 l272 false)]⟩) n20 i291 n21 i292 i293 l256 i294 i295 l257 l258) (funext fun n20 => funext fun i291 => funext fun n21 => funext fun i292 => funext fun i293 => funext fun l256 => funext fun i294 => funext fun i295 => funext fun l257 => funext fun l258 => law18Graph_L19_eq R N K n n20 i291 n21 i292 i293 l256 i294 i295 l257 l258))
def law18Graph_J18 (R : Nat → List AV → Option Res) (N : Nat) (k0 : Nat → Int → Int → List AV → Option Res) (n17 : Nat) (i262 : Int) (i263 : Int) (i264 : Int) (l239 : List AV) : Option Res :=
  posN N <|
  need (decide (0 ≤ (i262 : Int)) && decide ((i262 : Int) < ((n17 : Nat) : Int))) <|
  (l239[0 + Int.toNat i262]?).bind fun e24 =>
  (e24.flat[3]?).bind fun v4 =>
  asR 1 v4 fun l240 =>
  law18Graph_L19 R N
    (fun n34 i323 n35 i324 i325 l275 l276 =>
    need (decide (0 ≤ (i323 : Int)) && decide ((i323 : Int) < ((n34 : Nat) : Int))) <|
    (l276[0 + Int.toNat i323]?).bind fun e27 =>
    needSt e27 (AV.row 1 ((l275.drop 0).take n35)) 3 1 <|
    k0 n34 i324 i325 (l276.set (0 + Int.toNat i323) (.agg (putCells e27.flat 3 (AV.flat (AV.row 1 ((l275.drop 0).take n35)))))))
    N n17 i262 0 i263 i264 l240 ((l240.length : Nat) : Int) 0 [] l239
def law18Graph_c29 : AC := .region [.op (some 226) none (.mv (.t 5)), .op (some 227) none (.mv (.t 12)), .op (some 228) none (.mv (.t 13)), .op (some 229) none (.iaddr (.t 226) (.t 227) 4 (.agg [.int .i64, .str, .str, .row 1])), .op (some 230) none (.faddr (.t 229) 3), .op none none (.store (.t 230) (.t 228) 1)]
def law18Graph_c30 : AC := .seq (.region [.op (some 13) none (.nilOwn 13 (some (1, .any)))]) (.seq (.seq (.region [.op (some 199) none (.mv (.t 5)), .op (some 200) none (.mv (.t 12)), .op (some 201) none (.iaddr (.t 199) (.t 200) 4 (.agg [.int .i64, .str, .str, .row 1])), .op (some 202) none (.faddr (.t 201) 3), .op (some 203) none (.load (.t 202) none (.row 1)), .op (some 204) none (.len (.t 203) false), .op (some 205) none (.mv (.k (AV.int .i64 0)))]) (.block 7 (.loop [5, 12, 13, 189, 190, 203, 204, 205] [13, 187] (law18Graph_c28)))) (law18Graph_c29))
def law18Graph_c31 : AC := .meet [5, 189, 190] [187] law18Graph_c30
theorem law18Graph_J18_eq0 (R : Nat → List AV → Option Res) (N : Nat) (K : Ex → St → Option Res) (n17 : Nat) (i262 : Int) (i263 : Int) (i264 : Int) (l239 : List AV) :
    evC gl R N law18Graph_c30 (Kjoin [5, 189, 190] [187] K) ⟨[(5, .own 187 0 n17 none), (12, .imm (AV.int .i64 i262)), (189, .imm (AV.int .i64 i263)), (190, .imm (AV.int .i64 i264))], [(187, .row 4 l239 false)]⟩ =
    (need (decide (0 ≤ (i262 : Int)) && decide ((i262 : Int) < ((n17 : Nat) : Int))) <|
    (l239[0 + Int.toNat i262]?).bind fun e24 =>
    (e24.flat[3]?).bind fun v4 =>
    asR 1 v4 fun l240 =>
    law18Graph_L19 R N
      (fun n34 i323 n35 i324 i325 l275 l276 =>
    need (decide (0 ≤ (i323 : Int)) && decide ((i323 : Int) < ((n34 : Nat) : Int))) <|
    (l276[0 + Int.toNat i323]?).bind fun e27 =>
    needSt e27 (AV.row 1 ((l275.drop 0).take n35)) 3 1 <|
    (fun (n37 : Nat) (i328 : Int) (i329 : Int) (l278 : List AV) => K .normal ⟨[(5, .own 187 0 n37 none), (189, .imm (AV.int .i64 i328)), (190, .imm (AV.int .i64 i329))], [(187, .row 4 l278 false)]⟩) n34 i324 i325 (l276.set (0 + Int.toNat i323) (.agg (putCells e27.flat 3 (AV.flat (AV.row 1 ((l275.drop 0).take n35)))))))
      N n17 i262 0 i263 i264 l240 ((l240.length : Nat) : Int) 0 [] l239) := by
  refine Eq.trans (b :=
    need (decide (0 ≤ (i262 : Int)) && decide ((i262 : Int) < ((n17 : Nat) : Int))) <|
    (l239[0 + Int.toNat i262]?).bind fun e24 =>
    (e24.flat[3]?).bind fun v4 =>
    asR 1 v4 fun l240 =>
    rounds [5, 12, 13, 189, 190, 203, 204, 205] [13, 187] (evC gl R N law18Graph_c28) (Kblock 7 (Kthen gl R N law18Graph_c29 (Kjoin [5, 189, 190] [187] K))) N ⟨[(5, .own 187 0 n17 none), (12, .imm (AV.int .i64 i262)), (13, .own 13 0 0 none), (189, .imm (AV.int .i64 i263)), (190, .imm (AV.int .i64 i264)), (203, .imm (AV.row 1 l240)), (204, .imm (AV.int .i64 ((l240.length : Nat) : Int))), (205, .imm (AV.int .i64 0))], [(13, .row 1 [] false), (187, .row 4 l239 false)]⟩) (by kernel_rfl) ?_
  simp (config := { maxSteps := 100000000 }) only [law18Graph_L19_eq]
  kernel_rfl
theorem law18Graph_J18_eq (R : Nat → List AV → Option Res) (N : Nat) (K : Ex → St → Option Res) (n17 : Nat) (i262 : Int) (i263 : Int) (i264 : Int) (l239 : List AV) :
    runJ [5, 189, 190] [187] (evC gl R N law18Graph_c30) K N ⟨[(5, .own 187 0 n17 none), (12, .imm (AV.int .i64 i262)), (189, .imm (AV.int .i64 i263)), (190, .imm (AV.int .i64 i264))], [(187, .row 4 l239 false)]⟩ =
    law18Graph_J18 R N (fun (n36 : Nat) (i326 : Int) (i327 : Int) (l277 : List AV) => K .normal ⟨[(5, .own 187 0 n36 none), (189, .imm (AV.int .i64 i326)), (190, .imm (AV.int .i64 i327))], [(187, .row 4 l277 false)]⟩) n17 i262 i263 i264 l239 :=
  (runJ_eq _ _ _ _ _ _).trans (congrArg (posN N) (law18Graph_J18_eq0 R N K n17 i262 i263 i264 l239))
def law18Graph_J16 (R : Nat → List AV → Option Res) (N : Nat) (k0 : Nat → Int → Int → List AV → Option Res) (n12 : Nat) (i251 : Int) (i252 : Int) (l234 : List AV) : Option Res :=
  posN N <|
  need (decide (0 ≤ (i252 : Int)) && decide ((i252 : Int) < ((n12 : Nat) : Int))) <|
  (l234[0 + Int.toNat i252]?).bind fun e23 =>
  (e23.flat[0]?).bind fun v3 =>
  asI .i64 v3 fun i253 =>
  bif (i253 : Int) != 3 then
    (law18Graph_J17 R N
      (fun n16 i260 i261 l238 =>
    k0 n16 i260 i261 l238)
       n12 i251 i252 l234)
  else
    law18Graph_J18 R N
      (fun n38 i330 i331 l279 =>
    law18Graph_J17 R N
      (fun n39 i332 i333 l280 =>
    k0 n39 i332 i333 l280)
       n38 i330 i331 l279)
       n12 i252 i251 i252 l234
def law18Graph_c32 : AC := .seq (.join [5, 189, 190] [187] (.block 6 (.seq (.region [.op (some 192) none (.mv (.t 190)), .op (some 12) none (.mv (.t 192))]) (.seq (.join [5, 12, 189, 190] [187] (.seq (.region [.op (some 193) none (.mv (.t 5)), .op (some 194) none (.mv (.t 12)), .op (some 195) none (.iaddr (.t 193) (.t 194) 4 (.agg [.int .i64, .str, .str, .row 1])), .op (some 196) none (.faddr (.t 195) 0), .op (some 197) none (.load (.t 196) none (.int .i64)), .op (some 198) none (.bin .neq (.t 197) (.k (AV.int .i64 3)))]) (.cond (.t 198) (.exit 6 [5, 189, 190] [187]) (.skip)))) (law18Graph_c31))))) (law18Graph_c25)
def law18Graph_c33 : AC := .meet [5, 189, 190] [187] law18Graph_c32
theorem law18Graph_J16_eq0 (R : Nat → List AV → Option Res) (N : Nat) (K : Ex → St → Option Res) (n12 : Nat) (i251 : Int) (i252 : Int) (l234 : List AV) :
    evC gl R N law18Graph_c32 (Kjoin [5, 189, 190] [187] K) ⟨[(5, .own 187 0 n12 none), (189, .imm (AV.int .i64 i251)), (190, .imm (AV.int .i64 i252))], [(187, .row 4 l234 false)]⟩ =
    (need (decide (0 ≤ (i252 : Int)) && decide ((i252 : Int) < ((n12 : Nat) : Int))) <|
    (l234[0 + Int.toNat i252]?).bind fun e23 =>
    (e23.flat[0]?).bind fun v3 =>
    asI .i64 v3 fun i253 =>
    bif (i253 : Int) != 3 then
    (law18Graph_J17 R N
      (fun n16 i260 i261 l238 =>
    (fun (n41 : Nat) (i336 : Int) (i337 : Int) (l282 : List AV) => K .normal ⟨[(5, .own 187 0 n41 none), (189, .imm (AV.int .i64 i336)), (190, .imm (AV.int .i64 i337))], [(187, .row 4 l282 false)]⟩) n16 i260 i261 l238)
       n12 i251 i252 l234)
    else
    law18Graph_J18 R N
      (fun n38 i330 i331 l279 =>
    law18Graph_J17 R N
      (fun n39 i332 i333 l280 =>
    (fun (n41 : Nat) (i336 : Int) (i337 : Int) (l282 : List AV) => K .normal ⟨[(5, .own 187 0 n41 none), (189, .imm (AV.int .i64 i336)), (190, .imm (AV.int .i64 i337))], [(187, .row 4 l282 false)]⟩) n39 i332 i333 l280)
       n38 i330 i331 l279)
       n12 i252 i251 i252 l234) := by
  refine Eq.trans (b :=
    need (decide (0 ≤ (i252 : Int)) && decide ((i252 : Int) < ((n12 : Nat) : Int))) <|
    (l234[0 + Int.toNat i252]?).bind fun e23 =>
    (e23.flat[0]?).bind fun v3 =>
    asI .i64 v3 fun i253 =>
    bif (i253 : Int) != 3 then
    (runJ [5, 189, 190] [187] (evC gl R N law18Graph_c24) (Kjoin [5, 189, 190] [187] K) N ⟨[(5, .own 187 0 n12 none), (189, .imm (AV.int .i64 i251)), (190, .imm (AV.int .i64 i252))], [(187, .row 4 l234 false)]⟩)
    else
    runJ [5, 189, 190] [187] (evC gl R N law18Graph_c30) (Kblock 6 (Kjoin [5, 189, 190] [187] (Kthen gl R N law18Graph_c25 (Kjoin [5, 189, 190] [187] K)))) N ⟨[(5, .own 187 0 n12 none), (12, .imm (AV.int .i64 i252)), (189, .imm (AV.int .i64 i251)), (190, .imm (AV.int .i64 i252))], [(187, .row 4 l234 false)]⟩) (by kernel_rfl) ?_
  simp (config := { maxSteps := 100000000 }) only [law18Graph_J17_eq, law18Graph_J18_eq]
  refine Eq.trans (b :=
    need (decide (0 ≤ (i252 : Int)) && decide ((i252 : Int) < ((n12 : Nat) : Int))) <|
    (l234[0 + Int.toNat i252]?).bind fun e23 =>
    (e23.flat[0]?).bind fun v3 =>
    asI .i64 v3 fun i253 =>
    bif (i253 : Int) != 3 then
    (law18Graph_J17 R N
      (fun n16 i260 i261 l238 =>
    (fun (n41 : Nat) (i336 : Int) (i337 : Int) (l282 : List AV) => K .normal ⟨[(5, .own 187 0 n41 none), (189, .imm (AV.int .i64 i336)), (190, .imm (AV.int .i64 i337))], [(187, .row 4 l282 false)]⟩) n16 i260 i261 l238)
       n12 i251 i252 l234)
    else
    law18Graph_J18 R N
      (fun n38 i330 i331 l279 =>
    runJ [5, 189, 190] [187] (evC gl R N law18Graph_c24) (Kjoin [5, 189, 190] [187] K) N ⟨[(5, .own 187 0 n38 none), (189, .imm (AV.int .i64 i330)), (190, .imm (AV.int .i64 i331))], [(187, .row 4 l279 false)]⟩)
       n12 i252 i251 i252 l234) (by kernel_rfl) ?_
  simp (config := { maxSteps := 100000000 }) only [law18Graph_J17_eq, law18Graph_J18_eq]
  kernel_rfl
theorem law18Graph_J16_eq (R : Nat → List AV → Option Res) (N : Nat) (K : Ex → St → Option Res) (n12 : Nat) (i251 : Int) (i252 : Int) (l234 : List AV) :
    runJ [5, 189, 190] [187] (evC gl R N law18Graph_c32) K N ⟨[(5, .own 187 0 n12 none), (189, .imm (AV.int .i64 i251)), (190, .imm (AV.int .i64 i252))], [(187, .row 4 l234 false)]⟩ =
    law18Graph_J16 R N (fun (n40 : Nat) (i334 : Int) (i335 : Int) (l281 : List AV) => K .normal ⟨[(5, .own 187 0 n40 none), (189, .imm (AV.int .i64 i334)), (190, .imm (AV.int .i64 i335))], [(187, .row 4 l281 false)]⟩) n12 i251 i252 l234 :=
  (runJ_eq _ _ _ _ _ _).trans (congrArg (posN N) (law18Graph_J16_eq0 R N K n12 i251 i252 l234))
def law18Graph_L15s (R : Nat → List AV → Option Res) (N : Nat) (go : Nat → Int → Int → List AV → Option Res) (k0 : Nat → List AV → Option Res) (n11 : Nat) (i249 : Int) (i250 : Int) (l233 : List AV) : Option Res :=
  bif decide ((i250 : Int) < i249) then
    (law18Graph_J16 R N
      (fun n42 i338 i339 l283 =>
    go n42 i338 i339 l283)
       n11 i249 i250 l233)
  else
    k0 n11 l233
def law18Graph_L15 (R : Nat → List AV → Option Res) (N : Nat) (k0 : Nat → List AV → Option Res) : Nat → Nat → Int → Int → List AV → Option Res
  | 0, _, _, _, _ => none
  | n + 1, n11, i249, i250, l233 => law18Graph_L15s R N (law18Graph_L15 R N k0 n) k0 n11 i249 i250 l233
def law18Graph_c34 : AC := .seq (.region [.op (some 191) none (.bin .lss (.t 190) (.t 189))]) (.seq (.join [5, 189, 190] [187] (.cond (.t 191) (.skip) (.exit 5 [5] [187]))) (law18Graph_c33))
theorem law18Graph_L15s_eq (R : Nat → List AV → Option Res) (N : Nat) (K : Ex → St → Option Res) (W : St → Option Res) (n11 : Nat) (i249 : Int) (i250 : Int) (l233 : List AV) :
    evC gl R N law18Graph_c34 (Kseq (fun st' => W (prune [5, 189, 190] [187] st')) K) ⟨[(5, .own 187 0 n11 none), (189, .imm (AV.int .i64 i249)), (190, .imm (AV.int .i64 i250))], [(187, .row 4 l233 false)]⟩ =
    law18Graph_L15s R N (fun (n11 : Nat) (i249 : Int) (i250 : Int) (l233 : List AV) => W ⟨[(5, .own 187 0 n11 none), (189, .imm (AV.int .i64 i249)), (190, .imm (AV.int .i64 i250))], [(187, .row 4 l233 false)]⟩) (fun (n43 : Nat) (l284 : List AV) => K (.exit 5) ⟨[(5, .own 187 0 n43 none)], [(187, .row 4 l284 false)]⟩) n11 i249 i250 l233 := by
  refine Eq.trans (b :=
    bif decide ((i250 : Int) < i249) then
    (runJ [5, 189, 190] [187] (evC gl R N law18Graph_c32) (Kseq (fun st' => W (prune [5, 189, 190] [187] st')) K) N ⟨[(5, .own 187 0 n11 none), (189, .imm (AV.int .i64 i249)), (190, .imm (AV.int .i64 i250))], [(187, .row 4 l233 false)]⟩)
    else
    (fun (n44 : Nat) (l285 : List AV) => K (.exit 5) ⟨[(5, .own 187 0 n44 none)], [(187, .row 4 l285 false)]⟩) n11 l233) (by kernel_rfl) ?_
  simp (config := { maxSteps := 100000000 }) only [law18Graph_J16_eq]
  kernel_rfl
theorem law18Graph_L15_eq (R : Nat → List AV → Option Res) (N : Nat) (K : Ex → St → Option Res) : ∀ (n : Nat) (n11 : Nat) (i249 : Int) (i250 : Int) (l233 : List AV),
    rounds [5, 189, 190] [187] (evC gl R N law18Graph_c34) K n ⟨[(5, .own 187 0 n11 none), (189, .imm (AV.int .i64 i249)), (190, .imm (AV.int .i64 i250))], [(187, .row 4 l233 false)]⟩ = law18Graph_L15 R N (fun (n43 : Nat) (l284 : List AV) => K (.exit 5) ⟨[(5, .own 187 0 n43 none)], [(187, .row 4 l284 false)]⟩) n n11 i249 i250 l233
  | 0, _, _, _, _ => rfl
  | n + 1, n11, i249, i250, l233 => (law18Graph_L15s_eq R N K (rounds [5, 189, 190] [187] (evC gl R N law18Graph_c34) K n) n11 i249 i250 l233).trans
      (congrArg (fun go => law18Graph_L15s R N go (fun (n43 : Nat) (l284 : List AV) => K (.exit 5) ⟨[(5, .own 187 0 n43 none)], [(187, .row 4 l284 false)]⟩) n11 i249 i250 l233) (funext fun n11 => funext fun i249 => funext fun i250 => funext fun l233 => law18Graph_L15_eq R N K n n11 i249 i250 l233))
def law18Graph_J14 (R : Nat → List AV → Option Res) (N : Nat) (k0 : Nat → List AV → Option Res) (l190 : List AV) : Option Res :=
  posN N <|
  law18Graph_L15 R N
    (fun n45 l286 =>
    k0 n45 l286)
    N l190.length ((l190.length : Nat) : Int) 0 l190
def law18Graph_c35 : AC := .seq (.region [.op (some 232) none (.mv (.t 5)), .op (some 4) none (.mv (.t 232))]) (.ret [4] [187])
def law18Graph_c36 : AC := .seq (.seq (.region [.op (some 188) none (.mv (.t 5)), .op (some 189) none (.len (.t 188) false), .op (some 190) none (.mv (.k (AV.int .i64 0)))]) (.block 5 (.loop [5, 189, 190] [187] (law18Graph_c34)))) (law18Graph_c35)
def law18Graph_c37 : AC := .meet [] [] law18Graph_c36
theorem law18Graph_J14_eq0 (R : Nat → List AV → Option Res) (N : Nat) (K : Ex → St → Option Res) (l190 : List AV) :
    evC gl R N law18Graph_c36 (Kjoin [] [] K) ⟨[(5, .own 187 0 l190.length none)], [(187, .row 4 l190 false)]⟩ =
    (law18Graph_L15 R N
      (fun n45 l286 =>
    (fun (n47 : Nat) (l288 : List AV) => K .ret ⟨[(4, .own 187 0 n47 none)], [(187, .row 4 l288 false)]⟩) n45 l286)
      N l190.length ((l190.length : Nat) : Int) 0 l190) := by
  refine Eq.trans (b :=
    rounds [5, 189, 190] [187] (evC gl R N law18Graph_c34) (Kblock 5 (Kthen gl R N law18Graph_c35 (Kjoin [] [] K))) N ⟨[(5, .own 187 0 l190.length none), (189, .imm (AV.int .i64 ((l190.length : Nat) : Int))), (190, .imm (AV.int .i64 0))], [(187, .row 4 l190 false)]⟩) (by kernel_rfl) ?_
  simp (config := { maxSteps := 100000000 }) only [law18Graph_L15_eq]
  kernel_rfl
theorem law18Graph_J14_eq (R : Nat → List AV → Option Res) (N : Nat) (K : Ex → St → Option Res) (l190 : List AV) :
    runJ [] [] (evC gl R N law18Graph_c36) K N ⟨[(5, .own 187 0 l190.length none)], [(187, .row 4 l190 false)]⟩ =
    law18Graph_J14 R N (fun (n46 : Nat) (l287 : List AV) => K .ret ⟨[(4, .own 187 0 n46 none)], [(187, .row 4 l287 false)]⟩) l190 :=
  (runJ_eq _ _ _ _ _ _).trans (congrArg (posN N) (law18Graph_J14_eq0 R N K l190))
def law18Graph_J13 (R : Nat → List AV → Option Res) (N : Nat) (k0 : Nat → List AV → Option Res) (l189 : List AV) : Option Res :=
  posN N <|
  bif (((l189.length : Nat) : Int) : Int) == 0 then
    (law18Graph_J14 R N
      (fun n48 l289 =>
    k0 n48 l289)
       [AV.agg [AV.int .i64 1, AV.str ([33, 33, 115, 116, 114] : List UInt8), AV.str ([97] : List UInt8), AV.row 1 []]])
  else
    law18Graph_J14 R N
      (fun n49 l290 =>
    k0 n49 l290)
       l189
def law18Graph_c38 : AC := .seq (.join [5] [187] (.seq (.region [.op (some 183) none (.mv (.t 5)), .op (some 184) none (.len (.t 183) false), .op (some 185) none (.bin .eql (.t 184) (.k (AV.int .i64 0)))]) (.cond (.t 185) (.region [.op (some 186) none (.build [AV.int .i64 0, AV.str [], AV.str [], AV.row 1 []] [(0, 1, .k (AV.int .i64 1)), (1, 1, .k (AV.str ([33, 33, 115, 116, 114] : List UInt8))), (2, 1, .k (AV.str ([97] : List UInt8)))]), .op (some 187) none (.bsliceOwn 187 [.t 186] 4 .any false), .op (some 5) none (.mv (.t 187))]) (.skip)))) (law18Graph_c37)
def law18Graph_c39 : AC := .meet [] [] law18Graph_c38
theorem law18Graph_J13_eq0 (R : Nat → List AV → Option Res) (N : Nat) (K : Ex → St → Option Res) (l189 : List AV) :
    evC gl R N law18Graph_c38 (Kjoin [] [] K) ⟨[(5, .own 187 0 l189.length none)], [(187, .row 4 l189 false)]⟩ =
    (bif (((l189.length : Nat) : Int) : Int) == 0 then
    (law18Graph_J14 R N
      (fun n48 l289 =>
    (fun (n51 : Nat) (l292 : List AV) => K .ret ⟨[(4, .own 187 0 n51 none)], [(187, .row 4 l292 false)]⟩) n48 l289)
       [AV.agg [AV.int .i64 1, AV.str ([33, 33, 115, 116, 114] : List UInt8), AV.str ([97] : List UInt8), AV.row 1 []]])
    else
    law18Graph_J14 R N
      (fun n49 l290 =>
    (fun (n51 : Nat) (l292 : List AV) => K .ret ⟨[(4, .own 187 0 n51 none)], [(187, .row 4 l292 false)]⟩) n49 l290)
       l189) := by
  refine Eq.trans (b :=
    bif (((l189.length : Nat) : Int) : Int) == 0 then
    (runJ [] [] (evC gl R N law18Graph_c36) (Kjoin [] [] K) N ⟨[(5, .own 187 0 (([AV.agg [AV.int .i64 1, AV.str ([33, 33, 115, 116, 114] : List UInt8), AV.str ([97] : List UInt8), AV.row 1 []]] : List AV).length) none)], [(187, .row 4 [AV.agg [AV.int .i64 1, AV.str ([33, 33, 115, 116, 114] : List UInt8), AV.str ([97] : List UInt8), AV.row 1 []]] false)]⟩)
    else
    runJ [] [] (evC gl R N law18Graph_c36) (Kjoin [] [] K) N ⟨[(5, .own 187 0 l189.length none)], [(187, .row 4 l189 false)]⟩) (by kernel_rfl) ?_
  simp (config := { maxSteps := 100000000 }) only [law18Graph_J14_eq]
  kernel_rfl
theorem law18Graph_J13_eq (R : Nat → List AV → Option Res) (N : Nat) (K : Ex → St → Option Res) (l189 : List AV) :
    runJ [] [] (evC gl R N law18Graph_c38) K N ⟨[(5, .own 187 0 l189.length none)], [(187, .row 4 l189 false)]⟩ =
    law18Graph_J13 R N (fun (n50 : Nat) (l291 : List AV) => K .ret ⟨[(4, .own 187 0 n50 none)], [(187, .row 4 l291 false)]⟩) l189 :=
  (runJ_eq _ _ _ _ _ _).trans (congrArg (posN N) (law18Graph_J13_eq0 R N K l189))
def law18Graph_c40 : AC := .seq (.join [5] [187] (.seq (.region [.op (some 181) none (.mv (.t 1))]) (.cond (.t 181) (.seq (.region [.op (some 182) none (.mv (.t 5)), .op (some 4) none (.mv (.t 182))]) (.ret [4] [187])) (.skip)))) (law18Graph_c39)
def law18Graph_c41 : AC := .seq (.region [.op (some 4) none (.nilOwn 187 (some (4, .any)))]) (.seq (.region [.op (some 5) none (.nilOwn 187 (some (4, .any)))]) (.seq (.seq (.region [.op (some 6) none (.mv (.k (AV.int .i64 0)))]) (.block 0 (.loop [0, 1, 5, 6] [187] (law18Graph_c23)))) (law18Graph_c40)))
def law18Graph : AFunc := ⟨2, 233, [.tmp 4], law18Graph_c41⟩
def law18Graphr (R : Nat → List AV → Option Res) (N : Nat) (l1 : List AV) (b1 : Bool) : Option Res :=
  law18Graph_L1 R N
    (fun b68 l188 =>
    bif b68 then
    (some ⟨AV.row 4 ((l188.drop 0).take l188.length), true, []⟩)
    else
    law18Graph_J13 R N
      (fun n52 l293 =>
    some ⟨AV.row 4 ((l293.drop 0).take n52), true, []⟩)
       l188)
    N l1 b1 0 []
theorem law18Graph_eq (R : Nat → List AV → Option Res) (N : Nat) (l1 : List AV) (b1 : Bool) : runF gl R N law18Graph [AV.row 5 l1, AV.bool b1] = law18Graphr R N l1 b1 := by
  refine Eq.trans (b :=
    rounds [0, 1, 5, 6] [187] (evC gl R N law18Graph_c23) (Kblock 0 (Kthen gl R N law18Graph_c40 (Kret law18Graph.rets []))) N ⟨[(0, .imm (AV.row 5 l1)), (1, .imm (AV.bool b1)), (5, .own 187 0 (([] : List AV).length) none), (6, .imm (AV.int .i64 0))], [(187, .row 4 [] false)]⟩) (by kernel_rfl) ?_
  simp (config := { maxSteps := 100000000 }) only [law18Graph_J13_eq, law18Graph_L1_eq]
  refine Eq.trans (b :=
    law18Graph_L1 R N
      (fun b68 l188 =>
    bif b68 then
    (some ⟨AV.row 4 ((l188.drop 0).take l188.length), true, []⟩)
    else
    runJ [] [] (evC gl R N law18Graph_c38) (Kret law18Graph.rets []) N ⟨[(5, .own 187 0 l188.length none)], [(187, .row 4 l188 false)]⟩)
      N l1 b1 0 []) (by kernel_rfl) ?_
  simp (config := { maxSteps := 100000000 }) only [law18Graph_J13_eq, law18Graph_L1_eq]
  kernel_rfl
theorem law18Graph_fit : fitF Tryd.prog law18Graph Tryd.f21 = true := by
  kernel_rfl

def ref18SameLow_L2s (R : Nat → List AV → Option Res) (N : Nat) (go : List AV → List AV → Int → Int → Int → Int → Int → List UInt8 → List UInt8 → List AV → Int → List UInt8 → List UInt8 → List AV → Option Res) (k0 : Bool → Option Res) (k1 : List AV → List AV → Int → Int → Option Res) (l7 : List AV) (l8 : List AV) (i5 : Int) (i6 : Int) (i7 : Int) (i8 : Int) (i9 : Int) (s5 : List UInt8) (s6 : List UInt8) (l9 : List AV) (i10 : Int) (s7 : List UInt8) (s8 : List UInt8) (l10 : List AV) : Option Res :=
  bif decide ((i8 : Int) < i7) then
    (need (decide (0 ≤ (i8 : Int))) <|
    (l9[Int.toNat i8]?).bind fun e3 =>
    asI .i64 e3 fun i11 =>
    need (decide (0 ≤ (i8 : Int))) <|
    (l10[Int.toNat i8]?).bind fun e4 =>
    asI .i64 e4 fun i12 =>
    bif (i11 : Int) != i12 then
    (k0 false)
    else
    go l7 l8 i5 i6 i7 (IntKind.i64.wrap (i8 + 1)) i9 s5 s6 l9 i10 s7 s8 l10)
  else
    k1 l7 l8 i5 i6
def ref18SameLow_L2 (R : Nat → List AV → Option Res) (N : Nat) (k0 : Bool → Option Res) (k1 : List AV → List AV → Int → Int → Option Res) : Nat → List AV → List AV → Int → Int → Int → Int → Int → List UInt8 → List UInt8 → List AV → Int → List UInt8 → List UInt8 → List AV → Option Res
  | 0, _, _, _, _, _, _, _, _, _, _, _, _, _, _ => none
  | n + 1, l7, l8, i5, i6, i7, i8, i9, s5, s6, l9, i10, s7, s8, l10 => ref18SameLow_L2s R N (ref18SameLow_L2 R N k0 k1 n) k0 k1 l7 l8 i5 i6 i7 i8 i9 s5 s6 l9 i10 s7 s8 l10
def ref18SameLow_c0 : AC := .seq (.region [.op (some 59) none (.bin .lss (.t 58) (.t 57))]) (.seq (.cond (.t 59) (.skip) (.exit 2 [0, 1, 15, 16] [])) (.seq (.block 3 (.seq (.region [.op (some 60) none (.mv (.t 58)), .op (some 8) none (.mv (.t 60))]) (.seq (.regionD [0, 1, 6, 7, 15, 16, 57, 58, 71] [1006, 1007] [.op (some 61) none (.faddr (.t 6) 3), .op (some 62) none (.load (.t 61) none (.row 1)), .op (some 63) none (.mv (.t 8)), .op (some 64) none (.iaddr (.t 62) (.t 63) 1 (.int .i64)), .op (some 65) none (.load (.t 64) none (.int .i64)), .op (some 66) none (.faddr (.t 7) 3), .op (some 67) none (.load (.t 66) none (.row 1)), .op (some 68) none (.mv (.t 8)), .op (some 69) none (.iaddr (.t 67) (.t 68) 1 (.int .i64)), .op (some 70) none (.load (.t 69) none (.int .i64)), .op (some 71) none (.bin .neq (.t 65) (.t 70))] []) (.cond (.t 71) (.seq (.region [.op (some 4) none (.mv (.k (AV.bool false)))]) (.ret [4] [])) (.skip))))) (.region [.op (some 72) none (.bin .add (.t 58) (.k (AV.int .i64 1))), .op (some 58) none (.mv (.t 72))])))
theorem ref18SameLow_L2s_eq (R : Nat → List AV → Option Res) (N : Nat) (K : Ex → St → Option Res) (W : St → Option Res) (l7 : List AV) (l8 : List AV) (i5 : Int) (i6 : Int) (i7 : Int) (i8 : Int) (i9 : Int) (s5 : List UInt8) (s6 : List UInt8) (l9 : List AV) (i10 : Int) (s7 : List UInt8) (s8 : List UInt8) (l10 : List AV) :
    evC gl R N ref18SameLow_c0 (Kseq (fun st' => W (prune [0, 1, 6, 7, 15, 16, 57, 58] [1006, 1007] st')) K) ⟨[(0, .imm (AV.row 4 l7)), (1, .imm (AV.row 4 l8)), (6, .ptr 1006 0 0), (7, .ptr 1007 0 0), (15, .imm (AV.int .i64 i5)), (16, .imm (AV.int .i64 i6)), (57, .imm (AV.int .i64 i7)), (58, .imm (AV.int .i64 i8))], [(1006, .box [.imm (AV.int .i64 i9), .imm (AV.str s5), .imm (AV.str s6), .imm (AV.row 1 l9)]), (1007, .box [.imm (AV.int .i64 i10), .imm (AV.str s7), .imm (AV.str s8), .imm (AV.row 1 l10)])]⟩ =
    ref18SameLow_L2s R N (fun (l7 : List AV) (l8 : List AV) (i5 : Int) (i6 : Int) (i7 : Int) (i8 : Int) (i9 : Int) (s5 : List UInt8) (s6 : List UInt8) (l9 : List AV) (i10 : Int) (s7 : List UInt8) (s8 : List UInt8) (l10 : List AV) => W ⟨[(0, .imm (AV.row 4 l7)), (1, .imm (AV.row 4 l8)), (6, .ptr 1006 0 0), (7, .ptr 1007 0 0), (15, .imm (AV.int .i64 i5)), (16, .imm (AV.int .i64 i6)), (57, .imm (AV.int .i64 i7)), (58, .imm (AV.int .i64 i8))], [(1006, .box [.imm (AV.int .i64 i9), .imm (AV.str s5), .imm (AV.str s6), .imm (AV.row 1 l9)]), (1007, .box [.imm (AV.int .i64 i10), .imm (AV.str s7), .imm (AV.str s8), .imm (AV.row 1 l10)])]⟩) (fun (b1 : Bool) => K .ret ⟨[(4, .imm (AV.bool b1))], []⟩) (fun (l11 : List AV) (l12 : List AV) (i13 : Int) (i14 : Int) => K (.exit 2) ⟨[(0, .imm (AV.row 4 l11)), (1, .imm (AV.row 4 l12)), (15, .imm (AV.int .i64 i13)), (16, .imm (AV.int .i64 i14))], []⟩) l7 l8 i5 i6 i7 i8 i9 s5 s6 l9 i10 s7 s8 l10 := by
  kernel_rfl
theorem ref18SameLow_L2_eq (R : Nat → List AV → Option Res) (N : Nat) (K : Ex → St → Option Res) : ∀ (n : Nat) (l7 : List AV) (l8 : List AV) (i5 : Int) (i6 : Int) (i7 : Int) (i8 : Int) (i9 : Int) (s5 : List UInt8) (s6 : List UInt8) (l9 : List AV) (i10 : Int) (s7 : List UInt8) (s8 : List UInt8) (l10 : List AV),
    rounds [0, 1, 6, 7, 15, 16, 57, 58] [1006, 1007] (evC gl R N ref18SameLow_c0) K n ⟨[(0, .imm (AV.row 4 l7)), (1, .imm (AV.row 4 l8)), (6, .ptr 1006 0 0), (7, .ptr 1007 0 0), (15, .imm (AV.int .i64 i5)), (16, .imm (AV.int .i64 i6)), (57, .imm (AV.int .i64 i7)), (58, .imm (AV.int .i64 i8))], [(1006, .box [.imm (AV.int .i64 i9), .imm (AV.str s5), .imm (AV.str s6), .imm (AV.row 1 l9)]), (1007, .box [.imm (AV.int .i64 i10), .imm (AV.str s7), .imm (AV.str s8), .imm (AV.row 1 l10)])]⟩ = ref18SameLow_L2 R N (fun (b1 : Bool) => K .ret ⟨[(4, .imm (AV.bool b1))], []⟩) (fun (l11 : List AV) (l12 : List AV) (i13 : Int) (i14 : Int) => K (.exit 2) ⟨[(0, .imm (AV.row 4 l11)), (1, .imm (AV.row 4 l12)), (15, .imm (AV.int .i64 i13)), (16, .imm (AV.int .i64 i14))], []⟩) n l7 l8 i5 i6 i7 i8 i9 s5 s6 l9 i10 s7 s8 l10
  | 0, _, _, _, _, _, _, _, _, _, _, _, _, _, _ => rfl
  | n + 1, l7, l8, i5, i6, i7, i8, i9, s5, s6, l9, i10, s7, s8, l10 => (ref18SameLow_L2s_eq R N K (rounds [0, 1, 6, 7, 15, 16, 57, 58] [1006, 1007] (evC gl R N ref18SameLow_c0) K n) l7 l8 i5 i6 i7 i8 i9 s5 s6 l9 i10 s7 s8 l10).trans
      (congrArg (fun go => ref18SameLow_L2s R N go (fun (b1 : Bool) => K .ret ⟨[(4, .imm (AV.bool b1))], []⟩) (fun (l11 : List AV) (l12 : List AV) (i13 : Int) (i14 : Int) => K (.exit 2) ⟨[(0, .imm (AV.row 4 l11)), (1, .imm (AV.row 4 l12)), (15, .imm (AV.int .i64 i13)), (16, .imm (AV.int .i64 i14))], []⟩) l7 l8 i5 i6 i7 i8 i9 s5 s6 l9 i10 s7 s8 l10) (funext fun l7 => funext fun l8 => funext fun i5 => funext fun i6 => funext fun i7 => funext fun i8 => funext fun i9 => funext fun s5 => funext fun s6 => funext fun l9 => funext fun i10 => funext fun s7 => funext fun s8 => funext fun l10 => ref18SameLow_L2_eq R N K n l7 l8 i5 i6 i7 i8 i9 s5 s6 l9 i10 s7 s8 l10))
def ref18SameLow_L1s (R : Nat → List AV → Option Res) (N : Nat) (go : List AV → List AV → Int → Int → Option Res) (k0 : Bool → Option Res) (k1 : Option Res) (l3 : List AV) (l4 : List AV) (i1 : Int) (i2 : Int) : Option Res :=
  bif decide ((i2 : Int) < i1) then
    (need (decide (0 ≤ (i2 : Int))) <|
    (l3[Int.toNat i2]?).bind fun e1 =>
    asISSRA e1 fun i3 s1 s2 l5 =>
    need (decide (0 ≤ (i2 : Int))) <|
    (l4[Int.toNat i2]?).bind fun e2 =>
    asISSRA e2 fun i4 s3 s4 l6 =>
    bif (i3 : Int) != i4 then
    (k0 false)
    else
    bif !(s1 == s3) then
    (k0 false)
    else
    bif !(s2 == s4) then
    (k0 false)
    else
    bif (((l5.length : Nat) : Int) : Int) != ((l6.length : Nat) : Int) then
    (k0 false)
    else
    ref18SameLow_L2 R N
      (fun b3 =>
    k0 b3)
      (fun l15 l16 i17 i18 =>
    go l15 l16 i17 (IntKind.i64.wrap (i18 + 1)))
      N l3 l4 i1 i2 ((l5.length : Nat) : Int) 0 i3 s1 s2 l5 i4 s3 s4 l6)
  else
    k1
def ref18SameLow_L1 (R : Nat → List AV → Option Res) (N : Nat) (k0 : Bool → Option Res) (k1 : Option Res) : Nat → List AV → List AV → Int → Int → Option Res
  | 0, _, _, _, _ => none
  | n + 1, l3, l4, i1, i2 => ref18SameLow_L1s R N (ref18SameLow_L1 R N k0 k1 n) k0 k1 l3 l4 i1 i2
def ref18SameLow_c1 : AC := .region [.op (some 73) none (.bin .add (.t 16) (.k (AV.int .i64 1))), .op (some 16) none (.mv (.t 73))]
def ref18SameLow_c2 : AC := .seq (.region [.op (some 17) none (.bin .lss (.t 16) (.t 15))]) (.seq (.cond (.t 17) (.skip) (.exit 0 [] [])) (.seq (.block 1 (.seq (.region [.op (some 18) none (.mv (.t 16)), .op (some 5) none (.mv (.t 18))]) (.seq (.regionX [0, 1, 6, 7, 15, 16] [1006, 1007] [19, 20, 21, 22, 6, 7] [.op (some 19) none (.mv (.t 0)), .op (some 20) none (.mv (.t 5)), .op (some 21) none (.iaddr (.t 19) (.t 20) 4 (.agg [.int .i64, .str, .str, .row 1])), .op (some 22) none (.load (.t 21) (some 4) (.agg [.int .i64, .str, .str, .row 1])), .op (some 23) none (.mv (.t 1)), .op (some 24) none (.mv (.t 5)), .op (some 25) none (.iaddr (.t 23) (.t 24) 4 (.agg [.int .i64, .str, .str, .row 1])), .op (some 26) none (.load (.t 25) (some 4) (.agg [.int .i64, .str, .str, .row 1])), .op (some 6) none (.alloc 1006 [AV.int .i64 0, AV.str [], AV.str [], AV.row 1 []]), .op (some 7) none (.alloc 1007 [AV.int .i64 0, AV.str [], AV.str [], AV.row 1 []])] none (.store (.t 6) (.t 22) 4) [] [.op none none (.store (.t 7) (.t 26) 4)]) (.seq (.seq (.region [.op (some 27) none (.faddr (.t 6) 0), .op (some 28) none (.load (.t 27) none (.int .i64)), .op (some 29) none (.faddr (.t 7) 0), .op (some 30) none (.load (.t 29) none (.int .i64)), .op (some 31) none (.bin .neq (.t 28) (.t 30)), .op (some 32) none (.mv (.t 31)), .split 32, .op (some 33) (some (32, false)) (.faddr (.t 6) 1), .op (some 34) (some (32, false)) (.load (.t 33) none (.str)), .op (some 35) (some (32, false)) (.faddr (.t 7) 1), .op (some 36) (some (32, false)) (.load (.t 35) none (.str)), .op (some 37) (some (32, false)) (.bin .neq (.t 34) (.t 36)), .op (some 38) none (.pick (.t 32) (.k (AV.bool true)) (.t 37)), .op (some 39) none (.mv (.t 38)), .split 39, .op (some 40) (some (39, false)) (.faddr (.t 6) 2), .op (some 41) (some (39, false)) (.load (.t 40) none (.str)), .op (some 42) (some (39, false)) (.faddr (.t 7) 2), .op (some 43) (some (39, false)) (.load (.t 42) none (.str)), .op (some 44) (some (39, false)) (.bin .neq (.t 41) (.t 43)), .op (some 45) none (.pick (.t 39) (.k (AV.bool true)) (.t 44)), .op (some 46) none (.mv (.t 45)), .split 46, .op (some 47) (some (46, false)) (.faddr (.t 6) 3), .op (some 48) (some (46, false)) (.load (.t 47) none (.row 1)), .op (some 49) (some (46, false)) (.len (.t 48) false), .op (some 50) (some (46, false)) (.faddr (.t 7) 3), .op (some 51) (some (46, false)) (.load (.t 50) none (.row 1)), .op (some 52) (some (46, false)) (.len (.t 51) false), .op (some 53) (some (46, false)) (.bin .neq (.t 49) (.t 52)), .op (some 54) none (.pick (.t 46) (.k (AV.bool true)) (.t 53))]) (.cond (.t 54) (.seq (.region [.op (some 4) none (.mv (.k (AV.bool false)))]) (.ret [4] [])) (.skip))) (.seq (.region [.op (some 55) none (.faddr (.t 6) 3), .op (some 56) none (.load (.t 55) none (.row 1)), .op (some 57) none (.len (.t 56) false), .op (some 58) none (.mv (.k (AV.int .i64 0)))]) (.block 2 (.loop [0, 1, 6, 7, 15, 16, 57, 58] [1006, 1007] (ref18SameLow_c0)))))))) (ref18SameLow_c1)))
theorem ref18SameLow_L1s_eq (R : Nat → List AV → Option Res) (N : Nat) (K : Ex → St → Option Res) (W : St → Option Res) (l3 : List AV) (l4 : List AV) (i1 : Int) (i2 : Int) :
    evC gl R N ref18SameLow_c2 (Kseq (fun st' => W (prune [0, 1, 15, 16] [] st')) K) ⟨[(0, .imm (AV.row 4 l3)), (1, .imm (AV.row 4 l4)), (15, .imm (AV.int .i64 i1)), (16, .imm (AV.int .i64 i2))], []⟩ =
    ref18SameLow_L1s R N (fun (l3 : List AV) (l4 : List AV) (i1 : Int) (i2 : Int) => W ⟨[(0, .imm (AV.row 4 l3)), (1, .imm (AV.row 4 l4)), (15, .imm (AV.int .i64 i1)), (16, .imm (AV.int .i64 i2))], []⟩) (fun (b4 : Bool) => K .ret ⟨[(4, .imm (AV.bool b4))], []⟩) (K (.exit 0) ⟨[], []⟩) l3 l4 i1 i2 := by
  refine Eq.trans (b :=
    bif decide ((i2 : Int) < i1) then
    (need (decide (0 ≤ (i2 : Int))) <|
    (l3[Int.toNat i2]?).bind fun e1 =>
    asISSRA e1 fun i3 s1 s2 l5 =>
    need (decide (0 ≤ (i2 : Int))) <|
    (l4[Int.toNat i2]?).bind fun e2 =>
    asISSRA e2 fun i4 s3 s4 l6 =>
    bif (i3 : Int) != i4 then
    ((fun (b5 : Bool) => K .ret ⟨[(4, .imm (AV.bool b5))], []⟩) false)
    else
    bif !(s1 == s3) then
    ((fun (b5 : Bool) => K .ret ⟨[(4, .imm (AV.bool b5))], []⟩) false)
    else
    bif !(s2 == s4) then
    ((fun (b5 : Bool) => K .ret ⟨[(4, .imm (AV.bool b5))], []⟩) false)
    else
    bif (((l5.length : Nat) : Int) : Int) != ((l6.length : Nat) : Int) then
    ((fun (b5 : Bool) => K .ret ⟨[(4, .imm (AV.bool b5))], []⟩) false)
    else
    rounds [0, 1, 6, 7, 15, 16, 57, 58] [1006, 1007] (evC gl R N ref18SameLow_c0) (Kblock 2 (Kblock 1 (Kthen gl R N ref18SameLow_c1 (Kseq (fun st' => W (prune [0, 1, 15, 16] [] st')) K)))) N ⟨[(0, .imm (AV.row 4 l3)), (1, .imm (AV.row 4 l4)), (6, .ptr 1006 0 0), (7, .ptr 1007 0 0), (15, .imm (AV.int .i64 i1)), (16, .imm (AV.int .i64 i2)), (57, .imm (AV.int .i64 ((l5.length : Nat) : Int))), (58, .imm (AV.int .i64 0))], [(1006, .box [.imm (AV.int .i64 i3), .imm (AV.str s1), .imm (AV.str s2), .imm (AV.row 1 l5)]), (1007, .box [.imm (AV.int .i64 i4), .imm (AV.str s3), .imm (AV.str s4), .imm (AV.row 1 l6)])]⟩)
    else
    (K (.exit 0) ⟨[], []⟩)) (by kernel_rfl) ?_
  simp (config := { maxSteps := 100000000 }) only [ref18SameLow_L2_eq]
  kernel_rfl
theorem ref18SameLow_L1_eq (R : Nat → List AV → Option Res) (N : Nat) (K : Ex → St → Option Res) : ∀ (n : Nat) (l3 : List AV) (l4 : List AV) (i1 : Int) (i2 : Int),
    rounds [0, 1, 15, 16] [] (evC gl R N ref18SameLow_c2) K n ⟨[(0, .imm (AV.row 4 l3)), (1, .imm (AV.row 4 l4)), (15, .imm (AV.int .i64 i1)), (16, .imm (AV.int .i64 i2))], []⟩ = ref18SameLow_L1 R N (fun (b4 : Bool) => K .ret ⟨[(4, .imm (AV.bool b4))], []⟩) (K (.exit 0) ⟨[], []⟩) n l3 l4 i1 i2
  | 0, _, _, _, _ => rfl
  | n + 1, l3, l4, i1, i2 => (ref18SameLow_L1s_eq R N K (rounds [0, 1, 15, 16] [] (evC gl R N ref18SameLow_c2) K n) l3 l4 i1 i2).trans
      (congrArg (fun go => ref18SameLow_L1s R N go (fun (b4 : Bool) => K .ret ⟨[(4, .imm (AV.bool b4))], []⟩) (K (.exit 0) ⟨[], []⟩) l3 l4 i1 i2) (funext fun l3 => funext fun l4 => funext fun i1 => funext fun i2 => ref18SameLow_L1_eq R N K n l3 l4 i1 i2))
def ref18SameLow_c3 : AC := .seq (.region [.op (some 4) none (.mv (.k (AV.bool true)))]) (.ret [4] [])
def ref18SameLow_c4 : AC := .seq (.region [.op (some 4) none (.mv (.k (AV.bool false)))]) (.seq (.seq (.region [.op (some 9) none (.mv (.t 0)), .op (some 10) none (.len (.t 9) false), .op (some 11) none (.mv (.t 1)), .op (some 12) none (.len (.t 11) false), .op (some 13) none (.bin .neq (.t 10) (.t 12))]) (.cond (.t 13) (.seq (.region [.op (some 4) none (.mv (.k (AV.bool false)))]) (.ret [4] [])) (.skip))) (.seq (.seq (.region [.op (some 14) none (.mv (.t 0)), .op (some 15) none (.len (.t 14) false), .op (some 16) none (.mv (.k (AV.int .i64 0)))]) (.block 0 (.loop [0, 1, 15, 16] [] (ref18SameLow_c2)))) (ref18SameLow_c3)))
def ref18SameLow : AFunc := ⟨2, 74, [.tmp 4], ref18SameLow_c4⟩
def ref18SameLowr (R : Nat → List AV → Option Res) (N : Nat) (l1 : List AV) (l2 : List AV) : Option Res :=
  bif (((l1.length : Nat) : Int) : Int) != ((l2.length : Nat) : Int) then
    (some ⟨AV.bool false, false, []⟩)
  else
    ref18SameLow_L1 R N
      (fun b6 =>
    some ⟨AV.bool b6, false, []⟩)
      (
    some ⟨AV.bool true, false, []⟩)
      N l1 l2 ((l1.length : Nat) : Int) 0
theorem ref18SameLow_eq (R : Nat → List AV → Option Res) (N : Nat) (l1 : List AV) (l2 : List AV) : runF gl R N ref18SameLow [AV.row 4 l1, AV.row 4 l2] = ref18SameLowr R N l1 l2 := by
  refine Eq.trans (b :=
    bif (((l1.length : Nat) : Int) : Int) != ((l2.length : Nat) : Int) then
    (some ⟨AV.bool false, false, []⟩)
    else
    rounds [0, 1, 15, 16] [] (evC gl R N ref18SameLow_c2) (Kblock 0 (Kthen gl R N ref18SameLow_c3 (Kret ref18SameLow.rets []))) N ⟨[(0, .imm (AV.row 4 l1)), (1, .imm (AV.row 4 l2)), (15, .imm (AV.int .i64 ((l1.length : Nat) : Int))), (16, .imm (AV.int .i64 0))], []⟩) (by kernel_rfl) ?_
  simp (config := { maxSteps := 100000000 }) only [ref18SameLow_L1_eq]
  kernel_rfl
theorem ref18SameLow_fit : fitF Tryd.prog ref18SameLow Tryd.f59 = true := by
  kernel_rfl

def ref18Same_c0 : AC := .seq (.region [.op (some 4) none (.mv (.k (AV.bool false)))]) (.seq (.region [.op (some 5) none (.mv (.t 0)), .op (some 6) none (.call id_ref18Canon [.t 5] (.row 4)), .op (some 7) none (.mv (.t 1)), .op (some 8) none (.call id_ref18Canon [.t 7] (.row 4)), .op (some 9) none (.call id_ref18SameLow [.t 6, .t 8] (.bool)), .op (some 4) none (.mv (.t 9))]) (.ret [4] []))
def ref18Same : AFunc := ⟨2, 10, [.tmp 4], ref18Same_c0⟩
def ref18Samer (R : Nat → List AV → Option Res) (N : Nat) (l1 : List AV) (l2 : List AV) : Option Res :=
  (R id_ref18Canon [AV.row 4 l1]).bind fun r1 =>
  asR 4 r1.v fun l3 =>
  (R id_ref18Canon [AV.row 4 l2]).bind fun r2 =>
  asR 4 r2.v fun l4 =>
  (R id_ref18SameLow [AV.row 4 l3, AV.row 4 l4]).bind fun r3 =>
  asB r3.v fun b1 =>
  some ⟨AV.bool b1, false, []⟩
theorem ref18Same_eq (R : Nat → List AV → Option Res) (N : Nat) (l1 : List AV) (l2 : List AV) : runF gl R N ref18Same [AV.row 4 l1, AV.row 4 l2] = ref18Samer R N l1 l2 := by
  kernel_rfl
theorem ref18Same_fit : fitF Tryd.prog ref18Same Tryd.f24 = true := by
  kernel_rfl

def law18IsoSame_c0 : AC := .seq (.region [.op (some 6) none (.mv (.k (AV.bool false)))]) (.seq (.region [.op (some 9) none (.mv (.t 0)), .op (some 10) none (.call id_law18Graph [.t 9, .k (AV.bool false)] (.row 4)), .op (some 11) none (.mv (.t 1)), .op (some 12) none (.call id_law18Graph [.t 11, .k (AV.bool false)] (.row 4)), .op (some 7) none (.mv (.t 10)), .op (some 8) none (.mv (.t 12))]) (.seq (.seq (.region [.op (some 13) none (.mv (.t 2))]) (.cond (.t 13) (.region [.op (some 14) none (.mv (.t 7)), .op (some 15) none (.call id_ref18Canon [.t 14] (.row 4)), .op (some 8) none (.mv (.t 15))]) (.skip))) (.seq (.region [.op (some 16) none (.mv (.t 7)), .op (some 17) none (.mv (.t 8)), .op (some 18) none (.call id_isoSame [.t 16, .t 17] (.bool)), .op (some 19) none (.mv (.t 7)), .op (some 20) none (.mv (.t 8)), .op (some 21) none (.call id_ref18Same [.t 19, .t 20] (.bool)), .op (some 22) none (.binB .eql (.t 18) (.t 21)), .op (some 23) none (.mv (.t 22)), .split 23, .op (some 24) (some (23, true)) (.mv (.t 8)), .op (some 25) (some (23, true)) (.mv (.t 7)), .op (some 26) (some (23, true)) (.call id_isoSame [.t 24, .t 25] (.bool)), .op (some 27) (some (23, true)) (.mv (.t 7)), .op (some 28) (some (23, true)) (.mv (.t 8)), .op (some 29) (some (23, true)) (.call id_isoSame [.t 27, .t 28] (.bool)), .op (some 30) (some (23, true)) (.binB .eql (.t 26) (.t 29)), .op (some 31) none (.pick (.t 23) (.t 30) (.k (AV.bool false))), .op (some 32) none (.mv (.t 31)), .split 32, .op (some 33) (some (32, true)) (.mv (.t 2)), .op (some 34) (some (32, true)) (.un .not (.t 33)), .op (some 35) (some (32, true)) (.mv (.t 34)), .split 35, .op (some 36) (some (35, false)) (.mv (.t 7)), .op (some 37) (some (35, false)) (.mv (.t 8)), .op (some 38) (some (35, false)) (.call id_isoSame [.t 36, .t 37] (.bool)), .op (some 39) (some (32, true)) (.pick (.t 35) (.k (AV.bool true)) (.t 38)), .op (some 40) none (.pick (.t 32) (.t 39) (.k (AV.bool false))), .op (some 41) none (.mv (.t 40)), .split 41, .op (some 42) (some (41, true)) (.call id_law18Wakes [] (.bool)), .op (some 43) none (.pick (.t 41) (.t 42) (.k (AV.bool false))), .op (some 6) none (.mv (.t 43))]) (.ret [6] []))))
def law18IsoSame : AFunc := ⟨3, 44, [.tmp 6], law18IsoSame_c0⟩
def law18IsoSamer (R : Nat → List AV → Option Res) (N : Nat) (l1 : List AV) (l2 : List AV) (b1 : Bool) : Option Res :=
  (R id_law18Graph [AV.row 5 l1, AV.bool false]).bind fun r1 =>
  asR 4 r1.v fun l3 =>
  (R id_law18Graph [AV.row 5 l2, AV.bool false]).bind fun r2 =>
  asR 4 r2.v fun l4 =>
  bif b1 then
    ((R id_ref18Canon [AV.row 4 l3]).bind fun r3 =>
    asR 4 r3.v fun l5 =>
    (R id_isoSame [AV.row 4 l3, AV.row 4 l5]).bind fun r4 =>
    asB r4.v fun b2 =>
    (R id_ref18Same [AV.row 4 l3, AV.row 4 l5]).bind fun r5 =>
    asB r5.v fun b3 =>
    bif b2 == b3 then
    ((R id_isoSame [AV.row 4 l5, AV.row 4 l3]).bind fun r6 =>
    asB r6.v fun b4 =>
    (R id_isoSame [AV.row 4 l3, AV.row 4 l5]).bind fun r7 =>
    asB r7.v fun b5 =>
    bif b4 == b5 then
    (bif !b1 then
    ((R id_law18Wakes []).bind fun r8 =>
    asB r8.v fun b6 =>
    some ⟨AV.bool b6, false, []⟩)
    else
    (R id_isoSame [AV.row 4 l3, AV.row 4 l5]).bind fun r9 =>
    asB r9.v fun b7 =>
    bif b7 then
    ((R id_law18Wakes []).bind fun r10 =>
    asB r10.v fun b8 =>
    some ⟨AV.bool b8, false, []⟩)
    else
    some ⟨AV.bool false, false, []⟩)
    else
    some ⟨AV.bool false, false, []⟩)
    else
    some ⟨AV.bool false, false, []⟩)
  else
    (R id_isoSame [AV.row 4 l3, AV.row 4 l4]).bind fun r11 =>
    asB r11.v fun b9 =>
    (R id_ref18Same [AV.row 4 l3, AV.row 4 l4]).bind fun r12 =>
    asB r12.v fun b10 =>
    bif b9 == b10 then
    ((R id_isoSame [AV.row 4 l4, AV.row 4 l3]).bind fun r13 =>
    asB r13.v fun b11 =>
    (R id_isoSame [AV.row 4 l3, AV.row 4 l4]).bind fun r14 =>
    asB r14.v fun b12 =>
    bif b11 == b12 then
    (bif !b1 then
    ((R id_law18Wakes []).bind fun r15 =>
    asB r15.v fun b13 =>
    some ⟨AV.bool b13, false, []⟩)
    else
    (R id_isoSame [AV.row 4 l3, AV.row 4 l4]).bind fun r16 =>
    asB r16.v fun b14 =>
    bif b14 then
    ((R id_law18Wakes []).bind fun r17 =>
    asB r17.v fun b15 =>
    some ⟨AV.bool b15, false, []⟩)
    else
    some ⟨AV.bool false, false, []⟩)
    else
    some ⟨AV.bool false, false, []⟩)
    else
    some ⟨AV.bool false, false, []⟩
theorem law18IsoSame_eq (R : Nat → List AV → Option Res) (N : Nat) (l1 : List AV) (l2 : List AV) (b1 : Bool) : runF gl R N law18IsoSame [AV.row 5 l1, AV.row 5 l2, AV.bool b1] = law18IsoSamer R N l1 l2 b1 := by
  kernel_rfl
theorem law18IsoSame_fit : fitF Tryd.prog law18IsoSame Tryd.f7 = true := by
  kernel_rfl

def keepLend_c1 : AC := .seq (.region [.op (some 2) none (.nilOwn 11 none)]) (.stuck)
def keepLend : AFunc := ⟨1, 32, [.tmp 2], keepLend_c1⟩
def keepLendr (R : Nat → List AV → Option Res) (N : Nat) (s1 : List UInt8) : Option Res :=
  none
theorem keepLend_eq (R : Nat → List AV → Option Res) (N : Nat) (s1 : List UInt8) : runF gl R N keepLend [AV.bytes s1] = keepLendr R N s1 := by
  kernel_rfl
theorem keepLend_fit : fitF Tryd.prog keepLend Tryd.f38 = true := by
  kernel_rfl

def isoValid1_c0 : AC := .seq (.region [.op (some 2) none (.box 1002 (.t 0) 4), .op (some 3) none (.mv (.k (AV.bool false)))]) (.seq (.region [.op (some 4) none (.loadC (.t 1) none (.row 4)), .op (some 5) none (.load (.t 2) (some 4) (.agg [.int .i64, .str, .str, .row 1])), .op (some 6) none (.call id_isoRight [.t 4, .t 5] (.bool)), .op (some 7) none (.un .not (.t 6)), .op (some 3) none (.mv (.t 7))]) (.ret [3] []))
def isoValid1 : AFunc := ⟨2, 8, [.tmp 3], isoValid1_c0⟩
def isoValid1r (R : Nat → List AV → Option Res) (N : Nat) (i1 : Int) (s1 : List UInt8) (s2 : List UInt8) (l1 : List AV) (l2 : List AV) : Option Res :=
  (R id_isoRight [AV.row 4 l2, AV.agg [AV.int .i64 i1, AV.str s1, AV.str s2, AV.row 1 l1]]).bind fun r1 =>
  asB r1.v fun b1 =>
  some ⟨AV.bool (!b1), false, []⟩
theorem isoValid1_eq (R : Nat → List AV → Option Res) (N : Nat) (i1 : Int) (s1 : List UInt8) (s2 : List UInt8) (l1 : List AV) (l2 : List AV) : runF gl R N isoValid1 [AV.agg [AV.int .i64 i1, AV.str s1, AV.str s2, AV.row 1 l1], AV.cell [AV.row 4 l2]] = isoValid1r R N i1 s1 s2 l1 l2 := by
  kernel_rfl
theorem isoValid1_fit : fitF Tryd.prog isoValid1 Tryd.f51 = true := by
  kernel_rfl

def isoSame1_c0 : AC := .seq (.region [.op (some 2) none (.box 1002 (.t 0) 4), .op (some 3) none (.box 1003 (.t 1) 4), .op (some 4) none (.mv (.k (AV.bool false)))]) (.seq (.region [.op (some 5) none (.faddr (.t 2) 0), .op (some 6) none (.load (.t 5) none (.int .i64)), .op (some 7) none (.faddr (.t 3) 0), .op (some 8) none (.load (.t 7) none (.int .i64)), .op (some 9) none (.bin .eql (.t 6) (.t 8)), .op (some 10) none (.mv (.t 9)), .split 10, .op (some 11) (some (10, true)) (.faddr (.t 2) 1), .op (some 12) (some (10, true)) (.load (.t 11) none (.str)), .op (some 13) (some (10, true)) (.faddr (.t 3) 1), .op (some 14) (some (10, true)) (.load (.t 13) none (.str)), .op (some 15) (some (10, true)) (.bin .eql (.t 12) (.t 14)), .op (some 16) none (.pick (.t 10) (.t 15) (.k (AV.bool false))), .op (some 17) none (.mv (.t 16)), .split 17, .op (some 18) (some (17, true)) (.faddr (.t 2) 2), .op (some 19) (some (17, true)) (.load (.t 18) none (.str)), .op (some 20) (some (17, true)) (.faddr (.t 3) 2), .op (some 21) (some (17, true)) (.load (.t 20) none (.str)), .op (some 22) (some (17, true)) (.bin .eql (.t 19) (.t 21)), .op (some 23) none (.pick (.t 17) (.t 22) (.k (AV.bool false))), .op (some 24) none (.mv (.t 23)), .split 24, .op (some 25) (some (24, true)) (.faddr (.t 2) 3), .op (some 26) (some (24, true)) (.load (.t 25) none (.row 1)), .op (some 27) (some (24, true)) (.faddr (.t 3) 3), .op (some 28) (some (24, true)) (.load (.t 27) none (.row 1)), .op (some 29) (some (24, true)) (.call id_slicesEqualIntInt [.t 26, .t 28] (.bool)), .op (some 30) none (.pick (.t 24) (.t 29) (.k (AV.bool false))), .op (some 4) none (.mv (.t 30))]) (.ret [4] []))
def isoSame1 : AFunc := ⟨2, 31, [.tmp 4], isoSame1_c0⟩
def isoSame1r (R : Nat → List AV → Option Res) (N : Nat) (i1 : Int) (s1 : List UInt8) (s2 : List UInt8) (l1 : List AV) (i2 : Int) (s3 : List UInt8) (s4 : List UInt8) (l2 : List AV) : Option Res :=
  bif (i1 : Int) == i2 then
    (bif s1 == s3 then
    (bif s2 == s4 then
    ((R id_slicesEqualIntInt [AV.row 1 l1, AV.row 1 l2]).bind fun r1 =>
    asB r1.v fun b1 =>
    some ⟨AV.bool b1, false, []⟩)
    else
    some ⟨AV.bool false, false, []⟩)
    else
    some ⟨AV.bool false, false, []⟩)
  else
    some ⟨AV.bool false, false, []⟩
theorem isoSame1_eq (R : Nat → List AV → Option Res) (N : Nat) (i1 : Int) (s1 : List UInt8) (s2 : List UInt8) (l1 : List AV) (i2 : Int) (s3 : List UInt8) (s4 : List UInt8) (l2 : List AV) : runF gl R N isoSame1 [AV.agg [AV.int .i64 i1, AV.str s1, AV.str s2, AV.row 1 l1], AV.agg [AV.int .i64 i2, AV.str s3, AV.str s4, AV.row 1 l2]] = isoSame1r R N i1 s1 s2 l1 i2 s3 s4 l2 := by
  kernel_rfl
theorem isoSame1_fit : fitF Tryd.prog isoSame1 Tryd.f57 = true := by
  kernel_rfl

def table : List (Nat × AFunc) := [(id_isoKeyed, isoKeyed), (id_isoRight, isoRight), (id_slicesEqualIntInt, slicesEqualIntInt), (id_keepWithin, keepWithin), (id_bytesIndexByte, bytesIndexByte), (id_internalStringsliteHasPrefix, internalStringsliteHasPrefix), (id_internalStringsliteCutPrefix, internalStringsliteCutPrefix), (id_stringsCutPrefix, stringsCutPrefix), (id_charsDigit, charsDigit), (id_charsLetter, charsLetter), (id_charsName, charsName), (id_internalStringsliteTrimPrefix, internalStringsliteTrimPrefix), (id_stringsTrimPrefix, stringsTrimPrefix), (id_propsValidTag, propsValidTag), (id_unicodeUtf8DecodeRuneSlow, unicodeUtf8DecodeRuneSlow), (id_unicodeUtf8DecodeRune, unicodeUtf8DecodeRune), (id_slicesIndexFuncScholiumApiThingScholiumApiThing, slicesIndexFuncScholiumApiThingScholiumApiThing), (id_slicesContainsFuncScholiumApiThingScholiumApiThing, slicesContainsFuncScholiumApiThingScholiumApiThing), (id_isoValid, isoValid), (id_slicesCloneIntInt, slicesCloneIntInt), (id_isoOrder, isoOrder), (id_isoCanon, isoCanon), (id_slicesEqualFuncScholiumApiThingScholiumApiThingScholiumApiThingScholiumApiThing, slicesEqualFuncScholiumApiThingScholiumApiThingScholiumApiThingScholiumApiThing), (id_isoSame, isoSame), (id_keepCopyApiThing, keepCopyApiThing), (id_law18Wakes, law18Wakes), (id_keepText, keepText), (id_ref01Rune, ref01Rune), (id_ref01Escape, ref01Escape), (id_ref01Printable, ref01Printable), (id_ref01Hex, ref01Hex), (id_ref01PutDouble, ref01PutDouble), (id_keepCopyInt, keepCopyInt), (id_keepCutInt, keepCutInt), (id_law18Graph, law18Graph), (id_ref18SameLow, ref18SameLow), (id_ref18Same, ref18Same), (id_law18IsoSame, law18IsoSame), (id_keepLend, keepLend), (id_isoValid1, isoValid1), (id_isoSame1, isoSame1)]
theorem table_fits : Fits Tryd.prog table := ⟨⟨_, Tryd.func79, isoKeyed_fit⟩, ⟨_, Tryd.func52, isoRight_fit⟩, ⟨_, Tryd.func58, slicesEqualIntInt_fit⟩, ⟨_, Tryd.func14, keepWithin_fit⟩, ⟨_, Tryd.func44, bytesIndexByte_fit⟩, ⟨_, Tryd.func92, internalStringsliteHasPrefix_fit⟩, ⟨_, Tryd.func74, internalStringsliteCutPrefix_fit⟩, ⟨_, Tryd.func47, stringsCutPrefix_fit⟩, ⟨_, Tryd.func93, charsDigit_fit⟩, ⟨_, Tryd.func75, charsLetter_fit⟩, ⟨_, Tryd.func48, charsName_fit⟩, ⟨_, Tryd.func76, internalStringsliteTrimPrefix_fit⟩, ⟨_, Tryd.func49, stringsTrimPrefix_fit⟩, ⟨_, Tryd.func17, propsValidTag_fit⟩, ⟨_, Tryd.func97, unicodeUtf8DecodeRuneSlow_fit⟩, ⟨_, Tryd.func90, unicodeUtf8DecodeRune_fit⟩, ⟨_, Tryd.func77, slicesIndexFuncScholiumApiThingScholiumApiThing_fit⟩, ⟨_, Tryd.func50, slicesContainsFuncScholiumApiThingScholiumApiThing_fit⟩, ⟨_, Tryd.func19, isoValid_fit⟩, ⟨_, Tryd.func61, slicesCloneIntInt_fit⟩, ⟨_, Tryd.func60, isoOrder_fit⟩, ⟨_, Tryd.func26, isoCanon_fit⟩, ⟨_, Tryd.func56, slicesEqualFuncScholiumApiThingScholiumApiThingScholiumApiThingScholiumApiThing_fit⟩, ⟨_, Tryd.func23, isoSame_fit⟩, ⟨_, Tryd.func28, keepCopyApiThing_fit⟩, ⟨_, Tryd.func20, law18Wakes_fit⟩, ⟨_, Tryd.func35, keepText_fit⟩, ⟨_, Tryd.func80, ref01Rune_fit⟩, ⟨_, Tryd.func81, ref01Escape_fit⟩, ⟨_, Tryd.func82, ref01Printable_fit⟩, ⟨_, Tryd.func83, ref01Hex_fit⟩, ⟨_, Tryd.func53, ref01PutDouble_fit⟩, ⟨_, Tryd.func84, keepCopyInt_fit⟩, ⟨_, Tryd.func54, keepCutInt_fit⟩, ⟨_, Tryd.func21, law18Graph_fit⟩, ⟨_, Tryd.func59, ref18SameLow_fit⟩, ⟨_, Tryd.func24, ref18Same_fit⟩, ⟨_, Tryd.func7, law18IsoSame_fit⟩, ⟨_, Tryd.func38, keepLend_fit⟩, ⟨_, Tryd.func51, isoValid1_fit⟩, ⟨_, Tryd.func57, isoSame1_fit⟩, trivial⟩
theorem table_fit : ∀ f F, get table f = some F → ∃ fn, Tryd.prog.funcs[f]? = some fn ∧ fitF Tryd.prog F fn = true := table_fits.get
end Go.Proofs.YtmpjohnbddnehaaDoor.Vf
