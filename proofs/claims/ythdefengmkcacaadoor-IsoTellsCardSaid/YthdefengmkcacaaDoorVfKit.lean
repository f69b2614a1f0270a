
/- What the machine answers by itself or by the library's contracts (X), what all functions answer (D), and small laws for reading them. No condition. -/
import Derived.Test.YthdefengmkcacaaDoorVfWalk2
import Derived.Lib.IndexLaws
import Derived.Lib.ValidU
namespace Go.Proofs.YthdefengmkcacaaDoor.Vf
set_option linter.unusedVariables false
set_option linter.unusedSimpArgs false

/-- The decoder, on a list of bytes. -/
def dec (l : List UInt8) : Nat × Nat := if l = [] then (65533, 0) else Lib.decodeN l.length (l.getD 0 0).toNat (l.getD 1 0).toNat (l.getD 2 0).toNat (l.getD 3 0).toNat

/-- What the machine answers by itself. -/
def X0 (f : Nat) (vs : List AV) : Option Res :=
  bif Nat.beq f id_unicodeUtf8ValidString then (match vs with
    | [.str s] => bif decide (s.length ≤ 1000000000) then some ⟨.bool (Lib.validD s), false, []⟩ else none
    | _ => none) else
  none
/-- A thing of a graph, whatever its texts are. -/
structure GTx (α : Type) where
  kind : Int
  tag : α
  value : α
  kids : List Int
instance {α : Type} [Inhabited α] : Inhabited (GTx α) := ⟨⟨0, default, default, []⟩⟩
abbrev CSx (α : Type) := List Int × List (GTx α)
def addKid {α : Type} [Inhabited α] (n : Nat) (x : Int) (l : List (GTx α)) : List (GTx α) := l.set n { l.getD n default with kids := (l.getD n default).kids ++ [x] }
def kidsP {α : Type} [Inhabited α] (rec : Nat → CSx α → Int × CSx α) (n : Nat) : List Int → CSx α → CSx α
  | [], s => s
  | k :: r, s => kidsP rec n r ((rec k.toNat s).2.1, addKid n (rec k.toNat s).1 (rec k.toNat s).2.2)
/-- Meet a thing: its number, and what has been met. -/
def meetP {α : Type} [Inhabited α] (g : List (GTx α)) : Nat → Nat → CSx α → Int × CSx α
  | 0, i, s => (s.1.getD i 0, s)
  | f + 1, i, s => if 0 ≤ s.1.getD i 0 then (s.1.getD i 0, s) else
      ((s.2.length : Int), kidsP (meetP g f) s.2.length (g.getD i default).kids (s.1.set i (s.2.length : Int), s.2 ++ [{ g.getD i default with kids := [] }]))
def canonS {α : Type} [Inhabited α] (g : List (GTx α)) : CSx α := (meetP g (g.length + 1) 0 (List.replicate g.length (-1), [])).2
def iA (l : List Int) : List AV := l.map (AV.int .i64)
def GTx.av (t : GTx (List UInt8)) : AV := .agg [.int .i64 t.kind, .str t.tag, .str t.value, .row 1 (iA t.kids)]
def intsOfX : List AV → Option (List Int)
  | [] => some []
  | .int .i64 n :: r => (intsOfX r).bind fun l => some (n :: l)
  | _ => none
def thsOf : List AV → Option (List (GTx (List UInt8)))
  | [] => some []
  | .agg [.int .i64 k, .str t, .str v, .row 1 ks] :: r => (intsOfX ks).bind fun q => (thsOf r).bind fun l => some (⟨k, t, v, q⟩ :: l)
  | _ => none
def canonOk (l : List (GTx (List UInt8))) : Bool := decide (0 < l.length) && decide (l.length ≤ 1000000000) && l.all fun t => decide (t.kids.length ≤ 1000000000) && t.kids.all fun k => decide (0 ≤ k) && decide (k < (l.length : Int))
/-- What the machine answers by itself, or a contract of ours says. -/
def X (f : Nat) (vs : List AV) : Option Res :=
  bif Nat.beq f id_ref18Canon then (match vs with
    | [.row 4 xs] => (thsOf xs).bind fun l => bif canonOk l then some ⟨.row 4 ((canonS l).2.map GTx.av), false, []⟩ else none
    | _ => none) else
  X0 f vs
def intsOf : List AV → Option (List Int)
  | [] => some []
  | .int .i64 n :: r => (intsOf r).bind fun l => some (n :: l)
  | _ => none
/-- .. and what of rows that are lent to it. -/
def XR (f : Nat) (vs : List AV) : Option Res := match noRef X f vs with
  | some r => some r
  | none => bif Nat.beq f id_slicesReverseIntInt then (match vs with
    | [.ref (.row 1 xs)] => (intsOf xs).bind fun l => bif decide (l.length ≤ 1000000000000) then some ⟨.tup [], false, [.ref (.row 1 (l.reverse.map (AV.int .i64)))]⟩ else none
    | _ => none) else none
noncomputable def D : Nat → List AV → Option Res := den gl (get table) XR
theorem D_ext {f : Nat} {vs : List AV} {v : AV} {own : Bool} (h : X f vs = some ⟨v, own, []⟩) (hr : vs.any AV.isRef = false := by rfl) : D f vs = some ⟨v, own, []⟩ := den_ext (by unfold XR noRef; rw [hr, h]; rfl)

theorem wrap_i64 {x : Int} (h0 : -9223372036854775808 ≤ x) (h1 : x ≤ 9223372036854775807) : IntKind.i64.wrap x = x := by
  have e : IntKind.i64.wrap x = if decide (x % 18446744073709551616 ≥ 9223372036854775808) = true then x % 18446744073709551616 - 18446744073709551616 else x % 18446744073709551616 := rfl
  rw [e]
  by_cases h : x % 18446744073709551616 ≥ 9223372036854775808
  · rw [if_pos (by simpa using h)]; omega
  · rw [if_neg (by simpa using h)]; omega
theorem wrap_i32 {x : Int} (h0 : -2147483648 ≤ x) (h1 : x ≤ 2147483647) : IntKind.i32.wrap x = x := by
  have e : IntKind.i32.wrap x = if decide (x % 4294967296 ≥ 2147483648) = true then x % 4294967296 - 4294967296 else x % 4294967296 := rfl
  rw [e]
  by_cases h : x % 4294967296 ≥ 2147483648
  · rw [if_pos (by simpa using h)]; omega
  · rw [if_neg (by simpa using h)]; omega
theorem wrap_u8 {x : Int} (h0 : 0 ≤ x) (h1 : x ≤ 255) : IntKind.u8.wrap x = x := by
  have e : IntKind.u8.wrap x = if (false && decide (x % 256 ≥ 128)) = true then x % 256 - 256 else x % 256 := rfl
  rw [e]
  simp only [Bool.false_and, Bool.false_eq_true, if_false]; omega
theorem wrap_u32 {x : Int} (h0 : 0 ≤ x) (h1 : x ≤ 4294967295) : IntKind.u32.wrap x = x := by
  have e : IntKind.u32.wrap x = if (false && decide (x % 4294967296 ≥ 2147483648)) = true then x % 4294967296 - 4294967296 else x % 4294967296 := rfl
  rw [e]
  simp only [Bool.false_and, Bool.false_eq_true, if_false]; omega

section kit
variable {α : Type}
theorem need_d {p : Prop} [Decidable p] {x : Option α} (h : p) : need (decide p) x = x := by simp [need, h]
theorem need_d2 {p q : Prop} [Decidable p] [Decidable q] {x : Option α} (h : p) (h' : q) : need (decide p && decide q) x = x := by simp [need, h, h']
theorem need_nd {p : Prop} [Decidable p] {x : Option α} (h : ¬ p) : need (!decide p) x = x := by simp [need, h]
theorem need_true {x : Option α} : need true x = x := rfl
theorem cond_d {β : Type} {p : Prop} [Decidable p] {x y : β} (h : p) : (bif decide p then x else y) = x := by simp [h]
theorem cond_nd {β : Type} {p : Prop} [Decidable p] {x y : β} (h : ¬ p) : (bif decide p then x else y) = y := by simp [h]
theorem cond_eq {β : Type} {a b : Int} {x y : β} (h : a = b) : (bif a == b then x else y) = x := by simp [h]
theorem cond_ne {β : Type} {a b : Int} {x y : β} (h : a ≠ b) : (bif a == b then x else y) = y := by rw [beq_false_of_ne h]; rfl
theorem cond_beq {β : Type} {a b : Int} {x y : β} (h : a = b) : (bif a != b then x else y) = y := by simp [h]
theorem cond_bne {β : Type} {a b : Int} {x y : β} (h : a ≠ b) : (bif a != b then x else y) = x := by rw [bne_iff_ne.2 h]; rfl
theorem asI_i {k : IntKind} {n : Int} {K : Int → Option α} : asI k (.int k n) K = K n := by simp [asI]
theorem asB_b {b : Bool} {K : Bool → Option α} : asB (.bool b) K = K b := rfl
theorem asS_s {s : List UInt8} {K : List UInt8 → Option α} : asS (.str s) K = K s := rfl
theorem asR_r {z : Nat} {l : List AV} {K : List AV → Option α} : asR z (.row z l) K = K l := by simp [asR]
theorem asA_a {l : List AV} {K : List AV → Option α} : asA (.agg l) K = K l := rfl
theorem asT_t {l : List AV} {K : List AV → Option α} : asT (.tup l) K = K l := rfl
theorem asC_c {x : AV} {l : List AV} {K : AV → List AV → Option α} : asC (x :: l) K = K x l := rfl
theorem asN_n {K : Option α} : asN [] K = K := rfl
theorem get_bn {s : List UInt8} {i : Nat} {f : UInt8 → Option α} (h : i < s.length) : (s[i]?).bind f = f (s.getD i 0) := by
  rw [List.getElem?_eq_getElem h]; simp [List.getD, h]
theorem byte_lt (c : UInt8) : c.toNat < 256 := UInt8.toNat_lt c
theorem length_pos_of {s : List UInt8} (h : s ≠ []) : 0 < s.length := List.length_pos_iff.2 h
theorem bool_cond {β : Type} {b : Bool} {x y : β} : (bif b then x else y) = if b = true then x else y := by cases b <;> rfl
end kit

/-- A rune at the beginning, how many bytes it has, whether there is one. -/
def rune (l : List UInt8) : Nat × Nat × Bool := if (dec l).1 = 65533 ∧ (dec l).2 < 2 then (0, (dec l).2, false) else ((dec l).1, (dec l).2, true)

end Go.Proofs.YthdefengmkcacaaDoor.Vf
