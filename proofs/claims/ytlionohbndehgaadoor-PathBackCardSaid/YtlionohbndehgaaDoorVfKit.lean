
/- What the machine answers by itself or by the library's contracts (X), what all functions answer (D), and small laws for reading them. No condition. -/
import Derived.Test.YtlionohbndehgaaDoorVfWalk2
import Derived.Lib.IndexLaws
import Derived.Lib.ValidU
import Derived.Lib.RuneBytes
import Derived.Lib.Atoi
import Derived.Lib.ItoaNum
namespace Go.Proofs.YtlionohbndehgaaDoor.Vf
set_option linter.unusedVariables false
set_option linter.unusedSimpArgs false

/-- The decoder, on a list of bytes. -/
def dec (l : List UInt8) : Nat × Nat := if l = [] then (65533, 0) else Lib.decodeN l.length (l.getD 0 0).toNat (l.getD 1 0).toNat (l.getD 2 0).toNat (l.getD 3 0).toNat

/-- The texts of a row of texts. -/
def strsOf : List AV → Option (List (List UInt8))
  | [] => some []
  | .str s :: r => (strsOf r).map (s :: ·)
  | _ :: _ => none
theorem strsOf_map (l : List (List UInt8)) : strsOf (l.map AV.str) = some l := by
  induction l with
  | nil => rfl
  | cons s l ih => simp only [List.map_cons, strsOf, ih, Option.map_some]
theorem strsOf_some : ∀ {xs : List AV} {l : List (List UInt8)}, strsOf xs = some l → xs = l.map AV.str
  | [], l, h => by simp only [strsOf, Option.some.injEq] at h; subst h; rfl
  | .str s :: r, l, h => by
    simp only [strsOf, Option.map_eq_some_iff] at h
    obtain ⟨l', h', rfl⟩ := h
    rw [strsOf_some h']; rfl
  | .int _ _ :: _, l, h => by simp [strsOf] at h
  | .bool _ :: _, l, h => by simp [strsOf] at h
  | .bytes _ :: _, l, h => by simp [strsOf] at h
  | .row _ _ :: _, l, h => by simp [strsOf] at h
  | .agg _ :: _, l, h => by simp [strsOf] at h
  | .tup _ :: _, l, h => by simp [strsOf] at h
  | .nilI :: _, l, h => by simp [strsOf] at h
  | .lent _ :: _, l, h => by simp [strsOf] at h
  | .fn _ _ :: _, l, h => by simp [strsOf] at h
  | .ref _ :: _, l, h => by simp [strsOf] at h

/-- What the machine answers by itself. -/
def X0 (f : Nat) (vs : List AV) : Option Res :=
  bif Nat.beq f id_internalBytealgIndexByteString then (match vs with
    | [.str s, .int .u8 n] => some ⟨.int .i64 (Lib.indexByte s n.toNat.toUInt8), false, []⟩
    | _ => none) else
  bif Nat.beq f id_unicodeUtf8ValidString then (match vs with
    | [.str s] => bif decide (s.length ≤ 1000000000) then some ⟨.bool (Lib.validD s), false, []⟩ else none
    | _ => none) else
  bif Nat.beq f id_strconvItoa then (match vs with
    | [.int .i64 n] => bif decide (-9223372036854775808 ≤ n) && decide (n ≤ 9223372036854775807) then some ⟨.str (Lib.itoa n), false, []⟩ else none
    | _ => none) else
  bif Nat.beq f id_strconvAtoi then (match vs with
    | [.str s] => bif decide (s.length ≤ 18) then (match Lib.atoi s with | some n => some ⟨.tup [.int .i64 n, .nilI], false, []⟩ | none => none) else none
    | _ => none) else
  none
noncomputable def D0 : Nat → List AV → Option Res := den gl (get table) (noRef X0)

/-- What a text is in double quotes. -/
def hexC (d : Nat) : UInt8 := ([48, 49, 50, 51, 52, 53, 54, 55, 56, 57, 65, 66, 67, 68, 69, 70] : List UInt8).getD d 0
def hexL : Nat → Nat → List UInt8
  | 0, _ => []
  | k + 1, n => hexL k (n / 16) ++ [hexC (n % 16)]
def escTab : List (Nat × UInt8) := [(0, 48), (7, 97), (8, 98), (9, 116), (10, 110), (11, 118), (12, 102), (13, 114), (27, 101), (133, 78), (160, 95), (8232, 76), (8233, 80)]
def escOf : List (Nat × UInt8) → Nat → Option UInt8
  | [], _ => none
  | (k, c) :: t, r => if k = r then some c else escOf t r
def prints (r : Nat) : Bool := decide ((32 ≤ r ∧ r ≤ 126) ∨ r = 133 ∨ (160 ≤ r ∧ r < 55296) ∨ (57343 < r ∧ r ≤ 1114111 ∧ r ≠ 65279 ∧ r ≠ 65534 ∧ r ≠ 65535))
def oneL (r : Nat) : List UInt8 :=
  match escOf escTab r with
  | some c => [92, c]
  | none =>
    if r = 34 ∨ r = 92 then 92 :: Lib.encodeRune r
    else if prints r = true then Lib.encodeRune r
    else if r < 256 then 92 :: 120 :: hexL 2 r
    else if r < 65536 then 92 :: 117 :: hexL 4 r
    else 92 :: 85 :: hexL 8 r
def putGo : Nat → List UInt8 → List UInt8
  | 0, _ => []
  | k + 1, l => if l = [] then [] else oneL (dec l).1 ++ putGo k (l.drop (dec l).2)
def putL (s : List UInt8) : List UInt8 := 34 :: putGo s.length s ++ [34]
/-- What the machine answers by itself, or a contract of ours says. -/
def X (f : Nat) (vs : List AV) : Option Res :=
  bif Nat.beq f id_doublePut then (match vs with
    | [.str s] => bif decide (s.length ≤ 1000000) then some ⟨.tup [.str (if Lib.validD s = true then putL s else []), .bool (Lib.validD s)], false, []⟩ else none
    | _ => none) else
  X0 f vs
def XR (f : Nat) (vs : List AV) : Option Res := noRef X f vs
noncomputable def D : Nat → List AV → Option Res := den gl (get table) XR
theorem D0_ext {f : Nat} {vs : List AV} {v : AV} {own : Bool} (h : X0 f vs = some ⟨v, own, []⟩) (hr : vs.any AV.isRef = false := by rfl) : D0 f vs = some ⟨v, own, []⟩ := den_ext (by unfold noRef; rw [hr, h]; rfl)
theorem D_ext {f : Nat} {vs : List AV} {v : AV} {own : Bool} (h : X f vs = some ⟨v, own, []⟩) (hr : vs.any AV.isRef = false := by rfl) : D f vs = some ⟨v, own, []⟩ := den_ext (by unfold XR noRef; rw [hr, h]; rfl)

theorem wrap_i64 {x : Int} (h0 : -9223372036854775808 ≤ x) (h1 : x ≤ 9223372036854775807) : IntKind.i64.wrap x = x := by
  have e : IntKind.i64.wrap x = if decide (x % 18446744073709551616 ≥ 9223372036854775808) = true then x % 18446744073709551616 - 18446744073709551616 else x % 18446744073709551616 := rfl
  rw [e]
  by_cases h : x % 18446744073709551616 ≥ 9223372036854775808
  · rw [if_pos (by simpa using h)]; omega
  · rw [if_neg (by simpa using h)]; omega
theorem wrap_i32 {x : Int} (h0 : -2147483648 ≤ x) (h1 : x ≤ 2147483647) : IntKind.i32.wrap x = x := by
  have e : IntKind.i32.wrap x = if decide (x % 4294967296 ≥ 2147483648) = true then x % 4294967296 - 4294967296 else x % 4294967296 := rfl
  rw [e]
  by_cases h : x % 4294967296 ≥ 2147483648
  · rw [if_pos (by simpa using h)]; omega
  · rw [if_neg (by simpa using h)]; omega
theorem wrap_u8 {x : Int} (h0 : 0 ≤ x) (h1 : x ≤ 255) : IntKind.u8.wrap x = x := by
  have e : IntKind.u8.wrap x = if (false && decide (x % 256 ≥ 128)) = true then x % 256 - 256 else x % 256 := rfl
  rw [e]
  simp only [Bool.false_and, Bool.false_eq_true, if_false]; omega
theorem wrap_u32 {x : Int} (h0 : 0 ≤ x) (h1 : x ≤ 4294967295) : IntKind.u32.wrap x = x := by
  have e : IntKind.u32.wrap x = if (false && decide (x % 4294967296 ≥ 2147483648)) = true then x % 4294967296 - 4294967296 else x % 4294967296 := rfl
  rw [e]
  simp only [Bool.false_and, Bool.false_eq_true, if_false]; omega

section kit
variable {α : Type}
theorem need_d {p : Prop} [Decidable p] {x : Option α} (h : p) : need (decide p) x = x := by simp [need, h]
theorem need_d2 {p q : Prop} [Decidable p] [Decidable q] {x : Option α} (h : p) (h' : q) : need (decide p && decide q) x = x := by simp [need, h, h']
theorem need_nd {p : Prop} [Decidable p] {x : Option α} (h : ¬ p) : need (!decide p) x = x := by simp [need, h]
theorem need_true {x : Option α} : need true x = x := rfl
theorem cond_d {β : Type} {p : Prop} [Decidable p] {x y : β} (h : p) : (bif decide p then x else y) = x := by simp [h]
theorem cond_nd {β : Type} {p : Prop} [Decidable p] {x y : β} (h : ¬ p) : (bif decide p then x else y) = y := by simp [h]
theorem cond_eq {β : Type} {a b : Int} {x y : β} (h : a = b) : (bif a == b then x else y) = x := by simp [h]
theorem cond_ne {β : Type} {a b : Int} {x y : β} (h : a ≠ b) : (bif a == b then x else y) = y := by rw [beq_false_of_ne h]; rfl
theorem cond_beq {β : Type} {a b : Int} {x y : β} (h : a = b) : (bif a != b then x else y) = y := by simp [h]
theorem cond_bne {β : Type} {a b : Int} {x y : β} (h : a ≠ b) : (bif a != b then x else y) = x := by rw [bne_iff_ne.2 h]; rfl
theorem asI_i {k : IntKind} {n : Int} {K : Int → Option α} : asI k (.int k n) K = K n := by simp [asI]
theorem asB_b {b : Bool} {K : Bool → Option α} : asB (.bool b) K = K b := rfl
theorem asS_s {s : List UInt8} {K : List UInt8 → Option α} : asS (.str s) K = K s := rfl
theorem asY_y {s : List UInt8} {K : List UInt8 → Option α} : asY (.bytes s) K = K s := rfl
theorem asL_l {s : List UInt8} {K : List UInt8 → Option α} : asL (.lent s) K = K s := rfl
theorem asR_r {z : Nat} {l : List AV} {K : List AV → Option α} : asR z (.row z l) K = K l := by simp [asR]
theorem asA_a {l : List AV} {K : List AV → Option α} : asA (.agg l) K = K l := rfl
theorem asT_t {l : List AV} {K : List AV → Option α} : asT (.tup l) K = K l := rfl
theorem asC_c {x : AV} {l : List AV} {K : AV → List AV → Option α} : asC (x :: l) K = K x l := rfl
theorem asN_n {K : Option α} : asN [] K = K := rfl
theorem get_b {s : List UInt8} {i : Int} {f : UInt8 → Option α} (h : i.toNat < s.length) : (s[i.toNat]?).bind f = f (s.getD i.toNat 0) := by
  rw [List.getElem?_eq_getElem h]; simp [List.getD, h]
theorem get_bn {s : List UInt8} {i : Nat} {f : UInt8 → Option α} (h : i < s.length) : (s[i]?).bind f = f (s.getD i 0) := by
  rw [List.getElem?_eq_getElem h]; simp [List.getD, h]
theorem getl_bn {l : List AV} {i : Nat} {f : AV → Option α} (h : i < l.length) : (l[i]?).bind f = f (l.getD i .nilI) := by
  rw [List.getElem?_eq_getElem h]; simp [List.getD, h]
theorem toNat_eq {c : UInt8} {k : Nat} (h : k < 256) : c = UInt8.ofNat k ↔ c.toNat = k := by
  constructor
  · rintro rfl; simp; omega
  · intro e; apply UInt8.toNat_inj.1; rw [e]; simp; omega
theorem byte_lt (c : UInt8) : c.toNat < 256 := UInt8.toNat_lt c
theorem length_pos_of {s : List UInt8} (h : s ≠ []) : 0 < s.length := List.length_pos_iff.2 h
theorem bool_cond {β : Type} {b : Bool} {x y : β} : (bif b then x else y) = if b = true then x else y := by cases b <;> rfl
end kit

/-- A rune at the beginning, how many bytes it has, whether there is one. -/
def rune (l : List UInt8) : Nat × Nat × Bool := if (dec l).1 = 65533 ∧ (dec l).2 < 2 then (0, (dec l).2, false) else ((dec l).1, (dec l).2, true)

end Go.Proofs.YtlionohbndehgaaDoor.Vf
