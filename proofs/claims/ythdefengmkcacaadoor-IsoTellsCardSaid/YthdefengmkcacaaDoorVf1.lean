/- A verified evaluator of the model's code, part 1: what it answers is what the machine comes to. No condition. -/
import Derived.Calls
import Derived.Laws.Sem
import Derived.Maps.RangeRun
import Derived.MapKept
import Derived.Tactics
import Derived.Laws.Strings
import Derived.Laws.BytesString
import Derived.Laws.Cells
import Derived.Laws.Tables
import Derived.Great.BuildSlice
import Derived.Laws.AppendOwn
import Derived.Laws.MakeOwn
import Derived.Laws.IdiomStrings
import Derived.Laws.OwnMore
import Derived.Laws.StructEq
import Derived.Laws.RangeString
import Derived.Lib.OthersKept
import Derived.LoopN
import Derived.StillTail
import Derived.KernelRfl
namespace Go.Proofs.YthdefengmkcacaaDoor.Vf
set_option linter.unusedVariables false
set_option linter.unusedSimpArgs false

/-- Abstract values. -/
inductive AV where
  | int (k : IntKind) (n : Int)
  | bool (b : Bool)
  | str (s : List UInt8)
  | bytes (s : List UInt8)
  | row (sz : Nat) (xs : List AV)
  | agg (cs : List AV)
  | tup (vs : List AV)
  | nilI
  | nilR (sz : Nat)
  | lent (s : List UInt8)
  | fn (f : Nat) (cs : List AV)
  | ref (c : AV)
  | cell (cs : List AV)

def AV.flat : AV → List AV
  | .agg cs => cs
  | v => [v]

def flats (xs : List AV) : List AV := xs.flatMap AV.flat

/-- Nothing of memory. -/
def AV.atom : AV → Bool
  | .int _ _ => true
  | .bool _ => true
  | .str _ => true
  | _ => false
def AV.plainV : AV → Bool
  | .agg cs => cs.all AV.atom
  | v => v.atom
/-- The machine's own value of such a one. -/
def AV.apv : AV → Value
  | .int k n => .int k n
  | .bool b => .bool b
  | .str s => .string ⟨s.toArray⟩
  | _ => .agg #[]
def AV.pv : AV → Value
  | .agg cs => .agg (cs.map AV.apv).toArray
  | v => v.apv

mutual
inductive Rel (w : World) (B : Nat → Prop) : AV → Value → Prop
  | int (k : IntKind) (n : Int) : Rel w B (.int k n) (.int k n)
  | bool (b : Bool) : Rel w B (.bool b) (.bool b)
  | str (s : ByteArray) : Rel w B (.str s.data.toList) (.string s)
  | bnil (a : Option Addr) (cap : Nat) : Rel w B (.bytes []) (.slice a 0 cap)
  | rnil (sz : Nat) (a : Option Addr) (cap : Nat) : Rel w B (.row sz []) (.slice a 0 cap)
  | bytes (s : List UInt8) (b o cap : Nat) (hb : b < w.heap.size) (hB : ¬ B b) (hc : s.length ≤ cap)
      (hs : ∀ j x, s[j]? = some x → w.cell? ⟨b, o + j, none⟩ = some (.int .u8 x.toNat)) : Rel w B (.bytes s) (.slice (some ⟨b, o, none⟩) s.length cap)
  | row (sz : Nat) (xs : List AV) (vs : List Value) (b o cap : Nat) (hb : b < w.heap.size) (hB : ¬ B b) (hc : xs.length ≤ cap)
      (hz : ∀ x ∈ xs, x.flat.length = sz) (h1 : ∀ v ∈ vs, v.oneCell' = true) (hr : RelL w B (flats xs) vs)
      (hs : ∀ j v, vs[j]? = some v → w.cell? ⟨b, o + j, none⟩ = some v) : Rel w B (.row sz xs) (.slice (some ⟨b, o, none⟩) xs.length cap)
  | agg (cs : List AV) (vs : List Value) (h : RelL w B cs vs) : Rel w B (.agg cs) (.agg vs.toArray)
  | tup (cs : List AV) (vs : List Value) (h : RelL w B cs vs) : Rel w B (.tup cs) (.tuple vs.toArray)
  | fn (f : Nat) (cs : List AV) (vs : List Value) (h : RelL w B cs vs) : Rel w B (.fn f cs) (.func (.func f) #[] vs.toArray)
  | nilI : Rel w B .nilI .nilIface
  | nilR (sz : Nat) : Rel w B (.nilR sz) (.slice none 0 0)
  | lent (s : List UInt8) (b o : Nat) (hb : b < w.heap.size) (hB : ¬ B b) (hs : ∀ j x, (s ++ [85, 85, 85])[j]? = some x → w.cell? ⟨b, o + j, none⟩ = some (.int .u8 x.toNat)) : Rel w B (.lent s) (.slice (some ⟨b, o, none⟩) s.length (s.length + 3))
  | cell (cs : List AV) (vs : List Value) (b o : Nat) (hb : b < w.heap.size) (hB : ¬ B b) (hr : RelL w B cs vs)
      (hs : ∀ j v, vs[j]? = some v → w.cell? ⟨b, o + j, none⟩ = some v) : Rel w B (.cell cs) (.pointer (some ⟨b, o, none⟩))
inductive RelL (w : World) (B : Nat → Prop) : List AV → List Value → Prop
  | nil : RelL w B [] []
  | cons (x : AV) (v : Value) (xs : List AV) (vs : List Value) (h : Rel w B x v) (t : RelL w B xs vs) : RelL w B (x :: xs) (v :: vs)
end

/-- All blocks of `w` outside of `B` are in `w'` as they were. -/
structure Agree (B : Nat → Prop) (w w' : World) : Prop where
  le : w.heap.size ≤ w'.heap.size
  eq : ∀ b, b < w.heap.size → ¬ B b → w'.heap[b]? = w.heap[b]?
  out : w'.os = w.os ∧ w'.tape = w.tape ∧ w'.output = w.output := by exact ⟨rfl, rfl, rfl⟩

theorem Agree.refl (B : Nat → Prop) (w : World) : Agree B w w := ⟨Nat.le_refl _, fun _ _ _ => rfl, ⟨rfl, rfl, rfl⟩⟩

theorem Agree.cell {B : Nat → Prop} {w w' : World} (h : Agree B w w') {b o : Nat} (hb : b < w.heap.size) (hB : ¬ B b) : w'.cell? ⟨b, o, none⟩ = w.cell? ⟨b, o, none⟩ := by
  simp only [World.cell?, h.2 b hb hB]

theorem Agree.trans {B : Nat → Prop} {w w' w'' : World} (h : Agree B w w') (h' : Agree B w' w'') : Agree B w w'' :=
  ⟨Nat.le_trans h.1 h'.1, fun b hb hB => by rw [h'.2 b (Nat.lt_of_lt_of_le hb h.1) hB, h.2 b hb hB], h'.3.1.trans h.3.1, h'.3.2.1.trans h.3.2.1, h'.3.2.2.trans h.3.2.2⟩

theorem Agree.mono {B B' : Nat → Prop} {w w' : World} (h : Agree B w w') (hB : ∀ b, b < w.heap.size → B b → B' b) : Agree B' w w' :=
  ⟨h.1, fun b hb hn => h.2 b hb fun hh => hn (hB b hb hh), h.3⟩

mutual
/-- What a value stands for stays, if nothing that it reaches is written. -/
theorem Rel.mono {w w' : World} {B B' : Nat → Prop} (hA : Agree B w w') (hB : ∀ b, b < w.heap.size → B' b → B b) :
    ∀ {x : AV} {v : Value}, Rel w B x v → Rel w' B' x v
  | _, _, .int k n => .int k n
  | _, _, .bool b => .bool b
  | _, _, .str s => .str s
  | _, _, .bnil a cap => .bnil a cap
  | _, _, .rnil sz a cap => .rnil sz a cap
  | _, _, .bytes s b o cap hb hn hc hs => .bytes s b o cap (Nat.lt_of_lt_of_le hb hA.1) (fun h => hn (hB b hb h)) hc fun j x hj => by rw [hA.cell hb hn]; exact hs j x hj
  | _, _, .row sz xs vs b o cap hb hn hc hz h1 hr hs => .row sz xs vs b o cap (Nat.lt_of_lt_of_le hb hA.1) (fun h => hn (hB b hb h)) hc hz h1 (RelL.mono hA hB hr) fun j x hj => by rw [hA.cell hb hn]; exact hs j x hj
  | _, _, .agg cs vs h => .agg cs vs (RelL.mono hA hB h)
  | _, _, .tup cs vs h => .tup cs vs (RelL.mono hA hB h)
  | _, _, .fn f cs vs h => .fn f cs vs (RelL.mono hA hB h)
  | _, _, .nilI => .nilI
  | _, _, .nilR sz => .nilR sz
  | _, _, .lent s b o hb hn hs => .lent s b o (Nat.lt_of_lt_of_le hb hA.1) (fun h => hn (hB b hb h)) fun j x hj => by rw [hA.cell hb hn]; exact hs j x hj
  | _, _, .cell cs vs b o hb hn hr hs => .cell cs vs b o (Nat.lt_of_lt_of_le hb hA.1) (fun h => hn (hB b hb h)) (RelL.mono hA hB hr) fun j x hj => by rw [hA.cell hb hn]; exact hs j x hj
theorem RelL.mono {w w' : World} {B B' : Nat → Prop} (hA : Agree B w w') (hB : ∀ b, b < w.heap.size → B' b → B b) :
    ∀ {xs : List AV} {vs : List Value}, RelL w B xs vs → RelL w' B' xs vs
  | _, _, .nil => .nil
  | _, _, .cons x v xs vs h t => .cons x v xs vs (Rel.mono hA hB h) (RelL.mono hA hB t)
end

theorem RelL.length {w : World} {B : Nat → Prop} : ∀ {xs : List AV} {vs : List Value}, RelL w B xs vs → xs.length = vs.length
  | _, _, .nil => rfl
  | _, _, .cons _ _ _ _ _ t => by simp [t.length]

theorem RelL.get {w : World} {B : Nat → Prop} : ∀ {xs : List AV} {vs : List Value}, RelL w B xs vs → ∀ {i : Nat} {x : AV}, xs[i]? = some x → ∃ v, vs[i]? = some v ∧ Rel w B x v
  | _, _, .nil, i, x, h => by simp at h
  | _, _, .cons y v ys vs hy t, 0, x, h => by simp at h; subst h; exact ⟨v, by simp, hy⟩
  | _, _, .cons y v ys vs hy t, i + 1, x, h => by simp at h; simpa using t.get h

theorem RelL.append {w : World} {B : Nat → Prop} : ∀ {xs ys : List AV} {vs us : List Value}, RelL w B xs vs → RelL w B ys us → RelL w B (xs ++ ys) (vs ++ us)
  | _, _, _, _, .nil, h => h
  | _, _, _, _, .cons x v xs vs hx t, h => .cons x v _ _ hx (t.append h)

theorem RelL.take {w : World} {B : Nat → Prop} : ∀ {xs : List AV} {vs : List Value}, RelL w B xs vs → ∀ n, RelL w B (xs.take n) (vs.take n)
  | _, _, .nil, n => by simpa using RelL.nil
  | _, _, .cons x v xs vs hx t, 0 => by simpa using RelL.nil
  | _, _, .cons x v xs vs hx t, n + 1 => by simpa using RelL.cons _ _ _ _ hx (t.take n)

theorem RelL.drop {w : World} {B : Nat → Prop} : ∀ {xs : List AV} {vs : List Value}, RelL w B xs vs → ∀ n, RelL w B (xs.drop n) (vs.drop n)
  | _, _, .nil, n => by simpa using RelL.nil
  | _, _, .cons x v xs vs hx t, 0 => by simpa using RelL.cons _ _ _ _ hx t
  | _, _, .cons x v xs vs hx t, n + 1 => by simpa using t.drop n

theorem Rel.flat {w : World} {B : Nat → Prop} {x : AV} {v : Value} (h : Rel w B x v) : RelL w B x.flat v.cells.toList := by
  cases h with
  | agg cs vs h => simpa [AV.flat, Value.cells] using h
  | int k n => exact .cons _ _ _ _ (.int k n) .nil
  | bool b => exact .cons _ _ _ _ (.bool b) .nil
  | str s => exact .cons _ _ _ _ (.str s) .nil
  | bnil a cap => exact .cons _ _ _ _ (.bnil a cap) .nil
  | rnil sz a cap => exact .cons _ _ _ _ (.rnil sz a cap) .nil
  | bytes s b o cap hb hB hc hs => exact .cons _ _ _ _ (.bytes s b o cap hb hB hc hs) .nil
  | row sz xs vs b o cap hb hB hc hz h1 hr hs => exact .cons _ _ _ _ (.row sz xs vs b o cap hb hB hc hz h1 hr hs) .nil
  | tup cs vs h => exact .cons _ _ _ _ (.tup cs vs h) .nil
  | fn f cs vs h => exact .cons _ _ _ _ (.fn f cs vs h) .nil
  | nilI => exact .cons _ _ _ _ .nilI .nil
  | nilR sz => exact .cons _ _ _ _ (.nilR sz) .nil
  | lent s b o hb hB hs => exact .cons _ _ _ _ (.lent s b o hb hB hs) .nil
  | cell cs vs b o hb hB hr hs => exact .cons _ _ _ _ (.cell cs vs b o hb hB hr hs) .nil

def AV.one : AV → Bool
  | .agg _ => false
  | .tup _ => false
  | _ => true
theorem Rel.one {w : World} {B : Nat → Prop} {x : AV} {v : Value} (h : Rel w B x v) (hx : x.one = true) : v.oneCell' = true := by
  cases h <;> first | rfl | cases hx
theorem RelL.ones {w : World} {B : Nat → Prop} : ∀ {xs : List AV} {vs : List Value}, RelL w B xs vs → xs.all AV.one = true → ∀ v ∈ vs, v.oneCell' = true
  | _, _, .nil, _, v, h => by cases h
  | _, _, .cons x u xs vs hx t, h, v, hv => by
    simp only [List.all_cons, Bool.and_eq_true] at h
    rcases List.mem_cons.1 hv with rfl | hv
    · exact hx.one h.1
    · exact t.ones h.2 v hv

theorem Rel.apv {w : World} {B : Nat → Prop} {x : AV} {v : Value} (h : Rel w B x v) (hx : x.atom = true) : v = x.apv := by
  cases h <;> first | rfl | (simp [AV.atom] at hx)
theorem AV.apv_rel {w : World} {B : Nat → Prop} {x : AV} (hx : x.atom = true) : Rel w B x x.apv := by
  cases x <;> first | (simp [AV.atom] at hx; done) | exact .int _ _ | exact .bool _ | skip
  rename_i s
  exact Rel.str ⟨s.toArray⟩
theorem RelL.apv {w : World} {B : Nat → Prop} : ∀ {xs : List AV} {vs : List Value}, RelL w B xs vs → xs.all AV.atom = true → vs = xs.map AV.apv
  | _, _, .nil, _ => rfl
  | _, _, .cons x v xs vs h t, hx => by
    rw [List.all_cons, Bool.and_eq_true] at hx
    rw [List.map_cons, h.apv hx.1, ← t.apv hx.2]
theorem AV.apv_relL {w : World} {B : Nat → Prop} : ∀ {xs : List AV}, xs.all AV.atom = true → RelL w B xs (xs.map AV.apv)
  | [], _ => .nil
  | x :: xs, hx => by
    rw [List.all_cons, Bool.and_eq_true] at hx
    exact .cons _ _ _ _ (AV.apv_rel hx.1) (AV.apv_relL hx.2)
theorem Rel.pv {w : World} {B : Nat → Prop} {x : AV} {v : Value} (h : Rel w B x v) (hx : x.plainV = true) : v = x.pv := by
  cases h with
  | agg cs vs h =>
    simp only [AV.plainV] at hx
    simp only [AV.pv]
    rw [h.apv hx]
  | _ => first | rfl | (simp [AV.plainV, AV.atom] at hx)
theorem AV.pv_rel {w : World} {B : Nat → Prop} {x : AV} (hx : x.plainV = true) : Rel w B x x.pv := by
  cases x with
  | agg cs => exact .agg _ _ (AV.apv_relL hx)
  | _ => exact AV.apv_rel hx

theorem Addr.add_mk (b o n : Nat) : (⟨b, o, none⟩ : Addr).add n = ⟨b, o + n, none⟩ := by
  unfold Addr.add; split <;> simp_all

/-- What a slot holds: a value that nobody will write any more; a row of the function's own (by its tag); a pointer into one, or into a variable; a pointer to cells that are only read. -/
inductive SV where
  | imm (v : AV)
  | own (t off len : Nat) (cap : Option Nat)
  | ptr (t i off : Nat)
  | rptr (cs : List AV)
  | tupO (t len : Nat) (rest : List AV)
  | mp (t : Nat)
  | dead

/-- What a tag stands for: a row of bytes, a row of elements of `sz` cells, a variable's cells. `fz`: it is only read from here on. -/
inductive Blk where
  | bytes (s : List UInt8) (fz : Bool)
  | row (sz : Nat) (xs : List AV) (fz : Bool)
  | box (cs : List SV)
  | iter (s : List UInt8) (pos : Nat)
  | map (es : List (AV × AV))
  | miter (es : List (AV × AV)) (cur : Option (AV × AV))

structure St where
  env : List (Nat × SV)
  M : List (Nat × Blk)

def get {α : Type} : List (Nat × α) → Nat → Option α
  | [], _ => none
  | (a, v) :: r, t => bif Nat.beq a t then some v else get r t

def St.put (st : St) (d : Nat) (v : SV) : St := ⟨(d, v) :: st.env, st.M⟩

/-- An operand. -/
inductive AO where
  | t (n : Nat)
  | k (v : AV)
  | g (n : Nat)

/-- The kinds that a value is looked at by. -/
inductive Ty where
  | int (k : IntKind) | bool | str | bytes | row (sz : Nat) | agg (cs : List Ty) | tup (cs : List Ty) | any | lent

mutual
/-- Nothing of memory is in it. -/
def Ty.flat : Ty → Bool
  | .int _ => true
  | .bool => true
  | .str => true
  | .agg cs => Ty.flats cs
  | .tup cs => Ty.flats cs
  | _ => false
def Ty.flats : List Ty → Bool
  | [] => true
  | c :: cs => c.flat && Ty.flats cs
end
def need {α : Type} (b : Bool) (x : Option α) : Option α := bif b then x else none
def asI {α : Type} (k : IntKind) (v : AV) (K : Int → Option α) : Option α := match v with | .int k' n => bif decide (k' = k) then K n else none | _ => none
def asB {α : Type} (v : AV) (K : Bool → Option α) : Option α := match v with | .bool b => K b | _ => none
def asS {α : Type} (v : AV) (K : List UInt8 → Option α) : Option α := match v with | .str s => K s | _ => none
def asY {α : Type} (v : AV) (K : List UInt8 → Option α) : Option α := match v with | .bytes s => K s | _ => none
def asL {α : Type} (v : AV) (K : List UInt8 → Option α) : Option α := match v with | .lent s => K s | _ => none
def asR {α : Type} (sz : Nat) (v : AV) (K : List AV → Option α) : Option α := match v with | .row sz' s => bif Nat.beq sz' sz then K s else none | _ => none
def asA {α : Type} (v : AV) (K : List AV → Option α) : Option α := match v with | .agg s => K s | _ => none
def asT {α : Type} (v : AV) (K : List AV → Option α) : Option α := match v with | .tup s => K s | _ => none
def asF {α : Type} (v : AV) (K : Nat → List AV → Option α) : Option α := match v with | .fn f cs => K f cs | _ => none
def asNil {α : Type} (v : AV) (K : Option α) : Option α := match v with | .nilI => K | _ => none
def asRf {α : Type} (v : AV) (K : AV → Option α) : Option α := match v with | .ref c => K c | _ => none
def asC {α : Type} (l : List AV) (K : AV → List AV → Option α) : Option α := match l with | x :: r => K x r | [] => none
def asN {α : Type} (l : List AV) (K : Option α) : Option α := match l with | [] => K | _ :: _ => none

mutual
def asTy {α : Type} : Ty → AV → (AV → Option α) → Option α
  | .int k, v, K => asI k v fun n => K (.int k n)
  | .bool, v, K => asB v fun b => K (.bool b)
  | .str, v, K => asS v fun s => K (.str s)
  | .bytes, v, K => asY v fun s => K (.bytes s)
  | .row sz, v, K => asR sz v fun s => K (.row sz s)
  | .agg cs, v, K => asA v fun l => asTys cs l fun l => K (.agg l)
  | .tup cs, v, K => asT v fun l => asTys cs l fun l => K (.tup l)
  | .any, v, K => K v
  | .lent, v, K => asL v fun s => K (.lent s)
def asTys {α : Type} : List Ty → List AV → (List AV → Option α) → Option α
  | [], l, K => asN l (K [])
  | c :: cs, l, K => asC l fun x r => asTy c x fun x => asTys cs r fun r => K (x :: r)
end

mutual
theorem asTy_some {α : Type} : ∀ (ty : Ty) (v : AV) (K : AV → Option α) (r : α), asTy ty v K = some r → K v = some r
  | .int k, v, K, r, h => by cases v <;> simp_all [asTy, asI]; rename_i k' n; by_cases hk : k' = k <;> simp_all
  | .bool, v, K, r, h => by cases v <;> simp_all [asTy, asB]
  | .str, v, K, r, h => by cases v <;> simp_all [asTy, asS]
  | .bytes, v, K, r, h => by cases v <;> simp_all [asTy, asY]
  | .row sz, v, K, r, h => by
    cases v <;> simp only [asTy, asR, reduceCtorEq] at h
    rename_i z xs
    cases hb : Nat.beq z sz
    · simp [hb] at h
    · have := Nat.eq_of_beq_eq_true hb; subst this; simpa [hb] using h
  | .agg cs, v, K, r, h => by
    cases v <;> simp only [asTy, asA, reduceCtorEq] at h
    exact asTys_some cs _ _ _ h
  | .tup cs, v, K, r, h => by
    cases v <;> simp only [asTy, asT, reduceCtorEq] at h
    exact asTys_some cs _ _ _ h
  | .any, v, K, r, h => by simpa [asTy] using h
  | .lent, v, K, r, h => by cases v <;> simp_all [asTy, asL]
theorem asTys_some {α : Type} : ∀ (cs : List Ty) (l : List AV) (K : List AV → Option α) (r : α), asTys cs l K = some r → K l = some r
  | [], l, K, r, h => by cases l <;> simp_all [asTys, asN]
  | c :: cs, [], K, r, h => by simp [asTys, asC] at h
  | c :: cs, x :: l, K, r, h => by
    simp only [asTys, asC] at h
    have h1 := asTy_some c _ _ _ h
    exact asTys_some cs l (fun r => K (x :: r)) r h1
end

/-- A call's result: the value, and whether it is a row that nobody else holds. -/
structure Res where
  v : AV
  own : Bool
  outs : List AV

inductive AOp where
  | mv (x : AO)
  | weak (x : AO)
  | capL (x : AO)
  | sliceL (x hi : AO)
  | binA (ng : Bool) (x y : AO) (ks : List Nat)
  | nilOwn (t : Nat) (ty : Option (Nat × Ty))
  | pick (c a b : AO)
  | bin (op : BinOp) (x y : AO)
  | binB (op : BinOp) (x y : AO)
  | un (op : UnOp) (x : AO)
  | cvInt (k : IntKind) (x : AO)
  | cvId (x : AO)
  | cvStr (x : AO)
  | cvBytes (x : AO)
  | cvBytesOwn (t : Nat) (x : AO)
  | cvRune (x : AO)
  | cvSame (x : AO)
  | extract (x : AO) (j : Nat)
  | nilchk (x : AO)
  | faddr (x : AO) (off : Nat)
  | fld (x : AO) (off : Nat) (sz : Option Nat)
  | load (x : AO) (sz : Option Nat) (ty : Ty)
  | store (x y : AO) (sz : Nat)
  | iaddr (x i : AO) (sz : Nat) (ty : Ty)
  | index (x i : AO)
  | slice (x : AO) (lo hi : Option AO) (sz : Nat)
  | sliceS (x : AO) (lo hi : Option AO)
  | build (zero : List AV) (parts : List (Nat × Nat × AO))
  | bslice (parts : List AO) (sz : Nat) (by_ : Bool)
  | bsliceOwn (t : Nat) (parts : List AO) (sz : Nat) (ty : Ty) (by_ : Bool)
  | alloc (t : Nat) (zero : List AV)
  | box (t : Nat) (x : AO) (sz : Nat)
  | mkOwn (t : Nat) (n : AO) (sz : Nat) (zero : AV) (by_ : Bool)
  | len (x : AO) (str : Bool)
  | mn (xs : List AO)
  | mx (xs : List AO)
  | app (t : Nat) (x y : AO) (sz : Nat) (ty : Ty) (by_ : Bool)
  | appNil (t : Nat) (y : AO) (sz : Nat) (by_ : Bool)
  | call (f : Nat) (xs : List AO) (ty : Ty)
  | callOwn (t : Nat) (f : Nat) (xs : List AO) (sz : Nat) (ty : Ty) (by_ : Bool)
  | callOwnT (t : Nat) (f : Nat) (xs : List AO) (sz : Nat) (tys : List Ty)
  | rangeS (t : Nat) (x : AO)
  | nextS (x : AO)
  | mkFn (f : Nat) (caps : List AO)
  | callF (x : AO) (xs : List AO) (ty : Ty)
  | callM (own : Option (Nat × Nat × Bool)) (f : Nat) (xs : List AO) (fl : List Bool) (al : List (Option Ty)) (ty : Ty)
  | bsliceG (z : AV) (parts : List (Option AO)) (sz : Nat)
  | isNil (ng : Bool) (x : AO) (iface : Bool)
  | mkMap (t : Nat)
  | insM (kd : Option IntKind) (x k v : AO)
  | lookM (kd : Option IntKind) (x k : AO) (z : AV) (ty : Ty)
  | rangeM (t : Nat) (x : AO)
  | entM (x : AO) (tk tv : Ty)
  | loadC (x : AO) (sz : Option Nat) (ty : Ty)
  | loadG (x : AO) (sz : Nat) (ty : Ty)
  | mkFnC (f : Nat) (caps : List AO)
  | lenM (x : AO)
  | mkOwnC (t : Nat) (n c : AO) (sz : Nat) (zero : AV)

def SV.ment (t : Nat) : SV → Bool
  | .own u _ _ _ => Nat.beq u t
  | .ptr u _ _ => Nat.beq u t
  | .tupO u _ _ => Nat.beq u t
  | .mp u => Nat.beq u t
  | _ => false
def SV.kill (t : Nat) (s : SV) : SV := bif s.ment t then .dead else s
def killE (t : Nat) (env : List (Nat × SV)) : List (Nat × SV) := env.map fun e => (e.1, e.2.kill t)
def Blk.kill (t : Nat) : Blk → Blk
  | .box cs => .box (cs.map (SV.kill t))
  | b => b
def killM (t : Nat) (M : List (Nat × Blk)) : List (Nat × Blk) := (M.filter fun e => !(Nat.beq e.1 t)).map fun e => (e.1, e.2.kill t)
/-- The tag is free again. -/
def St.kill (st : St) (t : Nat) : St := ⟨killE t st.env, killM t st.M⟩
def setM (M : List (Nat × Blk)) (t : Nat) (b : Blk) : List (Nat × Blk) := (t, b) :: M.filter fun e => !(Nat.beq e.1 t)
def St.fresh (st : St) (t : Nat) (b : Blk) : St := ⟨killE t st.env, (t, b) :: killM t st.M⟩
def St.withM (st : St) (M : List (Nat × Blk)) : St := ⟨st.env, M⟩

/-- Addresses of a variable that is only read from here on. -/
def SV.cellize (t : Nat) (vs : List AV) : SV → SV
  | .ptr u i off => bif Nat.beq u t then (bif Nat.beq i 0 && Nat.beq off 0 then .rptr vs else .dead) else .ptr u i off
  | s => s.kill t
def St.cellize (st : St) (t : Nat) (vs : List AV) : St := ⟨st.env.map fun e => (e.1, e.2.cellize t vs), killM t st.M⟩

def AO.ev (G : List (Nat × List AV)) (st : St) : AO → Option SV
  | .t n => get st.env n
  | .k v => some (.imm v)
  | .g n => (get G n).map .rptr

/-- What a row of its own holds, as a value, from `off` on, `len` of them. -/
def Blk.cut (off len : Nat) : Blk → Option AV
  | .bytes s _ => some (.bytes ((s.drop off).take len))
  | .row sz xs _ => some (.row sz ((xs.drop off).take len))
  | _ => none
def Blk.frz : Blk → Blk
  | .bytes s _ => .bytes s true
  | .row sz xs _ => .row sz xs true
  | b => b
def Blk.fz : Blk → Bool
  | .bytes _ f => f
  | .row _ _ f => f
  | _ => false

/-- A value that is handed away: a row of one's own is only read from here on. -/
def give (M : List (Nat × Blk)) : SV → Option (AV × List (Nat × Blk))
  | .imm v => some (v, M)
  | .own t off len _ => (get M t).bind fun b => (b.cut off len).bind fun v => some (v, setM M t b.frz)
  | .ptr _ _ _ => none
  | .rptr _ => none
  | .tupO _ _ _ => none
  | .mp _ => none
  | .dead => none

def giveL {α : Type} (G : List (Nat × List AV)) (env : List (Nat × SV)) : List (Nat × Blk) → List AO → (List AV → List (Nat × Blk) → Option α) → Option α
  | M, [], K => K [] M
  | M, x :: xs, K => (x.ev G ⟨env, M⟩).bind fun s => (give M s).bind fun p => giveL G env p.2 xs fun vs M => K (p.1 :: vs) M

def intBin {α : Type} (op : BinOp) (k : IntKind) (a b : Int) (K : AV → Option α) : Option α :=
  match op with
  | .add => K (.int k (k.wrap (a + b)))
  | .sub => K (.int k (k.wrap (a - b)))
  | .mul => K (.int k (k.wrap (a * b)))
  | .quo => need (!decide (b = 0)) (K (.int k (k.wrap (a.tdiv b))))
  | .rem => need (!decide (b = 0)) (K (.int k (a.tmod b)))
  | .and => K (.int k (k.wrap (BitVec.ofInt k.bits a &&& BitVec.ofInt k.bits b).toNat))
  | .or => K (.int k (k.wrap (BitVec.ofInt k.bits a ||| BitVec.ofInt k.bits b).toNat))
  | .xor => K (.int k (k.wrap (BitVec.ofInt k.bits a ^^^ BitVec.ofInt k.bits b).toNat))
  | .andNot => K (.int k (k.wrap (BitVec.ofInt k.bits a &&& ~~~BitVec.ofInt k.bits b).toNat))
  | .eql => K (.bool (a == b))
  | .neq => K (.bool (a != b))
  | .lss => K (.bool (decide (a < b)))
  | .leq => K (.bool (decide (a ≤ b)))
  | .gtr => K (.bool (decide (a > b)))
  | .geq => K (.bool (decide (a ≥ b)))
  | _ => none

def shiftBin {α : Type} (op : BinOp) (k : IntKind) (a b : Int) (K : AV → Option α) : Option α :=
  need (!decide (b < 0)) <| match op with
  | .shl => K (.int k (k.wrap (a * 2 ^ (min b.toNat k.bits))))
  | .shr => K (.int k (a.fdiv (2 ^ (min b.toNat k.bits))))
  | _ => none

def strBin {α : Type} (op : BinOp) (a b : List UInt8) (K : AV → Option α) : Option α :=
  match op with
  | .add => need (decide (a.length + b.length ≤ 9223372036854775807)) (K (.str (a ++ b)))
  | .eql => K (.bool (a == b))
  | .neq => K (.bool !(a == b))
  | .lss => K (.bool (Op.bytesLess a b))
  | .leq => K (.bool (Op.bytesLess a b || a == b))
  | .gtr => K (.bool !(Op.bytesLess a b || a == b))
  | .geq => K (.bool !(Op.bytesLess a b))
  | _ => none

def bin {α : Type} (op : BinOp) (x y : AV) (K : AV → Option α) : Option α :=
  match x, y with
  | .int k a, .int k' b =>
    match op with
    | .shl => shiftBin op k a b K
    | .shr => shiftBin op k a b K
    | _ => bif decide (k = k') then intBin op k a b K else none
  | .str a, .str b => strBin op a b K
  | _, _ => none

def binB {α : Type} (op : BinOp) (x y : AV) (K : AV → Option α) : Option α :=
  match x, y with
  | .bool a, .bool b => match op with
    | .eql => K (.bool (a == b))
    | .neq => K (.bool !(a == b))
    | _ => none
  | _, _ => none

def un {α : Type} (op : UnOp) (x : AV) (K : AV → Option α) : Option α :=
  match op, x with
  | .neg, .int k n => K (.int k (k.wrap (0 - n)))
  | .not, .bool b => K (.bool !b)
  | _, _ => none

def byteOf {α : Type} (n : Int) (K : UInt8 → Option α) : Option α := need (decide (0 ≤ n) && decide (n < 256)) (K (UInt8.ofNat n.toNat))

/-- The elements of a literal of bytes. -/
def bytesOf {α : Type} : List AV → (List UInt8 → Option α) → Option α
  | [], K => K []
  | x :: xs, K => asI .u8 x fun n => byteOf n fun b => bytesOf xs fun bs => K (b :: bs)

def sizesOk (sz : Nat) (xs : List AV) : Bool := xs.all fun x => Nat.beq x.flat.length sz && x.flat.all AV.one

def rowOf {α : Type} (by_ : Bool) (sz : Nat) (xs : List AV) (K : AV → Option α) : Option α :=
  bif by_ then bytesOf xs fun bs => K (.bytes bs) else need (sizesOk sz xs) (K (.row sz xs))

/-- Cells put at a place among cells. -/
def putCells {α : Type} (cs : List α) (off : Nat) (vs : List α) : List α := cs.take off ++ vs ++ cs.drop (off + vs.length)

def fillParts {α : Type} : List AV → List (Nat × Nat) → List AV → (List AV → Option α) → Option α
  | cells, (off, sz) :: ps, v :: vs, K => need (Nat.beq v.flat.length sz && Nat.ble (off + sz) cells.length) (fillParts (putCells cells off v.flat) ps vs K)
  | cells, [], [], K => K cells
  | _, _, _, _ => none

def minL {α : Type} (a : Int) : List AV → IntKind → (Int → Option α) → Option α
  | [], _, K => K a
  | .int k' b :: r, k, K => bif decide (k' = k) then minL (if b < a then b else a) r k K else none
  | _, _, _ => none
def maxL {α : Type} (a : Int) : List AV → IntKind → (Int → Option α) → Option α
  | [], _, K => K a
  | .int k' b :: r, k, K => bif decide (k' = k) then maxL (if b > a then b else a) r k K else none
  | _, _, _ => none

def bound {α : Type} (len : Nat) (d : Nat) : Option SV → (Nat → Option α) → Option α
  | none, K => K d
  | some (.imm (.int _ n)), K => need (decide (0 ≤ n) && decide (n ≤ (len : Int))) (K n.toNat)
  | _, _ => none

def optEv (G : List (Nat × List AV)) (st : St) : Option AO → Option (Option SV)
  | none => some none
  | some x => (x.ev G st).map some

def immL (G : List (Nat × List AV)) (st : St) : List AO → Option (List AV)
  | [] => some []
  | x :: xs => match x.ev G st with
    | some (.imm v) => (immL G st xs).map (v :: ·)
    | _ => none

def svImms : List SV → Option (List AV)
  | [] => some []
  | .imm v :: r => (svImms r).map (v :: ·)
  | _ :: _ => none

def newBlk (sz : Nat) (by_ : Bool) (v : AV) : Option Blk :=
  match by_, v with
  | true, .bytes s => some (.bytes s false)
  | false, .row _ xs => some (.row sz xs false)
  | _, _ => none

/-- The rune at a place, and how many bytes it has. -/
def runeAt (s : List UInt8) (pos : Nat) : Nat × Nat := Utf8.decode ⟨s.toArray⟩ pos

/-- The ones with the flag, the ones without, and both put together again. -/
def pickL {α : Type} : List Bool → List α → Bool → List α
  | f :: fs, x :: xs, b => bif f == b then x :: pickL fs xs b else pickL fs xs b
  | _, _, _ => []
def mergeL {α : Type} : List Bool → List α → List α → List α
  | true :: fs, vs, c :: cs => c :: mergeL fs vs cs
  | false :: fs, v :: vs, cs => v :: mergeL fs vs cs
  | _, _, _ => []

/-- A row or a variable of one's own that is lent to a call: its tag, what it holds. -/
def refOf {α : Type} (M : List (Nat × Blk)) (s : SV) (K : Nat → AV → Option α) : Option α :=
  match s with
  | .own u off len _ => (match get M u with
    | some (.bytes s false) => need (Nat.beq off 0 && Nat.beq len s.length) (K u (.bytes s))
    | some (.row z xs false) => need (Nat.beq off 0 && Nat.beq len xs.length) (K u (.row z xs))
    | _ => none)
  | .ptr u i off => (match get M u with
    | some (.box cs) => need (Nat.beq i 0 && Nat.beq off 0) ((svImms cs).bind fun vs => K u (.agg vs))
    | _ => none)
  | _ => none
def notIn (u : Nat) : List Nat → Bool
  | [] => true
  | a :: r => bif Nat.beq a u then false else notIn u r
def refL {α : Type} (G : List (Nat × List AV)) (env : List (Nat × SV)) (M : List (Nat × Blk)) : List AO → (List Nat → List AV → Option α) → Option α
  | [], K => K [] []
  | x :: xs, K => (x.ev G ⟨env, M⟩).bind fun s => refOf M s fun u c => refL G env M xs fun us cs => need (notIn u us) (K (u :: us) (c :: cs))
/-- A lent row's or variable's new content. -/
def Blk.re {α : Type} (b : Blk) (c : AV) (K : Blk → Option α) : Option α :=
  match b, c with
  | .bytes s false, .bytes s' => need (Nat.beq s'.length s.length) (K (.bytes s' false))
  | .row z xs false, .row z' xs' => need (Nat.beq z' z && Nat.beq xs'.length xs.length) (K (.row z xs' false))
  | .box cs, .agg vs => need (Nat.beq vs.length cs.length) (K (.box (vs.map .imm)))
  | _, _ => none
/-- What was lent comes back, or is given up. -/
def outsK {α : Type} : List (Option Ty) → List AV → (List AV → Option α) → Option α
  | [], os, K => asN os (K [])
  | none :: al, os, K => asC os fun _ os => outsK al os fun cs => K (.nilI :: cs)
  | some ty :: al, os, K => asC os fun o os => asRf o fun c => asTy ty c fun c => outsK al os fun cs => K (.ref c :: cs)
/-- The elements of a literal with gaps. -/
def immG (G : List (Nat × List AV)) (st : St) (z : AV) : List (Option AO) → Option (List AV)
  | [] => some []
  | none :: xs => (immG G st z xs).map (z :: ·)
  | some x :: xs => match x.ev G st with
    | some (.imm v) => (immG G st z xs).map (v :: ·)
    | _ => none
def deads : List Nat → List AV → List Nat
  | u :: us, o :: os => (match o with
    | .ref _ => deads us os
    | _ => u :: deads us os)
  | _, _ => []
def killAll (st : St) : List Nat → St
  | [] => st
  | u :: us => killAll (st.kill u) us
def setAll {α : Type} (M : List (Nat × Blk)) : List Nat → List AV → (List (Nat × Blk) → Option α) → Option α
  | [], [], K => K M
  | u :: us, o :: os, K => (match o with
    | .ref c => (match get M u with
      | some b => b.re c fun b' => setAll (setM M u b') us os K
      | none => none)
    | _ => setAll M us os K)
  | _, _, _ => none

/-- Structs of plain cells, told alike. -/
def eqLeaf : Nat → AV → AV → Option Bool
  | 0, .int k a, .int k' b => bif decide (k = k') then some (a == b) else none
  | 1, .bool a, .bool b => some (a == b)
  | 2, .str a, .str b => some (a == b)
  | _, _, _ => none
def eqLs : List Nat → List AV → List AV → Option Bool
  | [], [], [] => some true
  | k :: ks, x :: xs, y :: ys => (eqLeaf k x y).bind fun b => (eqLs ks xs ys).bind fun r => some (b && r)
  | _, _, _ => none

def keyIs : Option IntKind → AV → Bool
  | none, .str _ => true
  | some q, .int q' _ => decide (q = q')
  | _, _ => false
/-- Keys told alike. -/
def eqK : AV → AV → Option Bool
  | .int k a, .int k' b => bif decide (k = k') then some (a == b) else none
  | .str a, .str b => some (a == b)
  | _, _ => none
def freshK (a : AV) (es : List (AV × AV)) : Bool := es.all fun p => match eqK a p.1 with | some false => true | _ => false
def knownK (a : AV) (es : List (AV × AV)) : Bool := es.all fun p => (eqK a p.1).isSome
def lookK (a : AV) (z : AV) : List (AV × AV) → AV × Bool
  | [] => (z, false)
  | p :: r => match eqK a p.1 with | some true => (p.2, true) | _ => lookK a z r

/-- Several values that are handed away. -/
def giveSs : List (Nat × Blk) → List SV → Option (List AV × List (Nat × Blk))
  | M, [] => some ([], M)
  | M, s :: ss => (give M s).bind fun p => (giveSs p.2 ss).bind fun q => some (p.1 :: q.1, q.2)
/-- What a function catches: variables are only read from here on. -/
def capsC {α : Type} (G : List (Nat × List AV)) : St → List AO → (List AV → St → Option α) → Option α
  | st, [], K => K [] st
  | st, x :: xs, K => (x.ev G st).bind fun s => match s with
    | .ptr t i off => need (Nat.beq i 0 && Nat.beq off 0) ((get st.M t).bind fun b => match b with
      | .box cs => (svImms cs).bind fun vs => capsC G (st.cellize t vs) xs fun as st' => K (.cell vs :: as) st'
      | _ => none)
    | .rptr vs => capsC G st xs fun as st' => K (.cell vs :: as) st'
    | .imm v => capsC G st xs fun as st' => K (v :: as) st'
    | _ => none

/-- One operation. `R`: what calls answer. `K`: what follows. -/
def step {α : Type} (G : List (Nat × List AV)) (R : Nat → List AV → Option Res) (o : AOp) (st : St) (K : SV → St → Option α) : Option α :=
  match o with
  | .mv x => (x.ev G st).bind fun s => K s st
  | .weak x => (x.ev G st).bind fun s => match s with
    | .imm (.lent b) => K (.imm (.bytes b)) st
    | _ => none
  | .capL x => (x.ev G st).bind fun s => match s with
    | .imm (.lent b) => K (.imm (.int .i64 ((b.length : Int) + 3))) st
    | _ => none
  | .sliceL x hi => (x.ev G st).bind fun s => (hi.ev G st).bind fun h => match s, h with
    | .imm (.lent b), .imm (.int _ n) => need (decide (n = (b.length : Int) + 3)) (K (.imm (.bytes (b ++ [85, 85, 85]))) st)
    | _, _ => none
  | .binA ng x y ks => (x.ev G st).bind fun s => (y.ev G st).bind fun u => match s, u with
    | .imm (.agg a), .imm (.agg b) => (eqLs ks a b).bind fun r => K (.imm (.bool (bif ng then !r else r))) st
    | _, _ => none
  | .nilOwn t ty => K (.own t 0 0 none) ((st.kill t).withM ((t, match ty with | none => .bytes [] false | some (sz, _) => .row sz [] false) :: (st.kill t).M))
  | .pick c a b => (c.ev G st).bind fun s => match s with
    | .imm (.bool c) => bif c then (a.ev G st).bind fun s => K s st else (b.ev G st).bind fun s => K s st
    | _ => none
  | .bin op x y => (x.ev G st).bind fun s => (y.ev G st).bind fun u => match s, u with
    | .imm v, .imm w => bin op v w fun r => K (.imm r) st
    | _, _ => none
  | .binB op x y => (x.ev G st).bind fun s => (y.ev G st).bind fun u => match s, u with
    | .imm v, .imm w => binB op v w fun r => K (.imm r) st
    | _, _ => none
  | .un op x => (x.ev G st).bind fun s => match s with
    | .imm v => un op v fun r => K (.imm r) st
    | _ => none
  | .cvInt k x => (x.ev G st).bind fun s => match s with
    | .imm (.int _ n) => K (.imm (.int k (k.wrap n))) st
    | _ => none
  | .cvId x => (x.ev G st).bind fun s => match s with
    | .imm (.str b) => K (.imm (.str b)) st
    | _ => none
  | .cvStr x => (x.ev G st).bind fun s => (give st.M s).bind fun p => match p.1 with
    | .bytes b => K (.imm (.str b)) st
    | _ => none
  | .cvBytes x => (x.ev G st).bind fun s => match s with
    | .imm (.str b) => K (.imm (.bytes b)) st
    | _ => none
  | .cvBytesOwn t x => (x.ev G st).bind fun s => match s with
    | .imm (.str b) => need (decide (b.length ≤ 1099511627776)) (K (.own t 0 b.length none) ((st.kill t).withM ((t, .bytes b false) :: killM t st.M)))
    | _ => none
  | .cvRune x => (x.ev G st).bind fun s => match s with
    | .imm (.int _ n) => K (.imm (.str (Utf8.encode n).data.toList)) st
    | _ => none
  | .cvSame x => (x.ev G st).bind fun s => match s with
    | .own t off len c => (match get st.M t with
      | some (.bytes _ false) => need (Nat.ble 1 len) (K (.own t off len c) st)
      | _ => none)
    | _ => none
  | .extract x j => (x.ev G st).bind fun s => match s with
    | .imm (.tup vs) => vs[j]?.bind fun v => K (.imm v) st
    | .tupO t len rest => bif Nat.beq j 0 then K (.own t 0 len none) st else rest[j - 1]?.bind fun v => K (.imm v) st
    | _ => none
  | .nilchk x => (x.ev G st).bind fun s => match s with
    | .ptr t i off => K (.ptr t i off) st
    | .rptr cs => K (.rptr cs) st
    | _ => none
  | .faddr x off => (x.ev G st).bind fun s => match s with
    | .ptr t i o => K (.ptr t i (o + off)) st
    | .rptr cs => K (.rptr (cs.drop off)) st
    | _ => none
  | .fld x off sz => (x.ev G st).bind fun s => match s with
    | .imm (.agg cs) => match sz with
      | none => cs[off]?.bind fun v => K (.imm v) st
      | some n => need (Nat.ble (off + n) cs.length) (K (.imm (.agg ((cs.drop off).take n))) st)
    | _ => none
  | .load x sz ty => (x.ev G st).bind fun s => match s with
    | .rptr cs => (match sz with
      | none => cs[0]?.bind fun v => asTy ty v fun v => K (.imm v) st
      | some n => need (Nat.ble n cs.length) (asTy ty (.agg (cs.take n)) fun v => K (.imm v) st))
    | .ptr t i off => (get st.M t).bind fun b => (match b with
      | .bytes s _ => (match sz with
        | none => bif Nat.beq off 0 then s[i]?.bind fun b => K (.imm (.int .u8 b.toNat)) st else none
        | some _ => none)
      | .row _ xs _ => xs[i]?.bind fun e => (match sz with
        | none => e.flat[off]?.bind fun v => asTy ty v fun v => K (.imm v) st
        | some n => need (Nat.ble (off + n) e.flat.length) (asTy ty (.agg ((e.flat.drop off).take n)) fun v => K (.imm v) st))
      | .box cs => bif Nat.beq i 0 then (match sz with
        | none => cs[off]?.bind fun s => K s st
        | some n => need (Nat.ble (off + n) cs.length) ((svImms ((cs.drop off).take n)).bind fun vs => K (.imm (.agg vs)) st)) else none
      | .iter _ _ => none
      | .map _ => none
      | .miter _ _ => none)
    | _ => none
  | .store x y sz => (x.ev G st).bind fun s => (y.ev G st).bind fun u => match s with
    | .ptr t i off => (get st.M t).bind fun blk => (match blk with
      | .bytes s false => (match u with
        | .imm v => asI .u8 v fun n => byteOf n fun b => need (Nat.beq off 0 && decide (i < s.length) && Nat.beq sz 1) (K .dead (st.withM (setM st.M t (.bytes (s.set i b) false))))
        | _ => none)
      | .row _ _ false => (give st.M u).bind fun p => (get p.2 t).bind fun blk2 => (match blk2 with
        | .row z xs false => xs[i]?.bind fun e =>
          need (Nat.beq p.1.flat.length sz && Nat.ble (off + sz) e.flat.length && p.1.flat.all AV.one && Nat.ble 1 sz)
            (K .dead (st.withM (setM p.2 t (.row z (xs.set i (bif Nat.beq z 1 then p.1 else .agg (putCells e.flat off p.1.flat))) false))))
        | _ => none)
      | .box cs => bif Nat.beq i 0 then (match u with
        | .imm v => need (Nat.beq v.flat.length sz && Nat.ble (off + sz) cs.length && v.flat.all AV.one) (K .dead (st.withM (setM st.M t (.box (putCells cs off (v.flat.map .imm))))))
        | .own t' o l c => need (Nat.beq sz 1 && Nat.ble (off + 1) cs.length) (K .dead (st.withM (setM st.M t (.box (putCells cs off [.own t' o l c])))))
        | _ => none) else none
      | _ => none)
    | _ => none
  | .iaddr x i sz ty => (x.ev G st).bind fun s => (i.ev G st).bind fun j => match j with
    | .imm (.int _ n) => (match s with
      | .imm (.bytes b) => need (decide (0 ≤ n)) (b[n.toNat]?.bind fun c => bif Nat.beq sz 1 then K (.rptr [.int .u8 c.toNat]) st else none)
      | .imm (.row z xs) => bif Nat.beq sz z then need (decide (0 ≤ n)) (xs[n.toNat]?.bind fun e => asTy ty e fun e => K (.rptr e.flat) st) else none
      | .own t off len _ => need (decide (0 ≤ n) && decide (n < (len : Int))) (match get st.M t with
        | some (.bytes _ _) => bif Nat.beq sz 1 then K (.ptr t (off + n.toNat) 0) st else none
        | some (.row z _ _) => bif Nat.beq sz z then K (.ptr t (off + n.toNat) 0) st else none
        | _ => none)
      | _ => none)
    | _ => none
  | .index x i => (x.ev G st).bind fun s => (i.ev G st).bind fun j => match s, j with
    | .imm (.str b), .imm (.int _ n) => need (decide (0 ≤ n)) (b[n.toNat]?.bind fun c => K (.imm (.int .u8 c.toNat)) st)
    | _, _ => none
  | .slice x lo hi sz => (x.ev G st).bind fun s => (optEv G st lo).bind fun l => (optEv G st hi).bind fun h => match s with
    | .imm (.bytes b) => bif Nat.beq sz 1 then bound b.length b.length h fun h => bound h 0 l fun l => K (.imm (.bytes ((b.take h).drop l))) st else none
    | .imm (.row z xs) => bif Nat.beq sz z then bound xs.length xs.length h fun h => bound h 0 l fun l => K (.imm (.row sz ((xs.take h).drop l))) st else none
    | .own t off len _ => (match l with
      | none => (match get st.M t with
        | some (.bytes _ _) => bif Nat.beq sz 1 then bound len len h fun h => K (.own t off h none) st else none
        | some (.row z _ _) => bif Nat.beq sz z then bound len len h fun h => K (.own t off h none) st else none
        | _ => none)
      | some _ => (give st.M s).bind fun p => (match p.1 with
        | .bytes b => bif Nat.beq sz 1 then bound b.length b.length h fun h => bound h 0 l fun l => K (.imm (.bytes ((b.take h).drop l))) (st.withM p.2) else none
        | .row z xs => bif Nat.beq sz z then bound xs.length xs.length h fun h => bound h 0 l fun l => K (.imm (.row sz ((xs.take h).drop l))) (st.withM p.2) else none
        | _ => none))
    | _ => none
  | .sliceS x lo hi => (x.ev G st).bind fun s => (optEv G st lo).bind fun l => (optEv G st hi).bind fun h => match s with
    | .imm (.str b) => bound b.length b.length h fun h => bound h 0 l fun l => K (.imm (.str ((b.take h).drop l))) st
    | _ => none
  | .build zero parts => giveL G st.env st.M (parts.map fun p => p.2.2) fun vs M => fillParts zero (parts.map fun p => (p.1, p.2.1)) vs fun cells => K (.imm (.agg cells)) (st.withM M)
  | .bslice parts sz by_ => giveL G st.env st.M parts fun vs M => rowOf by_ sz vs fun v => K (.imm v) (st.withM M)
  | .bsliceOwn t parts sz _ by_ => giveL G st.env st.M parts fun vs M => rowOf by_ sz vs fun v => (newBlk sz by_ v).bind fun b => K (.own t 0 vs.length none) (((st.withM M).kill t).withM ((t, b) :: killM t M))
  | .alloc t zero => K (.ptr t 0 0) ((st.kill t).withM ((t, .box (zero.map .imm)) :: killM t st.M))
  | .box t x sz => (x.ev G st).bind fun s => match s with
    | .imm v => need (Nat.beq v.flat.length sz) (K (.ptr t 0 0) ((st.kill t).withM ((t, .box (v.flat.map .imm)) :: killM t st.M)))
    | _ => none
  | .mkOwn t n sz zero by_ => (n.ev G st).bind fun s => match s with
    | .imm (.int _ n) => need (decide (0 ≤ n) && decide (n ≤ 1099511627776)) (match by_, zero with
      | true, .int .u8 0 => K (.own t 0 n.toNat none) ((st.kill t).withM ((t, .bytes (List.replicate n.toNat 0) false) :: killM t st.M))
      | false, zero => need (Nat.beq zero.flat.length sz && zero.flat.all AV.one) (K (.own t 0 n.toNat none) ((st.kill t).withM ((t, .row sz (List.replicate n.toNat zero) false) :: killM t st.M)))
      | _, _ => none)
    | _ => none
  | .len x str => (x.ev G st).bind fun s => bif str then (match s with
    | .imm (.str b) => K (.imm (.int .i64 b.length)) st
    | _ => none) else (match s with
    | .imm (.lent b) => K (.imm (.int .i64 b.length)) st
    | .imm (.bytes b) => K (.imm (.int .i64 b.length)) st
    | .imm (.row _ b) => K (.imm (.int .i64 b.length)) st
    | .own _ _ len _ => K (.imm (.int .i64 len)) st
    | _ => none)
  | .mn xs => (immL G st xs).bind fun vs => match vs with
    | .int k a :: r => minL a r k fun n => K (.imm (.int k n)) st
    | _ => none
  | .mx xs => (immL G st xs).bind fun vs => match vs with
    | .int k a :: r => maxL a r k fun n => K (.imm (.int k n)) st
    | _ => none
  | .app t x y sz _ by_ => (x.ev G st).bind fun s => (y.ev G st).bind fun u => (give st.M u).bind fun p => match s with
    | .own t' off len _ => (get p.2 t').bind fun b => bif b.fz then none else (b.cut off len).bind fun v =>
        (match by_, v, p.1 with
        | true, .bytes a, .bytes c => need (decide (a.length + c.length ≤ 1099511627776)) (K (.own t 0 (a ++ c).length none) ((((st.withM p.2).kill t').kill t).withM ((t, .bytes (a ++ c) false) :: (((st.withM p.2).kill t').kill t).M)))
        | true, .bytes a, .str c => need (decide (a.length + c.length ≤ 1099511627776)) (K (.own t 0 (a ++ c).length none) ((((st.withM p.2).kill t').kill t).withM ((t, .bytes (a ++ c) false) :: (((st.withM p.2).kill t').kill t).M)))
        | false, .row z a, .row y c => need (Nat.beq z sz && Nat.beq y sz && decide (a.length + c.length ≤ 1099511627776)) (K (.own t 0 (a ++ c).length none) ((((st.withM p.2).kill t').kill t).withM ((t, .row sz (a ++ c) false) :: (((st.withM p.2).kill t').kill t).M)))
        | _, _, _ => none)
    | _ => none
  | .appNil t y sz by_ => (y.ev G st).bind fun u => (give st.M u).bind fun p =>
        (match by_, p.1 with
        | true, .bytes c => need (decide (c.length ≤ 1099511627776)) (K (.own t 0 c.length none) ((((st.withM p.2).fresh t (.bytes [] false)).kill t).kill t |>.withM ((t, .bytes c false) :: ((((st.withM p.2).fresh t (.bytes [] false)).kill t).kill t).M)))
        | true, .str c => need (decide (c.length ≤ 1099511627776)) (K (.own t 0 c.length none) ((((st.withM p.2).fresh t (.bytes [] false)).kill t).kill t |>.withM ((t, .bytes c false) :: ((((st.withM p.2).fresh t (.bytes [] false)).kill t).kill t).M)))
        | false, .row y c => need (Nat.beq y sz && decide (c.length ≤ 1099511627776)) (K (.own t 0 c.length none) ((((st.withM p.2).fresh t (.row sz [] false)).kill t).kill t |>.withM ((t, .row sz c false) :: ((((st.withM p.2).fresh t (.row sz [] false)).kill t).kill t).M)))
        | _, _ => none)
  | .call f xs ty => giveL G st.env st.M xs fun vs M => (R f vs).bind fun r => asTy ty r.v fun v => bif ty.flat then K (.imm v) st else K (.imm v) (st.withM M)
  | .callOwn t f xs sz _ by_ => giveL G st.env st.M xs fun vs M => (R f vs).bind fun r => bif r.own then (match by_, r.v with
      | true, .bytes s => K (.own t 0 s.length none) ((st.kill t).withM ((t, .bytes s false) :: killM t st.M))
      | false, .row z s => need (Nat.beq z sz) (K (.own t 0 s.length none) (((st.withM M).kill t).withM ((t, .row sz s false) :: killM t M)))
      | _, _ => none) else none
  | .callOwnT t f xs sz tys => giveL G st.env st.M xs fun vs M => (R f vs).bind fun r => bif r.own then asTy (.tup (.row sz :: tys)) r.v fun v => (match v with
      | .tup (.row _ s :: rest) => need (Ty.flats tys) (K (.tupO t s.length rest) (((st.withM M).kill t).withM ((t, .row sz s false) :: killM t M)))
      | _ => none) else none
  | .rangeS t x => (x.ev G st).bind fun s => match s with
    | .imm (.str b) => K (.ptr t 0 0) ((st.kill t).withM ((t, .iter b 0) :: killM t st.M))
    | _ => none
  | .nextS x => (x.ev G st).bind fun s => match s with
    | .ptr t i off => (get st.M t).bind fun blk => (match blk with
      | .iter b pos => need (Nat.beq i 0 && Nat.beq off 0) (bif decide (pos < b.length) then
          K (.imm (.tup [.bool true, .int .i64 (pos : Int), .int .i32 ((runeAt b pos).1 : Int)])) (st.withM (setM st.M t (.iter b (pos + (runeAt b pos).2))))
        else K (.imm (.tup [.bool false])) st)
      | _ => none)
    | _ => none
  | .mkFn f caps => giveL G st.env st.M caps fun vs M => K (.imm (.fn f vs)) (st.withM M)
  | .callF x xs ty => (x.ev G st).bind fun s => match s with
    | .imm v => asF v fun f cs => giveL G st.env st.M xs fun vs M => (R f (vs ++ cs)).bind fun r => asTy ty r.v fun v => K (.imm v) (st.withM M)
    | _ => none
  | .callM own f xs fl al ty => giveL G st.env st.M (pickL fl xs false) fun vs M => refL G st.env M (pickL fl xs true) fun us cs =>
      (R f (mergeL fl vs (cs.map .ref))).bind fun r => outsK al r.outs fun os => setAll (killAll (st.withM M) (deads us os)).M us os fun M2 => (match own with
      | none => asTy ty r.v fun v => K (.imm v) ((killAll (st.withM M) (deads us os)).withM M2)
      | some (t, sz, by_) => need r.own (bif by_ then
          asY r.v fun s => K (.own t 0 s.length none) (((killAll (st.withM M) (deads us os)).withM M2 |>.kill t).withM ((t, .bytes s false) :: killM t M2))
        else asR sz r.v fun s => K (.own t 0 s.length none) (((killAll (st.withM M) (deads us os)).withM M2 |>.kill t).withM ((t, .row sz s false) :: killM t M2))))
  | .isNil ng x iface => (x.ev G st).bind fun s => match s with
    | .imm v => bif iface then asNil v (K (.imm (.bool !ng)) st) else (match v with
      | .bytes b => need (decide (0 < b.length)) (K (.imm (.bool ng)) st)
      | .row _ b => need (decide (0 < b.length)) (K (.imm (.bool ng)) st)
      | _ => none)
    | .own _ _ len _ => bif iface then none else need (decide (0 < len)) (K (.imm (.bool ng)) st)
    | _ => none
  | .bsliceG z parts sz => (immG G st z parts).bind fun vs => rowOf false sz vs fun v => K (.imm v) st
  | .mkMap t => K (.mp t) ((st.kill t).withM ((t, .map []) :: killM t st.M))
  | .insM kd x k v => (x.ev G st).bind fun s => (k.ev G st).bind fun a => (v.ev G st).bind fun b => match s, a, b with
    | .mp t, .imm a, .imm b => (get st.M t).bind fun blk => (match blk with
      | .map es => need (keyIs kd a && b.plainV && freshK a es && decide (es.length ≤ 1000000)) (K .dead (st.withM (setM st.M t (.map (es ++ [(a, b)])))))
      | _ => none)
    | _, _, _ => none
  | .lookM kd x k z ty => (x.ev G st).bind fun s => (k.ev G st).bind fun a => match s, a with
    | .mp t, .imm a => (get st.M t).bind fun blk => (match blk with
      | .map es => need (keyIs kd a && z.plainV && knownK a es) (asTy ty (lookK a z es).1 fun w => K (.imm (.tup [w, .bool (lookK a z es).2])) st)
      | _ => none)
    | _, _ => none
  | .rangeM t x => (x.ev G st).bind fun s => match s with
    | .mp u => (get st.M u).bind fun blk => (match blk with
      | .map es => K (.ptr t 0 0) (((st.kill u).kill t).withM ((t, .miter es none) :: ((st.kill u).kill t).M))
      | _ => none)
    | _ => none
  | .loadC x sz ty => (x.ev G st).bind fun s => match s with
    | .imm (.cell cs) => (match sz with
      | none => cs[0]?.bind fun v => asTy ty v fun v => K (.imm v) st
      | some n => need (Nat.ble n cs.length) (asTy ty (.agg (cs.take n)) fun v => K (.imm v) st))
    | _ => none
  | .loadG x sz ty => (x.ev G st).bind fun s => match s with
    | .ptr t i off => (get st.M t).bind fun b => (match b with
      | .box cs => need (Nat.beq i 0 && Nat.ble (off + sz) cs.length) ((giveSs st.M ((cs.drop off).take sz)).bind fun p => asTy ty (.agg p.1) fun v => K (.imm v) (st.withM p.2))
      | _ => none)
    | _ => none
  | .mkFnC f caps => capsC G st caps fun vs st' => K (.imm (.fn f vs)) st'
  | .lenM x => (x.ev G st).bind fun s => match s with
    | .mp t => (get st.M t).bind fun b => (match b with
      | .map es => K (.imm (.int .i64 (es.length : Nat))) st
      | _ => none)
    | _ => none
  | .mkOwnC t n c sz zero => (n.ev G st).bind fun s => (c.ev G st).bind fun u => match s, u with
    | .imm (.int _ n), .imm (.int _ c) => need (decide (0 ≤ n) && decide (n ≤ c) && decide (c ≤ 1099511627776)) (need (Nat.beq zero.flat.length sz && zero.flat.all AV.one) (K (.own t 0 n.toNat none) ((st.kill t).withM ((t, .row sz (List.replicate n.toNat zero) false) :: killM t st.M))))
    | _, _ => none
  | .entM x tk tv => (x.ev G st).bind fun s => match s with
    | .ptr t i off => (get st.M t).bind fun blk => (match blk with
      | .miter _ (some p) => need (Nat.beq i 0 && Nat.beq off 0) (asTy tk p.1 fun k => asTy tv p.2 fun v => K (.imm (.tup [k, v])) st)
      | _ => none)
    | _ => none

abbrev Rho := Nat → Option (Nat × Nat × Nat)

def Blk.sz : Blk → Nat
  | .bytes _ _ => 1
  | .row sz _ _ => sz
  | _ => 1
def Blk.count : Blk → Nat
  | .bytes s _ => s.length
  | .row _ xs _ => xs.length
  | _ => 0
def Blk.void : Blk → Prop
  | .bytes s _ => s = []
  | .row _ xs _ => xs = []
  | _ => False

inductive RelS (w : World) (B : Nat → Prop) (ρ : Rho) (M : List (Nat × Blk)) : SV → Value → Prop
  | imm (v : AV) (x : Value) (h : Rel w B v x) : RelS w B ρ M (.imm v) x
  | own (t off len : Nat) (cap : Option Nat) (b o cp c : Nat) (blk : Blk) (hm : get M t = some blk) (hr : ρ t = some (b, o, cp))
      (hc : off + c ≤ cp) (hl : len ≤ c) (hn : off + len ≤ blk.count) :
      RelS w B ρ M (.own t off len cap) (.slice (some ⟨b, o + off * blk.sz, none⟩) len c)
  | ownNil (t : Nat) (cap : Option Nat) (blk : Blk) (hm : get M t = some blk) (hr : ρ t = none) : RelS w B ρ M (.own t 0 0 cap) (.slice none 0 0)
  | ptr (t i off b o cp : Nat) (blk : Blk) (hm : get M t = some blk) (hr : ρ t = some (b, o, cp)) :
      RelS w B ρ M (.ptr t i off) (.pointer (some ⟨b, o + i * blk.sz + off, none⟩))
  | rptr (cs : List AV) (vs : List Value) (b o : Nat) (hb : b < w.heap.size) (hB : ¬ B b) (hr : RelL w B cs vs)
      (hs : ∀ j v, vs[j]? = some v → w.cell? ⟨b, o + j, none⟩ = some v) : RelS w B ρ M (.rptr cs) (.pointer (some ⟨b, o, none⟩))
  | tupO (t len : Nat) (rest : List AV) (vs : List Value) (b o cp c : Nat) (blk : Blk) (hm : get M t = some blk) (hr : ρ t = some (b, o, cp)) (hc : c ≤ cp) (hl : len ≤ c) (hn : len ≤ blk.count) (hv : RelL w B rest vs) :
      RelS w B ρ M (.tupO t len rest) (.tuple (Value.slice (some ⟨b, o, none⟩) len c :: vs).toArray)
  | tupNil (t : Nat) (rest : List AV) (vs : List Value) (blk : Blk) (hm : get M t = some blk) (hr : ρ t = none) (hv : RelL w B rest vs) : RelS w B ρ M (.tupO t 0 rest) (.tuple (Value.slice none 0 0 :: vs).toArray)
  | mp (t b o cp : Nat) (blk : Blk) (hm : get M t = some blk) (hr : ρ t = some (b, o, cp)) : RelS w B ρ M (.mp t) (.map (some b))
  | dead (v : Value) : RelS w B ρ M .dead v

/-- No cell of a block of `n` cells is frozen. -/
def Free (n : Nat) (fr : Nat × Nat) : Prop := fr.1 = fr.2 ∨ n ≤ fr.1
theorem Free.at {n : Nat} {fr : Nat × Nat} (h : Free n fr) {j : Nat} (hj : j < n) : (decide (fr.1 ≤ j) && decide (j < fr.2)) = false := by
  rcases h with h | h
  · rw [h]; simp only [Bool.and_eq_false_iff, decide_eq_false_iff_not]; omega
  · simp only [Bool.and_eq_false_iff, decide_eq_false_iff_not]; omega

/-- All cells up to the capacity are bytes. -/
def Bytes8 (cells : Array Value) (o cp : Nat) : Prop := cp ≤ 9223372036854775807 ∧ ∀ j, j < cp → ∃ x : UInt8, cells[o + j]? = some (.int .u8 x.toNat)

/-- An entry, as the machine has it. -/
def entV (e : MapEntry) : Value × Value := (e.key, e.val)
def entA (p : AV × AV) : Value × Value := (p.1.pv, p.2.pv)
def PlainE (es : List (AV × AV)) : Prop := ∀ p ∈ es, p.1.plainV = true ∧ p.2.plainV = true
/-- A map's entries, in whatever order. -/
def MapAt (w : World) (b : Nat) (es : List (AV × AV)) : Prop :=
  ∃ mes clock, w.heap[b]? = some (.map mes clock) ∧ (mes.toList.map entV).Perm (es.map entA) ∧ MapKept.Stamped mes clock ∧ PlainE es
/-- What is left of a map that is gone through. -/
def IterAt (w : World) (B : Nat → Prop) (b : Nat) (es : List (AV × AV)) (cur : Option (AV × AV)) : Prop :=
  ∃ bm since seen c0 mes clock, w.heap[b]? = some (.mapIter (some bm) since seen c0) ∧ bm < w.heap.size ∧ ¬ B bm ∧ w.heap[bm]? = some (.map mes clock) ∧ (∀ x ∈ mes.toList, x.born < since) ∧ since ≤ c0 ∧ since ≤ clock ∧ (mes.toList.map (·.born)).Nodup ∧
    ((leftOf mes seen).toList.map entV).Perm (es.map entA) ∧ PlainE es ∧
    ∀ p, cur = some p → ∃ (seen0 : Array Nat) (e : MapEntry), seen = seen0.push e.born ∧ c0 = clock ∧ e ∈ mes.toList ∧ entV e = entA p ∧ p.1.plainV = true ∧ p.2.plainV = true

def RelBlk (w : World) (B : Nat → Prop) (ρ : Rho) (M : List (Nat × Blk)) (b o cp : Nat) : Blk → Prop
  | .bytes s _ => ∃ cells e fr, w.heap[b]? = some (.cells cells e fr) ∧ Free cells.size fr ∧ s.length ≤ cp ∧ o + cp ≤ cells.size ∧
      (∀ j x, s[j]? = some x → cells[o + j]? = some (.int .u8 x.toNat)) ∧ Bytes8 cells o cp
  | .row sz xs _ => ∃ cells e fr vs, w.heap[b]? = some (.cells cells e fr) ∧ Free cells.size fr ∧ xs.length ≤ cp ∧ o + cp * sz ≤ cells.size ∧
      (∀ x ∈ xs, x.flat.length = sz) ∧ (∀ v ∈ vs, v.oneCell' = true) ∧ RelL w B (flats xs) vs ∧ ∀ j (v : Value), vs[j]? = some v → cells[o + j]? = some v
  | .box cs => ∃ cells e fr, w.heap[b]? = some (.cells cells e fr) ∧ Free cells.size fr ∧ o + cs.length ≤ cells.size ∧
      ∀ j s, cs[j]? = some s → ∃ v, cells[o + j]? = some v ∧ RelS w B ρ M s v
  | .iter s pos => ∃ ba : ByteArray, w.heap[b]? = some (.stringIter ba pos) ∧ ba.data.toList = s ∧ o = 0
  | .map es => o = 0 ∧ MapAt w b es
  | .miter es cur => o = 0 ∧ IterAt w B b es cur

/-- Tags from here on stand for rows and variables that a caller lends; they stay where they are. -/
def rT : Nat := 900000

structure Cx where
  G : List (Nat × List AV)
  w0 : World
  Bo : Nat → Prop
  W : Nat → Prop
  ρ0 : Rho := fun _ => none

def bad (Bo : Nat → Prop) (ρ : Rho) (M : List (Nat × Blk)) (b : Nat) : Prop :=
  Bo b ∨ ∃ t blk o cp, get M t = some blk ∧ blk.fz = false ∧ ρ t = some (b, o, cp)

/-- A table that is known with its end. -/
def exactT : List AV → Bool
  | .int .u64 _ :: _ => true
  | _ => false
def intCell : AV → Value
  | .int k n => .int k n
  | _ => undef
/-- What is known of package-level variables. -/
def GOk (G : List (Nat × List AV)) (B : Nat → Prop) (w : World) : Prop :=
  ∀ g cs, get G g = some cs → g < w.heap.size ∧ ¬ B g ∧ ((cs = [] → ∃ m, w.cell? ⟨g, 0, none⟩ = some (.int .i64 m)) ∧ (exactT cs = true → ∃ e fr, w.heap[g]? = some (.cells (cs.map intCell).toArray e fr))) ∧ ∃ vs, RelL w B cs vs ∧ ∀ j (v : Value), vs[j]? = some v → w.cell? ⟨g, j, none⟩ = some v

structure Inv (C : Cx) (ρ : Rho) (st : St) (tm : Array Value) (w : World) : Prop where
  ext : Agree C.W C.w0 w
  env : ∀ n s, get st.env n = some s → n < tm.size ∧ RelS w (bad C.Bo ρ st.M) ρ st.M s (tm.getD n undef)
  mem : ∀ t blk, get st.M t = some blk → (∃ b o cp, ρ t = some (b, o, cp) ∧ RelBlk w (bad C.Bo ρ st.M) ρ st.M b o cp blk ∧ ¬ C.Bo b ∧ (blk.fz = false → C.w0.heap.size ≤ b ∨ C.W b)) ∨ (ρ t = none ∧ blk.void)
  inj : ∀ t t' blk blk' b o cp b' o' cp', get st.M t = some blk → get st.M t' = some blk' → blk.fz = false → t ≠ t' → ρ t = some (b, o, cp) → ρ t' = some (b', o', cp') → b ≠ b'
  glob : GOk C.G (bad C.Bo ρ st.M) w
  bo : ∀ b, C.Bo b → b < w.heap.size
  pin : ∀ t blk, rT ≤ t → get st.M t = some blk → ρ t = C.ρ0 t

theorem RelS.mono {w w' : World} {B B' : Nat → Prop} {ρ : Rho} {M : List (Nat × Blk)} (hA : Agree B w w') (hB : ∀ b, b < w.heap.size → B' b → B b) {s : SV} {v : Value}
    (h : RelS w B ρ M s v) : RelS w' B' ρ M s v := by
  cases h with
  | imm v x h => exact .imm _ _ (h.mono hA hB)
  | own t off len cap b o cp c blk hm hr hc hl hn => exact .own t off len cap b o cp c blk hm hr hc hl hn
  | ownNil t cap blk hm hr => exact .ownNil t cap blk hm hr
  | ptr t i off b o cp blk hm hr => exact .ptr t i off b o cp blk hm hr
  | rptr cs vs b o hb hn hr hs => exact .rptr cs vs b o (Nat.lt_of_lt_of_le hb hA.1) (fun h => hn (hB b hb h)) (hr.mono hA hB) fun j x hj => by rw [hA.cell hb hn]; exact hs j x hj
  | tupO t len rest vs b o cp c blk hm hr hc hl hn hv => exact .tupO t len rest vs b o cp c blk hm hr hc hl hn (hv.mono hA hB)
  | tupNil t rest vs blk hm hr hv => exact .tupNil t rest vs blk hm hr (hv.mono hA hB)
  | mp t b o cp blk hm hr => exact .mp t b o cp blk hm hr
  | dead v => exact .dead v

theorem lt_of_get {w : World} {b : Nat} {o : Obj} (h : w.heap[b]? = some o) : b < w.heap.size := by
  rcases Nat.lt_or_ge b w.heap.size with h' | h'
  · exact h'
  · simp [Array.getElem?_eq_none h'] at h

/-- A block is as it was: what is told of it stays. -/
theorem RelBlk.mono {w w' : World} {B B' : Nat → Prop} {ρ : Rho} {M : List (Nat × Blk)} {b o cp : Nat} {blk : Blk} (hA : Agree B w w') (hB : ∀ b, b < w.heap.size → B' b → B b)
    (hb : w'.heap[b]? = w.heap[b]?) (h : RelBlk w B ρ M b o cp blk) : RelBlk w' B' ρ M b o cp blk := by
  cases blk with
  | bytes s f => obtain ⟨cells, e, fr, h1, h2⟩ := h; exact ⟨cells, e, fr, by rw [hb, h1], h2⟩
  | row sz xs f => obtain ⟨cells, e, fr, vs, h1, h2, h3, h4, h5, h51, h6, h7⟩ := h; exact ⟨cells, e, fr, vs, by rw [hb, h1], h2, h3, h4, h5, h51, h6.mono hA hB, h7⟩
  | box cs => obtain ⟨cells, e, fr, h1, h2, h3, h4⟩ := h; exact ⟨cells, e, fr, by rw [hb, h1], h2, h3, fun j s hj => let ⟨v, hv, hs⟩ := h4 j s hj; ⟨v, hv, hs.mono hA hB⟩⟩
  | iter s pos => obtain ⟨ba, h1, h2⟩ := h; exact ⟨ba, by rw [hb, h1], h2⟩
  | map es => obtain ⟨h0, mes, clock, h1, h2⟩ := h; exact ⟨h0, mes, clock, by rw [hb, h1], h2⟩
  | miter es cur =>
    obtain ⟨h0, bm, since, seen, c0, mes, clock, h1, h2, h3, h4, h5⟩ := h
    exact ⟨h0, bm, since, seen, c0, mes, clock, by rw [hb, h1], Nat.lt_of_lt_of_le h2 hA.1, fun hh => h3 (hB bm h2 hh), by rw [hA.2 bm h2 h3, h4], h5⟩

theorem RelBlk.lt {w : World} {B : Nat → Prop} {ρ : Rho} {M : List (Nat × Blk)} {b o cp : Nat} {blk : Blk} (h : RelBlk w B ρ M b o cp blk) : b < w.heap.size := by
  cases blk with
  | bytes s f => obtain ⟨cells, e, fr, h1, _⟩ := h; exact lt_of_get h1
  | row sz xs f => obtain ⟨cells, e, fr, vs, h1, _⟩ := h; exact lt_of_get h1
  | box cs => obtain ⟨cells, e, fr, h1, _⟩ := h; exact lt_of_get h1
  | iter s pos => obtain ⟨ba, h1, _⟩ := h; exact lt_of_get h1
  | map es => obtain ⟨_, mes, clock, h1, _⟩ := h; exact lt_of_get h1
  | miter es cur => obtain ⟨_, bm, since, seen, c0, mes, clock, h1, _⟩ := h; exact lt_of_get h1

theorem GOk.mono {G : List (Nat × List AV)} {w w' : World} {B B' : Nat → Prop} (hA : Agree B w w') (hB : ∀ b, b < w.heap.size → B' b → B b) (h : GOk G B w) : GOk G B' w' := by
  intro g cs hg
  obtain ⟨h1, h2, h0, vs, h3, h4⟩ := h g cs hg
  exact ⟨Nat.lt_of_lt_of_le h1 hA.1, fun hh => h2 (hB g h1 hh), ⟨fun e => let ⟨m, hm⟩ := h0.1 e; ⟨m, by rw [hA.cell h1 h2]; exact hm⟩, fun e => let ⟨x, y, hx⟩ := h0.2 e; ⟨x, y, by rw [hA.eq g h1 h2]; exact hx⟩⟩, vs, h3.mono hA hB, fun j v hj => by rw [← h4 j v hj]; exact hA.cell h1 h2⟩

theorem Agree.none {w w' : World} {B : Nat → Prop} (h : Agree (fun _ => False) w w') : Agree B w w' := h.mono fun _ _ h => h.elim

theorem getD_set_ne {tm : Array Value} {d n : Nat} {v : Value} (h : d ≠ n) : (tm.setIfInBounds d v).getD n undef = tm.getD n undef := by
  simp only [Array.getD_eq_getD_getElem?, Array.getElem?_setIfInBounds, if_neg h]
theorem getD_set_eq {tm : Array Value} {d : Nat} {v : Value} (h : d < tm.size) : (tm.setIfInBounds d v).getD d undef = v := by
  simp [Array.getD_eq_getD_getElem?, h]

/-- New memory, and nothing else: all stays. -/
theorem Inv.grow {C : Cx} {ρ : Rho} {st : St} {tm : Array Value} {w w' : World} (h : Inv C ρ st tm w) (hA : Agree (fun _ => False) w w') : Inv C ρ st tm w' where
  ext := h.ext.trans hA.none
  env := fun n s hn => ⟨(h.env n s hn).1, (h.env n s hn).2.mono hA.none fun _ _ h => h⟩
  mem := fun t blk ht => by
    rcases h.mem t blk ht with ⟨b, o, cp, h1, h2, h3⟩ | h1
    · exact .inl ⟨b, o, cp, h1, h2.mono hA.none (fun _ _ h => h) (hA.2 b h2.lt (fun h => h)), h3⟩
    · exact .inr h1
  inj := h.inj
  glob := h.glob.mono hA.none fun _ _ h => h
  bo := fun b hb => Nat.lt_of_lt_of_le (h.bo b hb) hA.1
  pin := h.pin

theorem Inv.put {C : Cx} {ρ : Rho} {st : St} {tm : Array Value} {w : World} (h : Inv C ρ st tm w) {d : Nat} {s : SV} {v : Value} (hd : d < tm.size)
    (hs : RelS w (bad C.Bo ρ st.M) ρ st.M s v) : Inv C ρ (st.put d s) (tm.setIfInBounds d v) w where
  ext := h.ext
  env := fun n u hn => by
    simp only [St.put, get] at hn
    cases hdn : Nat.beq d n
    · rw [hdn] at hn
      have hne : d ≠ n := Nat.ne_of_beq_eq_false hdn
      obtain ⟨h1, h2⟩ := h.env n u hn
      refine ⟨by simpa using h1, ?_⟩
      rw [getD_set_ne hne]; exact h2
    · rw [hdn] at hn
      have hne : d = n := Nat.eq_of_beq_eq_true hdn
      subst hne
      simp only [cond_true, Option.some.injEq] at hn
      subst hn
      exact ⟨by simpa using hd, by rw [getD_set_eq hd]; exact hs⟩
  mem := h.mem
  inj := h.inj
  glob := h.glob
  bo := h.bo
  pin := h.pin

/-- A temporary without a place. -/
theorem Inv.tm {C : Cx} {ρ : Rho} {st : St} {tm : Array Value} {w : World} (h : Inv C ρ st tm w) {d : Nat} {v : Value} (hd : get st.env d = none) : Inv C ρ st (tm.setIfInBounds d v) w where
  ext := h.ext
  env := fun n u hn => by
    obtain ⟨h1, h2⟩ := h.env n u hn
    have hne : d ≠ n := by intro e; subst e; rw [hd] at hn; cases hn
    refine ⟨by simpa using h1, ?_⟩
    rw [getD_set_ne hne]; exact h2
  mem := h.mem
  inj := h.inj
  glob := h.glob
  bo := h.bo
  pin := h.pin

section par
variable {α β γ : Type} {g : β → Option α}
theorem p_bind {x : Option γ} {f : γ → Option α} {f0 : γ → Option β} (h : ∀ a, f a = (f0 a).bind g) : x.bind f = (x.bind f0).bind g := by
  cases x with
  | none => rfl
  | some a => exact h a
theorem p_need {b : Bool} {x : Option α} {x0 : Option β} (h : x = x0.bind g) : need b x = (need b x0).bind g := by cases b <;> simp [need, h]
theorem p_cond {b : Bool} {x y : Option α} {x0 y0 : Option β} (h : x = x0.bind g) (h' : y = y0.bind g) : (bif b then x else y) = (bif b then x0 else y0).bind g := by cases b <;> simp [h, h']
theorem p_none : (none : Option α) = (none : Option β).bind g := rfl
theorem p_asI {k : IntKind} {v : AV} {f : Int → Option α} {f0 : Int → Option β} (h : ∀ a, f a = (f0 a).bind g) : asI k v f = (asI k v f0).bind g := by
  cases v <;> simp only [asI] <;> first | rfl | exact p_cond (h _) p_none
theorem p_byteOf {n : Int} {f : UInt8 → Option α} {f0 : UInt8 → Option β} (h : ∀ a, f a = (f0 a).bind g) : byteOf n f = (byteOf n f0).bind g := p_need (h _)
mutual
theorem p_asTy : ∀ (ty : Ty) (v : AV) {f : AV → Option α} {f0 : AV → Option β} (h : ∀ a, f a = (f0 a).bind g), asTy ty v f = (asTy ty v f0).bind g
  | .int k, v, f, f0, h => p_asI fun _ => h _
  | .bool, v, f, f0, h => by cases v <;> simp only [asTy, asB] <;> first | rfl | exact h _
  | .str, v, f, f0, h => by cases v <;> simp only [asTy, asS] <;> first | rfl | exact h _
  | .bytes, v, f, f0, h => by cases v <;> simp only [asTy, asY] <;> first | rfl | exact h _
  | .row z, v, f, f0, h => by cases v <;> simp only [asTy, asR] <;> first | rfl | exact p_cond (h _) p_none
  | .agg cs, v, f, f0, h => by cases v <;> simp only [asTy, asA] <;> first | rfl | exact p_asTys cs _ fun _ => h _
  | .tup cs, v, f, f0, h => by cases v <;> simp only [asTy, asT] <;> first | rfl | exact p_asTys cs _ fun _ => h _
  | .any, v, f, f0, h => h _
  | .lent, v, f, f0, h => by cases v <;> simp only [asTy, asL] <;> first | rfl | exact h _
theorem p_asTys : ∀ (cs : List Ty) (l : List AV) {f : List AV → Option α} {f0 : List AV → Option β} (h : ∀ a, f a = (f0 a).bind g), asTys cs l f = (asTys cs l f0).bind g
  | [], l, f, f0, h => by cases l <;> simp only [asTys, asN] <;> first | rfl | exact h _
  | c :: cs, [], f, f0, h => rfl
  | c :: cs, x :: l, f, f0, h => by
    simp only [asTys, asC]
    exact p_asTy c x fun _ => p_asTys cs l fun _ => h _
end
theorem p_intBin {op : BinOp} {k : IntKind} {a b : Int} {f : AV → Option α} {f0 : AV → Option β} (h : ∀ a, f a = (f0 a).bind g) : intBin op k a b f = (intBin op k a b f0).bind g := by
  cases op <;> simp only [intBin] <;> first | exact h _ | exact p_need (h _) | rfl
theorem p_shiftBin {op : BinOp} {k : IntKind} {a b : Int} {f : AV → Option α} {f0 : AV → Option β} (h : ∀ a, f a = (f0 a).bind g) : shiftBin op k a b f = (shiftBin op k a b f0).bind g := by
  cases op <;> simp only [shiftBin] <;> first | exact p_need (h _) | exact p_need p_none
theorem p_strBin {op : BinOp} {a b : List UInt8} {f : AV → Option α} {f0 : AV → Option β} (h : ∀ a, f a = (f0 a).bind g) : strBin op a b f = (strBin op a b f0).bind g := by
  cases op <;> simp only [strBin] <;> first | exact h _ | exact p_need (h _) | rfl
theorem p_bin {op : BinOp} {x y : AV} {f : AV → Option α} {f0 : AV → Option β} (h : ∀ a, f a = (f0 a).bind g) : bin op x y f = (bin op x y f0).bind g := by
  cases x <;> cases y <;> first | rfl | exact p_strBin h | skip
  · cases op <;> simp only [bin] <;> first | exact p_shiftBin h | exact p_cond (p_intBin h) p_none
theorem p_binB {op : BinOp} {x y : AV} {f : AV → Option α} {f0 : AV → Option β} (h : ∀ a, f a = (f0 a).bind g) : binB op x y f = (binB op x y f0).bind g := by
  cases x <;> cases y <;> first | rfl | skip
  · cases op <;> simp only [binB] <;> first | exact h _ | rfl
theorem p_un {op : UnOp} {x : AV} {f : AV → Option α} {f0 : AV → Option β} (h : ∀ a, f a = (f0 a).bind g) : un op x f = (un op x f0).bind g := by
  cases op <;> cases x <;> first | rfl | exact h _
theorem p_bytesOf : ∀ (l : List AV) {f : List UInt8 → Option α} {f0 : List UInt8 → Option β} (h : ∀ a, f a = (f0 a).bind g), bytesOf l f = (bytesOf l f0).bind g
  | [], f, f0, h => h _
  | x :: l, f, f0, h => p_asI fun _ => p_byteOf fun _ => p_bytesOf l fun _ => h _
theorem p_rowOf {by_ : Bool} {sz : Nat} {l : List AV} {f : AV → Option α} {f0 : AV → Option β} (h : ∀ a, f a = (f0 a).bind g) : rowOf by_ sz l f = (rowOf by_ sz l f0).bind g :=
  p_cond (p_bytesOf l fun _ => h _) (p_need (h _))
theorem p_giveL {G : List (Nat × List AV)} {env : List (Nat × SV)} : ∀ {xs : List AO} {M : List (Nat × Blk)} {f : List AV → List (Nat × Blk) → Option α} {f0 : List AV → List (Nat × Blk) → Option β}
    (h : ∀ a b, f a b = (f0 a b).bind g), giveL G env M xs f = (giveL G env M xs f0).bind g
  | [], M, f, f0, h => h _ _
  | x :: xs, M, f, f0, h => p_bind fun _ => p_bind fun _ => p_giveL fun _ _ => h _ _
theorem p_fillParts : ∀ {ps : List (Nat × Nat)} {cells vs : List AV} {f : List AV → Option α} {f0 : List AV → Option β} (h : ∀ a, f a = (f0 a).bind g), fillParts cells ps vs f = (fillParts cells ps vs f0).bind g
  | [], cells, [], f, f0, h => h _
  | [], cells, _ :: _, f, f0, h => rfl
  | _ :: _, cells, [], f, f0, h => by unfold fillParts; rfl
  | (_, _) :: ps, cells, v :: vs, f, f0, h => p_need (p_fillParts h)
theorem p_minL : ∀ {l : List AV} {a : Int} {k : IntKind} {f : Int → Option α} {f0 : Int → Option β} (h : ∀ a, f a = (f0 a).bind g), minL a l k f = (minL a l k f0).bind g
  | [], a, k, f, f0, h => h _
  | x :: l, a, k, f, f0, h => by cases x <;> simp only [minL] <;> first | rfl | exact p_cond (p_minL h) p_none
theorem p_maxL : ∀ {l : List AV} {a : Int} {k : IntKind} {f : Int → Option α} {f0 : Int → Option β} (h : ∀ a, f a = (f0 a).bind g), maxL a l k f = (maxL a l k f0).bind g
  | [], a, k, f, f0, h => h _
  | x :: l, a, k, f, f0, h => by cases x <;> simp only [maxL] <;> first | rfl | exact p_cond (p_maxL h) p_none
theorem p_bound {len d : Nat} {s : Option SV} {f : Nat → Option α} {f0 : Nat → Option β} (h : ∀ a, f a = (f0 a).bind g) : bound len d s f = (bound len d s f0).bind g := by
  unfold bound; split <;> first | exact h _ | exact p_need (h _) | rfl
theorem p_asF {v : AV} {f : Nat → List AV → Option α} {f0 : Nat → List AV → Option β} (h : ∀ a b, f a b = (f0 a b).bind g) : asF v f = (asF v f0).bind g := by
  cases v <;> simp only [asF] <;> first | rfl | exact h _ _
theorem p_asRf {v : AV} {f : AV → Option α} {f0 : AV → Option β} (h : ∀ a, f a = (f0 a).bind g) : asRf v f = (asRf v f0).bind g := by
  cases v <;> simp only [asRf] <;> first | rfl | exact h _
theorem p_asNil {v : AV} {x : Option α} {x0 : Option β} (h : x = x0.bind g) : asNil v x = (asNil v x0).bind g := by
  cases v <;> simp only [asNil] <;> first | rfl | exact h
theorem p_asC {v : List AV} {f : AV → List AV → Option α} {f0 : AV → List AV → Option β} (h : ∀ a b, f a b = (f0 a b).bind g) : asC v f = (asC v f0).bind g := by
  cases v <;> simp only [asC] <;> first | rfl | exact h _ _
theorem p_asN {v : List AV} {x : Option α} {x0 : Option β} (h : x = x0.bind g) : asN v x = (asN v x0).bind g := by
  cases v <;> simp only [asN] <;> first | rfl | exact h
theorem p_asY {v : AV} {f : List UInt8 → Option α} {f0 : List UInt8 → Option β} (h : ∀ a, f a = (f0 a).bind g) : asY v f = (asY v f0).bind g := by
  cases v <;> simp only [asY] <;> first | rfl | exact h _
theorem p_asR {z : Nat} {v : AV} {f : List AV → Option α} {f0 : List AV → Option β} (h : ∀ a, f a = (f0 a).bind g) : asR z v f = (asR z v f0).bind g := by
  cases v <;> simp only [asR] <;> first | rfl | exact p_cond (h _) p_none
theorem p_outsK : ∀ {al : List (Option Ty)} {os : List AV} {f : List AV → Option α} {f0 : List AV → Option β} (h : ∀ a, f a = (f0 a).bind g), outsK al os f = (outsK al os f0).bind g
  | [], os, f, f0, h => p_asN (h _)
  | none :: al, os, f, f0, h => p_asC fun _ _ => p_outsK fun _ => h _
  | some ty :: al, os, f, f0, h => p_asC fun _ _ => p_asRf fun _ => p_asTy _ _ fun _ => p_outsK fun _ => h _
theorem p_refOf {M : List (Nat × Blk)} {s : SV} {f : Nat → AV → Option α} {f0 : Nat → AV → Option β} (h : ∀ a b, f a b = (f0 a b).bind g) : refOf M s f = (refOf M s f0).bind g := by
  unfold refOf
  split
  · split <;> first | exact p_need (h _ _) | rfl
  · split <;> first | exact p_need (p_bind fun _ => h _ _) | rfl
  · rfl
theorem p_refL {G : List (Nat × List AV)} {env : List (Nat × SV)} {M : List (Nat × Blk)} : ∀ {xs : List AO} {f : List Nat → List AV → Option α} {f0 : List Nat → List AV → Option β}
    (h : ∀ a b, f a b = (f0 a b).bind g), refL G env M xs f = (refL G env M xs f0).bind g
  | [], f, f0, h => h _ _
  | x :: xs, f, f0, h => p_bind fun _ => p_refOf fun _ _ => p_refL fun _ _ => p_need (h _ _)
theorem p_re {b : Blk} {c : AV} {f : Blk → Option α} {f0 : Blk → Option β} (h : ∀ a, f a = (f0 a).bind g) : b.re c f = (b.re c f0).bind g := by
  unfold Blk.re; split <;> first | exact p_need (h _) | rfl
theorem p_setAll : ∀ {us : List Nat} {os : List AV} {M : List (Nat × Blk)} {f : List (Nat × Blk) → Option α} {f0 : List (Nat × Blk) → Option β} (h : ∀ a, f a = (f0 a).bind g), setAll M us os f = (setAll M us os f0).bind g
  | [], [], M, f, f0, h => h _
  | [], _ :: _, M, f, f0, h => rfl
  | _ :: _, [], M, f, f0, h => rfl
  | u :: us, o :: os, M, f, f0, h => by
    simp only [setAll]
    split
    · split
      · exact p_re fun _ => p_setAll h
      · rfl
    · exact p_setAll h
theorem p_capsC {G : List (Nat × List AV)} : ∀ {xs : List AO} {st : St} {f : List AV → St → Option α} {f0 : List AV → St → Option β}
    (h : ∀ a b, f a b = (f0 a b).bind g), capsC G st xs f = (capsC G st xs f0).bind g
  | [], st, f, f0, h => h _ _
  | x :: xs, st, f, f0, h => by
    simp only [capsC]
    refine p_bind fun s => ?_
    split
    · refine p_need (p_bind fun b => ?_)
      split
      · exact p_bind fun vs => p_capsC fun _ _ => h _ _
      · rfl
    · exact p_capsC fun _ _ => h _ _
    · exact p_capsC fun _ _ => h _ _
    · rfl
end par

theorem step_par {α : Type} (G : List (Nat × List AV)) (R : Nat → List AV → Option Res) (o : AOp) (st : St) (K : SV → St → Option α) :
    step G R o st K = (step G R o st fun s st' => some (s, st')).bind fun p => K p.1 p.2 := by
  have leaf : ∀ s st', K s st' = (some (s, st')).bind fun p : SV × St => K p.1 p.2 := fun _ _ => rfl
  cases o <;> simp only [step] <;>
    (repeat' first
      | exact leaf _ _ | exact p_none
      | (with_reducible refine p_bind fun _ => ?_) | (with_reducible refine p_need ?_) | (with_reducible refine p_cond ?_ ?_) | (with_reducible refine p_asTy _ _ fun _ => ?_) | (with_reducible refine p_bin fun _ => ?_) | (with_reducible refine p_binB fun _ => ?_) | (with_reducible refine p_un fun _ => ?_)
      | (with_reducible refine p_asI fun _ => ?_) | (with_reducible refine p_byteOf fun _ => ?_) | (with_reducible refine p_rowOf fun _ => ?_) | (with_reducible refine p_giveL fun _ _ => ?_) | (with_reducible refine p_capsC fun _ _ => ?_) | (with_reducible refine p_fillParts fun _ => ?_) | (with_reducible refine p_minL fun _ => ?_) | (with_reducible refine p_maxL fun _ => ?_)
      | (with_reducible refine p_bound fun _ => ?_) | (with_reducible refine p_asF fun _ _ => ?_) | (with_reducible refine p_refL fun _ _ => ?_) | (with_reducible refine p_setAll fun _ => ?_) | (with_reducible refine p_outsK fun _ => ?_) | (with_reducible refine p_asY fun _ => ?_) | (with_reducible refine p_asR fun _ => ?_) | (with_reducible refine p_asNil ?_) | split)

def Does (P : Program) (oper : Oper) (a : Act) (w : World) (S : Value → World → Prop) : Prop :=
  match (execOp a.eval oper).run P w with
  | .ok (.value v) w' => S v w'
  | .ok .skip w' => S undef w'
  | .ok (.enter f args) w' => Calls P f args w' fun e w'' => ∃ v, e = .returned v ∧ S v w''
  | _ => False

theorem Does.wp {P : Program} {oper : Oper} {a : Act} {w : World} {S : Value → World → Prop} {next : Act → World → Prop} {Q : Exit → Act → World → Prop}
    (h : Does P oper a w S) (hn : ∀ v w', S v w' → next (a.put oper.dst v) w') : oper.wp P a w next Q := by
  unfold Does at h
  unfold Oper.wp
  generalize (execOp a.eval oper).run P w = r at h ⊢
  cases r with
  | halt x w' => exact h.elim
  | ok x w' =>
    cases x with
    | value v => exact hn _ _ h
    | skip => exact hn _ _ h
    | enter f args => exact Calls.mono h fun e w'' ⟨v, hv, hs⟩ => by subst hv; exact hn _ _ hs
    | _ => exact h.elim

theorem Does.value {P : Program} {oper : Oper} {a : Act} {w w' : World} {S : Value → World → Prop} {v : Value}
    (h : (execOp a.eval oper).run P w = .ok (.value v) w') (hs : S v w') : Does P oper a w S := by unfold Does; rw [h]; exact hs
theorem Does.skip {P : Program} {oper : Oper} {a : Act} {w w' : World} {S : Value → World → Prop}
    (h : (execOp a.eval oper).run P w = .ok .skip w') (hs : S undef w') : Does P oper a w S := by unfold Does; rw [h]; exact hs
theorem Does.enter {P : Program} {oper : Oper} {a : Act} {w w' : World} {S : Value → World → Prop} {f : FuncId} {args : Array Value}
    (h : (execOp a.eval oper).run P w = .ok (.enter f args) w') (hs : Calls P f args w' fun e w'' => ∃ v, e = .returned v ∧ S v w'') : Does P oper a w S := by unfold Does; rw [h]; exact hs
theorem Does.mono {P : Program} {oper : Oper} {a : Act} {w : World} {S S' : Value → World → Prop} (h : Does P oper a w S) (hs : ∀ v w', S v w' → S' v w') : Does P oper a w S' := by
  unfold Does at h ⊢
  generalize (execOp a.eval oper).run P w = r at h ⊢
  cases r with
  | halt x w' => exact h.elim
  | ok x w' =>
    cases x with
    | value v => exact hs _ _ h
    | skip => exact hs _ _ h
    | enter f args => exact Calls.mono h fun e w'' ⟨v, hv, h'⟩ => ⟨v, hv, hs _ _ h'⟩
    | _ => exact h.elim

def fitO : AO → Operand → Bool
  | .t n, .tmp m => Nat.beq n m
  | .k (.int k n), .const (.int k' n') => decide (k = k') && decide (n = n')
  | .k (.bool b), .const (.bool c) => b == c
  | .k (.str s), .const (.string b) => s == b.data.toList
  | .k .nilI, .const .nilIface => true
  | .k (.fn f []), .func g => Nat.beq f g
  | .k (.bytes []), .const (.slice none n c) => Nat.beq n 0 && Nat.beq c 0
  | .k (.row _ []), .const (.slice none n c) => Nat.beq n 0 && Nat.beq c 0
  | .g n, .global m => Nat.beq n m
  | _, _ => false

theorem get_tmp {C : Cx} {ρ : Rho} {st : St} {tm : Array Value} {w : World} (h : Inv C ρ st tm w) {n : Nat} {s : SV} (hn : get st.env n = some s) :
    RelS w (bad C.Bo ρ st.M) ρ st.M s (tm.getD n undef) := (h.env n s hn).2

theorem fitO_sound {C : Cx} {ρ : Rho} {st : St} {a : Act} {w : World} (hI : Inv C ρ st a.tmps w) {x : AO} {x' : Operand} (hf : fitO x x' = true) {s : SV} (hs : x.ev C.G st = some s) :
    RelS w (bad C.Bo ρ st.M) ρ st.M s (a.eval x') := by
  unfold fitO at hf
  split at hf
  · have := Nat.eq_of_beq_eq_true hf; subst this
    exact get_tmp hI hs
  · simp only [Bool.and_eq_true, decide_eq_true_eq] at hf
    obtain ⟨rfl, rfl⟩ := hf
    simp only [AO.ev, Option.some.injEq] at hs; subst hs
    exact .imm _ _ (.int _ _)
  · simp only [beq_iff_eq] at hf
    subst hf
    simp only [AO.ev, Option.some.injEq] at hs; subst hs
    exact .imm _ _ (.bool _)
  · simp only [beq_iff_eq] at hf
    subst hf
    simp only [AO.ev, Option.some.injEq] at hs; subst hs
    exact .imm _ _ (.str _)
  · simp only [AO.ev, Option.some.injEq] at hs; subst hs
    exact .imm _ _ .nilI
  · have := Nat.eq_of_beq_eq_true hf; subst this
    simp only [AO.ev, Option.some.injEq] at hs; subst hs
    exact .imm _ _ (.fn _ [] [] .nil)
  · simp only [Bool.and_eq_true] at hf
    have h1 := Nat.eq_of_beq_eq_true hf.1; have h2 := Nat.eq_of_beq_eq_true hf.2; subst h1; subst h2
    simp only [AO.ev, Option.some.injEq] at hs; subst hs
    exact .imm _ _ (.bnil none 0)
  · simp only [Bool.and_eq_true] at hf
    have h1 := Nat.eq_of_beq_eq_true hf.1; have h2 := Nat.eq_of_beq_eq_true hf.2; subst h1; subst h2
    simp only [AO.ev, Option.some.injEq] at hs; subst hs
    exact .imm _ _ (.rnil _ none 0)
  · have := Nat.eq_of_beq_eq_true hf; subst this
    rename_i g _
    simp only [AO.ev, Option.map_eq_some_iff] at hs
    obtain ⟨cs, hg, rfl⟩ := hs
    obtain ⟨h1, h2, _, vs, h3, h4⟩ := hI.glob _ _ hg
    exact .rptr cs vs _ 0 h1 h2 h3 fun j v hj => by rw [Nat.zero_add]; exact h4 j v hj
  · cases hf

/-- The aim of each operation's proof. -/
def Good (P : Program) (C : Cx) (oper : Oper) (a : Act) (w : World) (s : SV) (st' : St) : Prop :=
  Does P oper a w fun v w' => ∃ ρ', Inv C ρ' st' a.tmps w' ∧ RelS w' (bad C.Bo ρ' st'.M) ρ' st'.M s v

theorem Good.same {P : Program} {C : Cx} {oper : Oper} {a : Act} {w w' : World} {s : SV} {st : St} {ρ : Rho} (hI : Inv C ρ st a.tmps w) {v : Value}
    (h : (execOp a.eval oper).run P w = .ok (.value v) w') (hw : w'.heap = w.heap) (hs : RelS w (bad C.Bo ρ st.M) ρ st.M s v) (hout : w'.os = w.os ∧ w'.tape = w.tape ∧ w'.output = w.output := by exact ⟨rfl, rfl, rfl⟩) : Good P C oper a w s st := by
  have hA : Agree (fun _ => False) w w' := ⟨by rw [hw]; exact Nat.le_refl _, fun b _ _ => by rw [hw], hout⟩
  exact Does.value h ⟨ρ, hI.grow hA, hs.mono hA.none fun _ _ h => h⟩

section ex
variable {ρ : Operand → Value} {o : Oper}
theorem ex_move {x : Operand} (h : o.op = .move x) : execOp ρ o = pure (.value (ρ x)) := by cases o; subst h; rfl
theorem ex_assign {x : Operand} (h : o.op = .assign x) : execOp ρ o = pure (.value (ρ x)) := by cases o; subst h; rfl
theorem ex_pick {c x y : Operand} (h : o.op = .pick c x y) : execOp ρ o = (do pure (.value (if ← asBool (ρ c) then ρ x else ρ y))) := by cases o; subst h; rfl
theorem ex_alloc {e : TypeId} (h : o.op = .alloc e) : execOp ρ o = (do pure (.value (← Instr.alloc e true (.tuple #[])))) := by cases o; subst h; rfl
theorem ex_box {e : TypeId} {x : Operand} (h : o.op = .box e x) : execOp ρ o = (do pure (.value (← Instr.box e (ρ x)))) := by cases o; subst h; rfl
theorem ex_build {t : TypeId} {ps : Array (Nat × Operand)} (h : o.op = .build t ps) : execOp ρ o = (do pure (.value (← Instr.build t (ps.map fun (i, x) => (i, ρ x))))) := by cases o; subst h; rfl
theorem ex_buildSlice {t : TypeId} {n : Nat} {ps : Array (Nat × Operand)} (h : o.op = .buildSlice t n ps) : execOp ρ o = (do pure (.value (← Instr.buildSlice t n (ps.map fun (i, x) => (i, ρ x))))) := by cases o; subst h; rfl
theorem ex_load {t : TypeId} {x : Operand} (h : o.op = .load t x) : execOp ρ o = (do pure (.value (← Instr.loadAt t (ρ x)))) := by cases o; subst h; rfl
theorem ex_store {t : TypeId} {x y : Operand} (h : o.op = .store t x y) : execOp ρ o = (do Instr.storeAt t (ρ x) (ρ y); pure .skip) := by cases o; subst h; rfl
theorem ex_bin {b : BinOp} {t : TypeId} {x y : Operand} {u : TypeId} (h : o.op = .binOp b t x y u) : execOp ρ o = (do pure (.value (← (do eqGuard b t x y (ρ x) (ρ y); binOp b t (ρ x) (ρ y))))) := by cases o; subst h; rfl
theorem ex_un {b : UnOp} {t : TypeId} {x : Operand} (h : o.op = .unOp b t x) : execOp ρ o = (do pure (.value (← Op.unary b (ρ x)))) := by cases o; subst h; rfl
theorem ex_convert {s d : TypeId} {x : Operand} (h : o.op = .convert s d x) : execOp ρ o = (do pure (.value (← convert s d (ρ x)))) := by cases o; subst h; rfl
theorem ex_makeSlice {t : TypeId} {x y : Operand} (h : o.op = .makeSlice t x y) : execOp ρ o = (do pure (.value (← Instr.makeSlice t (ρ x) (ρ y)))) := by cases o; subst h; rfl
theorem ex_slice {t : TypeId} {x : Operand} {l h' m : Option Operand} (h : o.op = .slice t x l h' m) : execOp ρ o = (do pure (.value (← Instr.sliceAt t (ρ x) (l.map ρ) (h'.map ρ) (m.map ρ)))) := by cases o; subst h; rfl
theorem ex_fieldAddr {t : TypeId} {x : Operand} {f : Nat} (h : o.op = .fieldAddr t x f) : execOp ρ o = (do pure (.value (← Instr.fieldAt t (ρ x) f))) := by cases o; subst h; rfl
theorem ex_field {t : TypeId} {x : Operand} {f : Nat} (h : o.op = .field t x f) : execOp ρ o = (do pure (.value (← Instr.field t (ρ x) f))) := by cases o; subst h; rfl
theorem ex_indexAddr {t : TypeId} {x y : Operand} (h : o.op = .indexAddr t x y) : execOp ρ o = (do pure (.value (← Instr.indexAt t (ρ x) (ρ y)))) := by cases o; subst h; rfl
theorem ex_index {t : TypeId} {x y : Operand} (h : o.op = .index t x y) : execOp ρ o = (do pure (.value (← Instr.index t (ρ x) (ρ y)))) := by cases o; subst h; rfl
theorem ex_extract {x : Operand} {j : Nat} (h : o.op = .extract x j) : execOp ρ o = (do pure (.value (← Instr.extract (ρ x) j))) := by cases o; subst h; rfl
theorem ex_nilCheck {x : Operand} {p : Addr} (h : o.op = .nilCheck x) (hv : ρ x = .pointer (some p)) : execOp ρ o = pure (.value (ρ x)) := by
  cases o; subst h; simp only [execOp, hv]
theorem ex_makeFunc {f : Fn} {xs ys : Array Operand} (h : o.op = .makeFunc f xs ys) : execOp ρ o = (do pure (.value (← Instr.makeFunc f (xs.map ρ) (ys.map ρ)))) := by cases o; subst h; rfl
theorem ex_range {t : TypeId} {x : Operand} (h : o.op = .range t x) : execOp ρ o = (do pure (.value (← Instr.range t (ρ x)))) := by cases o; subst h; rfl
theorem ex_next {x : Operand} {b : Bool} (h : o.op = .next x b) : execOp ρ o = (do pure (.value (← Instr.next (ρ x) b o.type))) := by cases o; subst h; rfl
theorem ex_builtin {b : Builtin} {xs : Array Operand} {ts : Array TypeId} (h : o.op = .call ⟨.builtin b, xs, ts⟩) :
    execOp ρ o = builtin b ts o.type (xs.map fun | .const _ => true | _ => false) (xs.map ρ) := by cases o; subst h; rfl
theorem ex_builtin1 {b : Builtin} {x : Operand} {ts : Array TypeId} (h : o.op = .call ⟨.builtin b, #[x], ts⟩) : ∃ cs, execOp ρ o = builtin b ts o.type cs #[ρ x] :=
  ⟨_, by rw [ex_builtin h]; simp only [List.map_toArray, List.map]; rfl⟩
theorem ex_builtin2 {b : Builtin} {x y : Operand} {ts : Array TypeId} (h : o.op = .call ⟨.builtin b, #[x, y], ts⟩) : ∃ cs, execOp ρ o = builtin b ts o.type cs #[ρ x, ρ y] :=
  ⟨_, by rw [ex_builtin h]; simp only [List.map_toArray, List.map]; rfl⟩
theorem ex_call {f : FuncId} {xs : Array Operand} {ts : Array TypeId} (h : o.op = .call ⟨.value (.func f), xs, ts⟩) (hf : ρ (.func f) = .func (.func f) #[] #[]) :
    execOp ρ o = callFunc f (xs.map ρ) := by
  cases o; subst h
  simp only [execOp, resolve, hf, Deferred.ofValue, pure, Sem.bind, bind, invoke]
  simp
end ex

section ops
variable {P : Program} {C : Cx} {R : Nat → List AV → Option Res} {ρ : Rho} {st : St} {a : Act} {w : World} {oper : Oper} {s : SV} {st' : St}

theorem mv_ok {x : AO} (hI : Inv C ρ st a.tmps w) (h : step C.G R (.mv x) st (fun s st' => some (s, st')) = some (s, st')) {x' : Operand} (ho : oper.op = .move x' ∨ oper.op = .assign x') (hf : fitO x x' = true) :
    Good P C oper a w s st' := by
  simp only [step, Option.bind_eq_some_iff, Option.some.injEq, Prod.mk.injEq] at h
  obtain ⟨u, hu, rfl, rfl⟩ := h
  refine Good.same hI (v := a.eval x') (w' := w) ?_ rfl (fitO_sound hI hf hu)
  rcases ho with ho | ho
  · rw [ex_move ho]; rfl
  · rw [ex_assign ho]; rfl

theorem pick_ok {c x y : AO} (hI : Inv C ρ st a.tmps w) (h : step C.G R (.pick c x y) st (fun s st' => some (s, st')) = some (s, st')) {c' x' y' : Operand} (ho : oper.op = .pick c' x' y')
    (hc : fitO c c' = true) (hx : fitO x x' = true) (hy : fitO y y' = true) : Good P C oper a w s st' := by
  simp only [step, Option.bind_eq_some_iff] at h
  obtain ⟨u, hu, h⟩ := h
  have hc' := fitO_sound hI hc hu
  split at h
  · rename_i b
    cases hc' with
    | imm _ _ h1 =>
    cases hv : a.eval c' <;> rw [hv] at h1 <;> cases h1
    cases b
    · simp only [cond_false, Option.bind_eq_some_iff, Option.some.injEq, Prod.mk.injEq] at h
      obtain ⟨u', hu', rfl, rfl⟩ := h
      exact Good.same hI (v := a.eval y') (w' := w) (by rw [ex_pick ho, hv]; rfl) rfl (fitO_sound hI hy hu')
    · simp only [cond_true, Option.bind_eq_some_iff, Option.some.injEq, Prod.mk.injEq] at h
      obtain ⟨u', hu', rfl, rfl⟩ := h
      exact Good.same hI (v := a.eval x') (w' := w) (by rw [ex_pick ho, hv]; rfl) rfl (fitO_sound hI hx hu')
  · cases h

theorem need_some {α : Type} {b : Bool} {x : Option α} {y : α} (h : need b x = some y) : b = true ∧ x = some y := by
  cases b <;> simp_all [need]

end ops

/-- The run of one operation that answers a value. -/
theorem run_v {P : Program} {w w' : World} {s : Sem Value} {v : Value} (h : s.run P w = .ok v w') : (do pure (.value (← s)) : Sem Next).run P w = .ok (.value v) w' := by
  simp [h, Result.andThen]

theorem bin_int {P : Program} {w : World} {op : BinOp} {t : TypeId} {x y : Operand} {k k' : IntKind} {m n : Int} {r : AV}
    (h : bin op (.int k m) (.int k' n) some = some r) : ∃ v, (do eqGuard op t x y (.int k m) (.int k' n); binOp op t (.int k m) (.int k' n) : Sem Value).run P w = .ok v w ∧ Rel w (fun _ => True) r v := by
  have hg : ∀ f : Unit → Sem Value, ((eqGuard op t x y (.int k m) (.int k' n)) >>= f).run P w = (f ()).run P w := by
    intro f; cases op <;> rfl
  show ∃ v, ((eqGuard op t x y (.int k m) (.int k' n)) >>= fun _ => binOp op t (.int k m) (.int k' n)).run P w = .ok v w ∧ _
  rw [hg]
  by_cases hk : k = k'
  · subst hk
    cases op <;> simp only [bin, intBin, shiftBin, decide_true, cond_true, Option.some.injEq, reduceCtorEq] at h
    all_goals first
      | (subst h; refine ⟨_, (by show Sem.run P (if k ≠ k then _ else _) w = _; rw [if_neg (fun h => h rfl)]; rfl), ?_⟩; first | exact .int _ _ | exact .bool _)
      | (obtain ⟨hn, h⟩ := need_some h; simp only [Option.some.injEq] at h; subst h; simp only [Bool.not_eq_true', decide_eq_false_iff_not] at hn
         first
         | (refine ⟨_, (by show Sem.run P (if k ≠ k then _ else _) w = _; rw [if_neg (fun h => h rfl)]; show Sem.run P (if n = 0 then _ else _) w = _; rw [if_neg hn]; rfl), ?_⟩; exact .int _ _)
         | (refine ⟨_, (by show Sem.run P (if n < 0 then _ else _) w = _; rw [if_neg hn]; rfl), ?_⟩; exact .int _ _))
  · cases op <;> simp only [bin, shiftBin, hk, decide_false, cond_false, reduceCtorEq] at h
    all_goals
      obtain ⟨hn, h⟩ := need_some h; simp only [Option.some.injEq] at h; subst h; simp only [Bool.not_eq_true', decide_eq_false_iff_not] at hn
      refine ⟨_, by simp [binOp, Op.shift, hn]; rfl, ?_⟩; exact .int _ _


theorem bin_str {P : Program} {w : World} {op : BinOp} {t : TypeId} {x y : Operand} {m n : ByteArray} {r : AV}
    (h : bin op (.str m.data.toList) (.str n.data.toList) some = some r) : ∃ v, (do eqGuard op t x y (.string m) (.string n); binOp op t (.string m) (.string n) : Sem Value).run P w = .ok v w ∧ Rel w (fun _ => True) r v := by
  have hg : ∀ f : Unit → Sem Value, ((eqGuard op t x y (.string m) (.string n)) >>= f).run P w = (f ()).run P w := by
    intro f; cases op <;> rfl
  show ∃ v, ((eqGuard op t x y (.string m) (.string n)) >>= fun _ => binOp op t (.string m) (.string n)).run P w = .ok v w ∧ _
  rw [hg]
  have e : ∀ b : ByteArray, b.toList = b.data.toList := ByteArray.toList_eq
  cases op <;> simp only [bin, strBin, Option.some.injEq, reduceCtorEq] at h
  all_goals first
    | (subst h; refine ⟨_, rfl, ?_⟩; rw [e, e]; exact .bool _)
    | skip
  obtain ⟨hn, h⟩ := need_some h; simp only [Option.some.injEq] at h; subst h
  have hn' : ¬ (((m.size + n.size : Nat) : Int) > IntKind.i64.max) := by
    have : m.data.toList.length = m.size := by rw [Array.length_toList]; rfl
    have : n.data.toList.length = n.size := by rw [Array.length_toList]; rfl
    simp only [decide_eq_true_eq] at hn
    show ¬ (((m.size + n.size : Nat) : Int) > 9223372036854775807)
    omega
  refine ⟨.string (m ++ n), by simp only [binOp, Op.stringOp]; rw [if_neg hn']; rfl, ?_⟩
  have : m.data.toList ++ n.data.toList = (m ++ n).data.toList := by simp [ByteArray.data_append]
  rw [this]
  exact .str _

theorem run_underlying {P : Program} {w : World} {t : TypeId} {d : TypeDesc} (ht : P.underlying t = some d) : (underlying t).run P w = .ok d w := by
  show (match P.underlying t with | some d => pure d | none => stuck "no such type" : Sem TypeDesc).run P w = _
  rw [ht]; rfl
theorem run_typeInfo {P : Program} {w : World} {t : TypeId} {i : TypeInfo} (ht : P.info? t = some i) : (typeInfo t).run P w = .ok i w := by
  show (match P.info? t with | some d => pure d | none => stuck "no such type" : Sem TypeInfo).run P w = _
  rw [ht]; rfl
theorem run_sizeOf {P : Program} {w : World} {t : TypeId} {i : TypeInfo} (ht : P.info? t = some i) : (sizeOf t).run P w = .ok i.size w := by
  simp [sizeOf, run_typeInfo ht, Result.andThen]
theorem run_bind_ok {α β : Type} {P : Program} {w w' : World} {s : Sem α} {f : α → Sem β} {v : α} (h : s.run P w = .ok v w') : (s >>= f).run P w = (f v).run P w' := by
  simp [h, Result.andThen]
theorem equalIn_bool {P : Program} {w : World} {t : TypeId} {m n : Bool} (ht : P.underlying t = some .bool) (d : Nat) : (Op.equalIn (d + 1) t (.bool m) (.bool n)).run P w = .ok (m == n) w := by
  unfold Op.equalIn
  rw [run_bind_ok (run_underlying ht)]; rfl

theorem bin_bool {P : Program} {w : World} {op : BinOp} {t : TypeId} {x y : Operand} {m n : Bool} {r : AV} (ht : P.underlying t = some .bool)
    (h : binB op (.bool m) (.bool n) some = some r) : ∃ v, (do eqGuard op t x y (.bool m) (.bool n); binOp op t (.bool m) (.bool n) : Sem Value).run P w = .ok v w ∧ Rel w (fun _ => True) r v := by
  have hg : ∀ f : Unit → Sem Value, ((eqGuard op t x y (.bool m) (.bool n)) >>= f).run P w = (f ()).run P w := by
    intro f; cases op <;> rfl
  show ∃ v, ((eqGuard op t x y (.bool m) (.bool n)) >>= fun _ => binOp op t (.bool m) (.bool n)).run P w = .ok v w ∧ _
  rw [hg]
  have he : (Op.equal t (.bool m) (.bool n)).run P w = .ok (m == n) w := equalIn_bool ht 9999
  cases op <;> simp only [binB, Option.some.injEq, reduceCtorEq] at h
  · subst h; exact ⟨.bool (m == n), by show (do pure (.bool (← Op.equal t (.bool m) (.bool n))) : Sem Value).run P w = _; rw [run_bind_ok he]; rfl, .bool _⟩
  · subst h; exact ⟨.bool (!(m == n)), by show (do pure (.bool (!(← Op.equal t (.bool m) (.bool n)))) : Sem Value).run P w = _; rw [run_bind_ok he]; rfl, .bool _⟩

theorem Rel.all {w : World} {B : Nat → Prop} {x : AV} {v : Value} (h : Rel w (fun _ => True) x v) : Rel w B x v := h.mono (Agree.refl _ _) fun _ _ _ => trivial

section ops
variable {P : Program} {C : Cx} {R : Nat → List AV → Option Res} {ρ : Rho} {st : St} {a : Act} {w : World} {oper : Oper} {s : SV} {st' : St}

theorem bin_some {op : BinOp} {x y : AV} {K : AV → Option (SV × St)} {r : SV × St} (h : bin op x y K = some r) : ∃ v, bin op x y some = some v ∧ K v = some r := by
  rw [p_bin (g := K) (f := K) (f0 := some) fun _ => rfl, Option.bind_eq_some_iff] at h
  exact h

theorem bin_rel {op : BinOp} {t : TypeId} {x y : Operand} {p q r : AV} {B : Nat → Prop} {v1 v2 : Value} (h1 : Rel w B p v1) (h2 : Rel w B q v2) (h : bin op p q some = some r) :
    ∃ v, (do eqGuard op t x y v1 v2; binOp op t v1 v2 : Sem Value).run P w = .ok v w ∧ Rel w (fun _ => True) r v := by
  unfold bin at h
  split at h
  · cases h1; cases h2; exact bin_int h
  · cases h1; cases h2; exact bin_str h
  · cases h

theorem bin_ok {op : BinOp} {x y : AO} (hI : Inv C ρ st a.tmps w) (h : step C.G R (.bin op x y) st (fun s st' => some (s, st')) = some (s, st')) {t : TypeId} {x' y' : Operand} {u : TypeId}
    (ho : oper.op = .binOp op t x' y' u) (hx : fitO x x' = true) (hy : fitO y y' = true) : Good P C oper a w s st' := by
  simp only [step, Option.bind_eq_some_iff] at h
  obtain ⟨u, hu, u', hu', h⟩ := h
  have h1 := fitO_sound hI hx hu
  have h2 := fitO_sound hI hy hu'
  split at h
  · rename_i p q
    obtain ⟨r, hr, hk⟩ := bin_some h
    simp only [Option.some.injEq, Prod.mk.injEq] at hk
    obtain ⟨rfl, rfl⟩ := hk
    cases h1 with
    | imm _ _ h1 =>
    cases h2 with
    | imm _ _ h2 =>
    obtain ⟨v, hv, hrel⟩ := bin_rel (P := P) (t := t) (x := x') (y := y') h1 h2 hr
    exact Good.same hI (v := v) (w' := w) (by rw [ex_bin ho]; exact run_v hv) rfl (.imm _ _ hrel.all)
  · cases h

theorem binB_some {op : BinOp} {x y : AV} {K : AV → Option (SV × St)} {r : SV × St} (h : binB op x y K = some r) : ∃ v, binB op x y some = some v ∧ K v = some r := by
  rw [p_binB (g := K) (f := K) (f0 := some) fun _ => rfl, Option.bind_eq_some_iff] at h
  exact h
theorem binB_ok {op : BinOp} {x y : AO} (hI : Inv C ρ st a.tmps w) (h : step C.G R (.binB op x y) st (fun s st' => some (s, st')) = some (s, st')) {t : TypeId} {x' y' : Operand} {u : TypeId}
    (ho : oper.op = .binOp op t x' y' u) (hx : fitO x x' = true) (hy : fitO y y' = true) (ht : P.underlying t = some .bool) : Good P C oper a w s st' := by
  simp only [step, Option.bind_eq_some_iff] at h
  obtain ⟨u, hu, u', hu', h⟩ := h
  have h1 := fitO_sound hI hx hu
  have h2 := fitO_sound hI hy hu'
  split at h
  · rename_i p q
    obtain ⟨r, hr, hk⟩ := binB_some h
    simp only [Option.some.injEq, Prod.mk.injEq] at hk
    obtain ⟨rfl, rfl⟩ := hk
    cases h1 with
    | imm _ _ h1 =>
    cases h2 with
    | imm _ _ h2 =>
    generalize hv : a.eval x' = v1 at h1
    generalize hv' : a.eval y' = v2 at h2
    have hr' := hr
    unfold binB at hr'
    split at hr'
    · cases h1; cases h2
      obtain ⟨v, hvv, hrel⟩ := bin_bool (P := P) (w := w) (x := x') (y := y') ht hr
      exact Good.same hI (v := v) (w' := w) (by rw [ex_bin ho, hv, hv']; exact run_v hvv) rfl (.imm _ _ hrel.all)
    · cases hr'
  · cases h

end ops

theorem get_filter_ne {α : Type} (t u : Nat) (h : u ≠ t) : ∀ (M : List (Nat × α)), get (M.filter fun e => !(Nat.beq e.1 t)) u = get M u
  | [] => rfl
  | (a, v) :: r => by
    by_cases ha : a = t
    · subst ha
      have h1 : Nat.beq a a = true := Nat.beq_refl a
      have h2 : Nat.beq a u = false := by cases hh : Nat.beq a u; rfl; exact absurd (Nat.eq_of_beq_eq_true hh).symm h
      simp only [List.filter_cons, h1, Bool.not_true, Bool.false_eq_true, if_false, get, h2, cond_false]
      exact get_filter_ne a u h r
    · have h1 : Nat.beq a t = false := by cases hh : Nat.beq a t; rfl; exact absurd (Nat.eq_of_beq_eq_true hh) ha
      simp only [List.filter_cons, h1, Bool.not_false, if_true, get]
      cases Nat.beq a u
      · simpa using get_filter_ne t u h r
      · rfl
theorem get_filter_eq {α : Type} (t : Nat) : ∀ (M : List (Nat × α)), get (M.filter fun e => !(Nat.beq e.1 t)) t = none
  | [] => rfl
  | (a, v) :: r => by
    by_cases ha : a = t
    · subst ha
      have h1 : Nat.beq a a = true := Nat.beq_refl a
      simp only [List.filter_cons, h1, Bool.not_true, Bool.false_eq_true, if_false]
      exact get_filter_eq a r
    · have h1 : Nat.beq a t = false := by cases hh : Nat.beq a t; rfl; exact absurd (Nat.eq_of_beq_eq_true hh) ha
      simp only [List.filter_cons, h1, Bool.not_false, if_true, get, cond_false]
      exact get_filter_eq t r
theorem get_setM (M : List (Nat × Blk)) (t u : Nat) (b : Blk) : get (setM M t b) u = if u = t then some b else get M u := by
  by_cases h : u = t
  · subst h
    simp only [setM, get, Nat.beq_refl, cond_true, if_true]
  · have h2 : Nat.beq t u = false := by cases hh : Nat.beq t u; rfl; exact absurd (Nat.eq_of_beq_eq_true hh).symm h
    simp only [setM, get, h2, cond_false, if_neg h]
    exact get_filter_ne t u h M
theorem get_cons {α : Type} (r : List (Nat × α)) (t u : Nat) (b : α) : get ((t, b) :: r) u = if u = t then some b else get r u := by
  by_cases h : u = t
  · subst h; simp [get]
  · have h2 : Nat.beq t u = false := by cases hh : Nat.beq t u; rfl; exact absurd (Nat.eq_of_beq_eq_true hh).symm h
    simp [get, h2, h]

/-- `M'` has the same rows as `M`, as far as places go. -/
def SameShape (M M' : List (Nat × Blk)) : Prop := ∀ t blk, get M t = some blk → ∃ blk', get M' t = some blk' ∧ blk'.sz = blk.sz ∧ blk'.count = blk.count

theorem RelS.shape {w : World} {B : Nat → Prop} {ρ : Rho} {M M' : List (Nat × Blk)} (hs : SameShape M M') {s : SV} {v : Value} (h : RelS w B ρ M s v) : RelS w B ρ M' s v := by
  cases h with
  | imm v x h => exact .imm _ _ h
  | own t off len cap b o cp c blk hm hr hc hl hn =>
    obtain ⟨blk', h1, h2, h3⟩ := hs t blk hm
    rw [← h2]; exact .own t off len cap b o cp c blk' h1 hr hc hl (by rw [h3]; exact hn)
  | ownNil t cap blk hm hr => obtain ⟨blk', h1, _⟩ := hs t blk hm; exact .ownNil t cap blk' h1 hr
  | ptr t i off b o cp blk hm hr => obtain ⟨blk', h1, h2, h3⟩ := hs t blk hm; rw [← h2]; exact .ptr t i off b o cp blk' h1 hr
  | rptr cs vs b o hb hn hr hs => exact .rptr cs vs b o hb hn hr hs
  | tupO t len rest vs b o cp c blk hm hr hc hl hn hv => obtain ⟨blk', h1, h2, h3⟩ := hs t blk hm; exact .tupO t len rest vs b o cp c blk' h1 hr hc hl (by rw [h3]; exact hn) hv
  | tupNil t rest vs blk hm hr hv => obtain ⟨blk', h1, _⟩ := hs t blk hm; exact .tupNil t rest vs blk' h1 hr hv
  | mp t b o cp blk hm hr => obtain ⟨blk', h1, _⟩ := hs t blk hm; exact .mp t b o cp blk' h1 hr
  | dead v => exact .dead v

theorem frz_sz (b : Blk) : b.frz.sz = b.sz := by cases b <;> rfl
theorem frz_count (b : Blk) : b.frz.count = b.count := by cases b <;> rfl
theorem shape_frz {M : List (Nat × Blk)} {t : Nat} {b : Blk} (h : get M t = some b) : SameShape M (setM M t b.frz) := by
  intro u blk hu
  rw [get_setM]
  by_cases hut : u = t
  · subst hut; rw [h] at hu; cases hu; exact ⟨b.frz, by simp, frz_sz b, frz_count b⟩
  · exact ⟨blk, by simp [hut, hu], rfl, rfl⟩

/-- `bad` gets smaller when a row is only read from here on. -/
theorem bad_frz {Bo : Nat → Prop} {ρ : Rho} {M : List (Nat × Blk)} {t : Nat} {b : Blk} (h : get M t = some b) (x : Nat) (hx : bad Bo ρ (setM M t b.frz) x) : bad Bo ρ M x := by
  rcases hx with hx | ⟨u, blk, o, cp, h1, h2, h3⟩
  · exact .inl hx
  · rw [get_setM] at h1
    by_cases hut : u = t
    · subst hut
      simp at h1
      subst h1
      refine .inr ⟨u, b, o, cp, h, ?_, h3⟩
      cases b <;> simp_all [Blk.frz, Blk.fz]
    · simp [hut] at h1
      exact .inr ⟨u, blk, o, cp, h1, h2, h3⟩

theorem RelBlk.shape {w : World} {B : Nat → Prop} {ρ : Rho} {M M' : List (Nat × Blk)} (hs : SameShape M M') {b o cp : Nat} {blk : Blk} (h : RelBlk w B ρ M b o cp blk) : RelBlk w B ρ M' b o cp blk := by
  cases blk with
  | bytes s f => exact h
  | row sz xs f => exact h
  | box cs => obtain ⟨cells, e, fr, h1, h2, h3, h4⟩ := h; exact ⟨cells, e, fr, h1, h2, h3, fun j s hj => let ⟨v, hv, hs'⟩ := h4 j s hj; ⟨v, hv, hs'.shape hs⟩⟩
  | iter s pos => exact h
  | map es => exact h
  | miter es cur => exact h

theorem RelBlk.frz {w : World} {B : Nat → Prop} {ρ : Rho} {M : List (Nat × Blk)} {b o cp : Nat} {blk : Blk} (h : RelBlk w B ρ M b o cp blk) : RelBlk w B ρ M b o cp blk.frz := by
  cases blk <;> exact h

theorem frz_void {b : Blk} (h : b.void) : b.frz.void := by cases b <;> exact h

theorem Inv.frz {C : Cx} {ρ : Rho} {st : St} {tm : Array Value} {w : World} (h : Inv C ρ st tm w) {t : Nat} {b : Blk} (hb : get st.M t = some b) : Inv C ρ (st.withM (setM st.M t b.frz)) tm w where
  ext := h.ext
  env := fun n s hn => ⟨(h.env n s hn).1, ((h.env n s hn).2.mono (Agree.refl _ _) fun x _ hx => bad_frz hb x hx).shape (shape_frz hb)⟩
  mem := fun u blk hu => by
    simp only [St.withM] at hu ⊢
    rw [get_setM] at hu
    by_cases hut : u = t
    · subst hut
      simp at hu; subst hu
      rcases h.mem u b hb with ⟨b', o, cp, h1, h2, h3⟩ | ⟨h1, h2⟩
      · refine .inl ⟨b', o, cp, h1, ((h2.mono (Agree.refl _ _) (fun x _ hx => bad_frz hb x hx) rfl).shape (shape_frz hb)).frz, h3.1, fun hf => h3.2 ?_⟩
        cases b <;> simp_all [Blk.frz, Blk.fz]
      · exact .inr ⟨h1, frz_void h2⟩
    · simp [hut] at hu
      rcases h.mem u blk hu with ⟨b', o, cp, h1, h2, h3⟩ | h1
      · exact .inl ⟨b', o, cp, h1, (h2.mono (Agree.refl _ _) (fun x _ hx => bad_frz hb x hx) rfl).shape (shape_frz hb), h3⟩
      · exact .inr h1
  inj := fun u u' blk blk' b1 o1 c1 b2 o2 c2 h1 h2 h3 h4 h5 h6 => by
    simp only [St.withM] at h1 h2
    obtain ⟨bl1, g1, f1⟩ : ∃ bl1, get st.M u = some bl1 ∧ bl1.fz = false := by
      rw [get_setM] at h1
      by_cases hut : u = t
      · subst hut; simp at h1; subst h1; exact ⟨b, hb, by cases b <;> simp_all [Blk.frz, Blk.fz]⟩
      · simp [hut] at h1; exact ⟨blk, h1, h3⟩
    obtain ⟨bl2, g2⟩ : ∃ bl2, get st.M u' = some bl2 := by
      rw [get_setM] at h2
      by_cases hut : u' = t
      · subst hut; exact ⟨b, hb⟩
      · simp [hut] at h2; exact ⟨blk', h2⟩
    exact h.inj u u' bl1 bl2 b1 o1 c1 b2 o2 c2 g1 g2 f1 h4 h5 h6
  glob := h.glob.mono (Agree.refl _ _) fun x _ hx => bad_frz hb x hx
  bo := h.bo
  pin := fun u blk hu hg => by
    simp only [St.withM] at hg
    rw [get_setM] at hg
    by_cases hut : u = t
    · subst hut; exact h.pin u b hu hb
    · simp [hut] at hg; exact h.pin u blk hu hg

theorem cell_of {w : World} {b o : Nat} {cells : Array Value} {e : TypeId} {fr : Nat × Nat} (h : w.heap[b]? = some (.cells cells e fr)) : w.cell? ⟨b, o, none⟩ = cells[o]? := by
  simp [World.cell?, h]

theorem flats_drop (sz : Nat) : ∀ (xs : List AV) (n : Nat), (∀ x ∈ xs, x.flat.length = sz) → flats (xs.drop n) = (flats xs).drop (n * sz)
  | [], n, _ => by simp [flats]
  | x :: xs, 0, _ => by simp
  | x :: xs, n + 1, h => by
    have hx := h x (by simp)
    have ih := flats_drop sz xs n fun y hy => h y (by simp [hy])
    simp only [List.drop_succ_cons, ih]
    simp only [flats, List.flatMap_cons]
    rw [List.drop_append, List.drop_of_length_le (l := x.flat) (by rw [hx, Nat.succ_mul]; omega), hx, List.nil_append]
    congr 1
    rw [Nat.succ_mul]; omega
theorem flats_take (sz : Nat) : ∀ (xs : List AV) (n : Nat), (∀ x ∈ xs, x.flat.length = sz) → flats (xs.take n) = (flats xs).take (n * sz)
  | [], n, _ => by simp [flats]
  | x :: xs, 0, _ => by simp [flats]
  | x :: xs, n + 1, h => by
    have hx := h x (by simp)
    have ih := flats_take sz xs n fun y hy => h y (by simp [hy])
    simp only [List.take_succ_cons]
    simp only [flats, List.flatMap_cons] at ih ⊢
    rw [ih, List.take_append, List.take_of_length_le (l := x.flat) (by rw [hx, Nat.succ_mul]; omega), hx]
    congr 2
    rw [Nat.succ_mul]; omega
theorem flats_length (sz : Nat) : ∀ (xs : List AV), (∀ x ∈ xs, x.flat.length = sz) → (flats xs).length = xs.length * sz
  | [], _ => by simp [flats]
  | x :: xs, h => by
    have ih := flats_length sz xs fun y hy => h y (by simp [hy])
    simp only [flats, List.flatMap_cons, List.length_append] at ih ⊢
    rw [ih, h x (by simp), List.length_cons, Nat.succ_mul]; omega
theorem flats_get (sz : Nat) (xs : List AV) (i : Nat) (x : AV) (h : ∀ x ∈ xs, x.flat.length = sz) (hi : xs[i]? = some x) : ((flats xs).drop (i * sz)).take sz = x.flat := by
  rw [← flats_drop sz xs i h]
  have hlt : i < xs.length := (List.getElem?_eq_some_iff.1 hi).1
  have : xs.drop i = x :: xs.drop (i + 1) := by
    rw [List.drop_eq_getElem_cons hlt]; congr 1; exact (List.getElem?_eq_some_iff.1 hi).2
  rw [this]
  have hx : x.flat.length = sz := h x ((List.getElem?_eq_some_iff.1 hi).2 ▸ List.getElem_mem _)
  simp only [flats, List.flatMap_cons]
  rw [List.take_append_of_le_length (by omega), List.take_of_length_le (by omega)]

/-- A value handed away. -/
theorem give_ok {C : Cx} {ρ : Rho} {st : St} {tm : Array Value} {w : World} (h : Inv C ρ st tm w) {s : SV} {x : Value} (hs : RelS w (bad C.Bo ρ st.M) ρ st.M s x) {p : AV × List (Nat × Blk)} (hg : give st.M s = some p) :
    Inv C ρ (st.withM p.2) tm w ∧ Rel w (bad C.Bo ρ p.2) p.1 x ∧ SameShape st.M p.2 ∧ ∀ y, bad C.Bo ρ p.2 y → bad C.Bo ρ st.M y := by
  cases hs with
  | imm v x hr =>
    simp only [give, Option.some.injEq] at hg; subst hg
    exact ⟨h, hr, fun t blk ht => ⟨blk, ht, rfl, rfl⟩, fun _ h => h⟩
  | own t off len cap b o cp c blk hm hr hc hl hn =>
    simp only [give, hm, Option.bind_eq_some_iff, Option.some.injEq] at hg
    obtain ⟨bl, hbl, v, hv, rfl⟩ := hg
    obtain rfl : blk = bl := by simpa using hbl
    refine ⟨h.frz hm, ?_, shape_frz hm, fun y hy => bad_frz hm y hy⟩
    obtain ⟨b', o', cp', h1, h2, h3, h4⟩ := (h.mem t blk hm).resolve_right fun hh => by rw [hr] at hh; cases hh.1
    rw [hr] at h1
    simp only [Option.some.injEq, Prod.mk.injEq] at h1
    obtain ⟨rfl, rfl, rfl⟩ := h1
    have hnb : ¬ bad C.Bo ρ (setM st.M t blk.frz) b := by
      rintro (hx | ⟨u, bu, ou, cu, g1, g2, g3⟩)
      · exact h3 hx
      · rw [get_setM] at g1
        by_cases hut : u = t
        · subst hut; simp at g1; subst g1; cases blk <;> simp_all [Blk.frz, Blk.fz, Blk.cut]
        · simp [hut] at g1
          exact h.inj u t bu blk b ou cu b o cp g1 hm g2 hut g3 hr rfl
    cases blk with
    | bytes s f =>
      simp only [Blk.cut, Option.some.injEq] at hv; subst hv
      obtain ⟨cells, e, fr, k1, k2, k3, k4, k5, _⟩ := h2
      simp only [Blk.count] at hn
      have hlen : ((s.drop off).take len).length = len := by simp; omega
      have := Rel.bytes (w := w) (B := bad C.Bo ρ (setM st.M t (Blk.bytes s f).frz)) ((s.drop off).take len) b (o + off * 1) c (lt_of_get k1) hnb (by omega) (fun j y hj => by
        rw [cell_of k1, Nat.mul_one, Nat.add_assoc]
        refine k5 (off + j) y ?_
        rw [List.getElem?_take] at hj
        split at hj
        · simpa using hj
        · cases hj)
      rw [hlen] at this
      exact this
    | row sz xs f =>
      simp only [Blk.cut, Option.some.injEq] at hv; subst hv
      obtain ⟨cells, e, fr, vs, k1, k2, k3, k4, k5, k51, k6, k7⟩ := h2
      simp only [Blk.count] at hn
      have hlen : ((xs.drop off).take len).length = len := by simp; omega
      have hz' : ∀ x ∈ (xs.drop off).take len, x.flat.length = sz := fun x hx => k5 x (List.mem_of_mem_drop (List.mem_of_mem_take hx))
      have hz'' : ∀ x ∈ xs.drop off, x.flat.length = sz := fun x hx => k5 x (List.mem_of_mem_drop hx)
      have hrel : RelL w (bad C.Bo ρ (setM st.M t (Blk.row sz xs f).frz)) (flats ((xs.drop off).take len)) ((vs.drop (off * sz)).take (len * sz)) := by
        rw [flats_take sz _ _ hz'', flats_drop sz _ _ k5]
        exact ((k6.mono (Agree.refl _ _) fun x _ hx => bad_frz hm x hx).drop _).take _
      have := Rel.row (w := w) (B := bad C.Bo ρ (setM st.M t (Blk.row sz xs f).frz)) sz ((xs.drop off).take len) ((vs.drop (off * sz)).take (len * sz)) b (o + off * sz) c (lt_of_get k1) hnb (by omega) hz' (fun v hv => k51 v (List.mem_of_mem_drop (List.mem_of_mem_take hv))) hrel (fun j y hj => by
        rw [cell_of k1, Nat.add_assoc]
        refine k7 (off * sz + j) y ?_
        rw [List.getElem?_take] at hj
        split at hj
        · simpa using hj
        · cases hj)
      rw [hlen] at this
      exact this
    | box cs => simp [Blk.cut] at hv
    | iter s pos => simp [Blk.cut] at hv
    | map es => simp [Blk.cut] at hv
    | miter es cur => simp [Blk.cut] at hv
  | ownNil t cap blk hm hr =>
    simp only [give, hm, Option.bind_eq_some_iff, Option.some.injEq] at hg
    obtain ⟨bl, hbl, v, hv, rfl⟩ := hg
    obtain rfl : blk = bl := by simpa using hbl
    refine ⟨h.frz hm, ?_, shape_frz hm, fun y hy => bad_frz hm y hy⟩
    cases blk with
    | bytes s f => simp only [Blk.cut, Option.some.injEq] at hv; subst hv; simpa using Rel.bnil none 0
    | row sz xs f => simp only [Blk.cut, Option.some.injEq] at hv; subst hv; simpa using Rel.rnil _ none 0
    | box cs => simp [Blk.cut] at hv
    | iter s pos => simp [Blk.cut] at hv
    | map es => simp [Blk.cut] at hv
    | miter es cur => simp [Blk.cut] at hv
  | ptr t i off b o cp blk hm hr => simp [give] at hg
  | rptr cs vs b o hb hB hr hs => simp [give] at hg
  | tupO => simp [give] at hg
  | tupNil => simp [give] at hg
  | mp => simp [give] at hg
  | dead v => simp [give] at hg

/-- The cells of a slice of bytes, read. -/
theorem bytes_loads {P : Program} {w : World} {B : Nat → Prop} {s : List UInt8} {v : Value} (h : Rel w B (.bytes s) v) :
    (∃ a cap, v = .slice a 0 cap ∧ s = []) ∨ ∃ b o cap, v = .slice (some ⟨b, o, none⟩) s.length cap ∧ b < w.heap.size ∧ ¬ B b ∧ s.length ≤ cap ∧
      ∀ j y, (s.map fun x => Value.int .u8 x.toNat)[j]? = some y → w.cell? ((⟨b, o, none⟩ : Addr).add j) = some y := by
  cases h with
  | bnil a cap => exact .inl ⟨a, cap, rfl, rfl⟩
  | bytes s b o cap hb hB hc hs =>
    refine .inr ⟨b, o, cap, rfl, hb, hB, hc, fun j y hj => ?_⟩
    rw [Addr.add_mk]
    simp only [List.getElem?_map, Option.map_eq_some_iff] at hj
    obtain ⟨x, hx, rfl⟩ := hj
    exact hs j x hx

theorem foldl_push (l : List UInt8) : ∀ r : ByteArray, ((l.map fun x => (x.toNat : Int)).foldl (fun r n => r.push (UInt8.ofNat n.toNat)) r).data.toList = r.data.toList ++ l := by
  induction l with
  | nil => intro r; simp
  | cons x l ih =>
    intro r
    simp only [List.map_cons, List.foldl_cons]
    rw [ih]
    simp [ByteArray.push, UInt8.ofNat_toNat]

theorem run_bytesStr {P : Program} {w : World} {B : Nat → Prop} {s : List UInt8} {v : Value} (h : Rel w B (.bytes s) v) :
    ∃ r : ByteArray, (Conv.bytesToString v).run P w = .ok (.string r) w ∧ r.data.toList = s := by
  rcases bytes_loads (P := P) h with ⟨x, cap, rfl, rfl⟩ | ⟨b, o, cap, rfl, _, _, _, hs⟩
  · cases x with
    | none => exact ⟨ByteArray.empty, rfl, rfl⟩
    | some x =>
      have hl := run_loadCells_list (P := P) w x [] (by simp)
      exact ⟨_, run_bytesToString w x 0 cap [] hl, rfl⟩
  · have hl := run_loadCells_list (P := P) w ⟨b, o, none⟩ (s.map fun x => Value.int .u8 x.toNat) hs
    rw [List.length_map] at hl
    have e : (s.map fun x => Value.int .u8 x.toNat) = (s.map fun x => (x.toNat : Int)).map (Value.int .u8) := by simp
    rw [e] at hl
    refine ⟨_, run_bytesToString w ⟨b, o, none⟩ s.length cap _ hl, ?_⟩
    rw [foldl_push]; rfl

def isInt (P : Program) (t : TypeId) : Bool := match P.underlying t with | some (.int _) => true | _ => false
def isIntK (P : Program) (t : TypeId) (k : IntKind) : Bool := match P.underlying t with | some (.int k') => decide (k' = k) | _ => false
def isStr (P : Program) (t : TypeId) : Bool := match P.underlying t with | some .string => true | _ => false
def isU8s (P : Program) (t : TypeId) : Bool := match P.underlying t with | some (.slice e) => isIntK P e .u8 | _ => false
/-- A type of `n` cells (`none`: one cell, and no struct or array). -/
def fitsSz (P : Program) (t : TypeId) : Option Nat → Bool
  | none => match P.underlying t with | some (.struct _) | some (.array _ _) | none => false | _ => true
  | some n => match P.underlying t, P.info? t with | some (.struct _), some i | some (.array _ _), some i => Nat.beq i.size n | _, _ => false
def sliceSz (P : Program) (t : TypeId) (n : Nat) : Bool := match P.underlying t with | some (.slice e) => (match P.info? e with | some i => Nat.beq i.size n | none => false) | _ => false

theorem isInt_ok {P : Program} {t : TypeId} (h : isInt P t = true) : ∃ k, P.underlying t = some (.int k) := by
  unfold isInt at h; split at h <;> first | exact ⟨_, by assumption⟩ | cases h
theorem isIntK_ok {P : Program} {t : TypeId} {k : IntKind} (h : isIntK P t k = true) : P.underlying t = some (.int k) := by
  unfold isIntK at h
  split at h
  · rename_i k' hk; simp at h; subst h; exact hk
  · cases h
theorem isStr_ok {P : Program} {t : TypeId} (h : isStr P t = true) : P.underlying t = some .string := by
  unfold isStr at h; split at h <;> first | assumption | cases h
theorem isU8s_ok {P : Program} {t : TypeId} (h : isU8s P t = true) : ∃ e, P.underlying t = some (.slice e) ∧ P.underlying e = some (.int .u8) := by
  unfold isU8s at h
  split at h
  · exact ⟨_, by assumption, isIntK_ok h⟩
  · cases h
theorem sliceSz_ok {P : Program} {t : TypeId} {n : Nat} (h : sliceSz P t n = true) : ∃ e i, P.underlying t = some (.slice e) ∧ P.info? e = some i ∧ i.size = n := by
  unfold sliceSz at h
  split at h
  · split at h
    · exact ⟨_, _, by assumption, by assumption, Nat.eq_of_beq_eq_true h⟩
    · cases h
  · cases h

section ops
variable {P : Program} {C : Cx} {R : Nat → List AV → Option Res} {ρ : Rho} {st : St} {a : Act} {w : World} {oper : Oper} {s : SV} {st' : St}

theorem un_ok {op : UnOp} {x : AO} (hI : Inv C ρ st a.tmps w) (h : step C.G R (.un op x) st (fun s st' => some (s, st')) = some (s, st')) {t : TypeId} {x' : Operand}
    (ho : oper.op = .unOp op t x') (hx : fitO x x' = true) : Good P C oper a w s st' := by
  simp only [step, Option.bind_eq_some_iff] at h
  obtain ⟨u, hu, h⟩ := h
  have h1 := fitO_sound hI hx hu
  split at h
  · rename_i p
    cases h1 with
    | imm _ _ h1 =>
    generalize hv : a.eval x' = v1 at h1
    unfold un at h
    split at h
    · cases h1
      simp only [Option.some.injEq, Prod.mk.injEq] at h
      obtain ⟨rfl, rfl⟩ := h
      exact Good.same hI (w' := w) (by rw [ex_un ho, hv]; exact run_v rfl) rfl (.imm _ _ (.int _ _))
    · cases h1
      simp only [Option.some.injEq, Prod.mk.injEq] at h
      obtain ⟨rfl, rfl⟩ := h
      exact Good.same hI (w' := w) (by rw [ex_un ho, hv]; exact run_v rfl) rfl (.imm _ _ (.bool _))
    · cases h
  · cases h

theorem cvInt_ok {k : IntKind} {x : AO} (hI : Inv C ρ st a.tmps w) (h : step C.G R (.cvInt k x) st (fun s st' => some (s, st')) = some (s, st')) {t d : TypeId} {x' : Operand}
    (ho : oper.op = .convert t d x') (hx : fitO x x' = true) (ht : isInt P t = true) (hd : isIntK P d k = true) : Good P C oper a w s st' := by
  simp only [step, Option.bind_eq_some_iff] at h
  obtain ⟨u, hu, h⟩ := h
  have h1 := fitO_sound hI hx hu
  obtain ⟨k1, hk1⟩ := isInt_ok ht
  have hk2 := isIntK_ok hd
  split at h
  · cases h1 with
    | imm _ _ h1 =>
    generalize hv : a.eval x' = v1 at h1
    cases h1
    simp only [Option.some.injEq, Prod.mk.injEq] at h
    obtain ⟨rfl, rfl⟩ := h
    exact Good.same hI (w' := w) (by rw [ex_convert ho, hv]; refine run_v ?_; unfold convert; rw [run_bind_ok (run_underlying hk1), run_bind_ok (run_underlying hk2)]; rfl) rfl (.imm _ _ (.int _ _))
  · cases h

theorem cvId_ok {x : AO} (hI : Inv C ρ st a.tmps w) (h : step C.G R (.cvId x) st (fun s st' => some (s, st')) = some (s, st')) {t d : TypeId} {x' : Operand}
    (ho : oper.op = .convert t d x') (hx : fitO x x' = true) (ht : isStr P t = true) (hd : isStr P d = true) : Good P C oper a w s st' := by
  simp only [step, Option.bind_eq_some_iff] at h
  obtain ⟨u, hu, h⟩ := h
  have h1 := fitO_sound hI hx hu
  have hk1 := isStr_ok ht
  have hk2 := isStr_ok hd
  split at h
  · cases h1 with
    | imm _ _ h1 =>
    generalize hv : a.eval x' = v1 at h1
    cases h1
    simp only [Option.some.injEq, Prod.mk.injEq] at h
    obtain ⟨rfl, rfl⟩ := h
    exact Good.same hI (w' := w) (by rw [ex_convert ho, hv]; refine run_v ?_; unfold convert; rw [run_bind_ok (run_underlying hk1), run_bind_ok (run_underlying hk2)]; rfl) rfl (.imm _ _ (.str _))
  · cases h

theorem cvRune_ok {x : AO} (hI : Inv C ρ st a.tmps w) (h : step C.G R (.cvRune x) st (fun s st' => some (s, st')) = some (s, st')) {t d : TypeId} {x' : Operand}
    (ho : oper.op = .convert t d x') (hx : fitO x x' = true) (ht : isInt P t = true) (hd : isStr P d = true) : Good P C oper a w s st' := by
  simp only [step, Option.bind_eq_some_iff] at h
  obtain ⟨u, hu, h⟩ := h
  have h1 := fitO_sound hI hx hu
  obtain ⟨k1, hk1⟩ := isInt_ok ht
  have hk2 := isStr_ok hd
  split at h
  · cases h1 with
    | imm _ _ h1 =>
    generalize hv : a.eval x' = v1 at h1
    cases h1
    simp only [Option.some.injEq, Prod.mk.injEq] at h
    obtain ⟨rfl, rfl⟩ := h
    exact Good.same hI (w' := w) (by rw [ex_convert ho, hv]; refine run_v ?_; unfold convert; rw [run_bind_ok (run_underlying hk1), run_bind_ok (run_underlying hk2)]; rfl) rfl (.imm _ _ (.str _))
  · cases h

theorem cvStr_ok {x : AO} (hI : Inv C ρ st a.tmps w) (h : step C.G R (.cvStr x) st (fun s st' => some (s, st')) = some (s, st')) {t d : TypeId} {x' : Operand}
    (ho : oper.op = .convert t d x') (hx : fitO x x' = true) (ht : isU8s P t = true) (hd : isStr P d = true) : Good P C oper a w s st' := by
  simp only [step, Option.bind_eq_some_iff] at h
  obtain ⟨u, hu, p, hp, h⟩ := h
  have h1 := fitO_sound hI hx hu
  obtain ⟨e, hk1, hk3⟩ := isU8s_ok ht
  have hk2 := isStr_ok hd
  obtain ⟨_, h2, _⟩ := give_ok hI h1 hp
  split at h
  · rename_i b hb
    rw [hb] at h2
    simp only [Option.some.injEq, Prod.mk.injEq] at h
    obtain ⟨rfl, rfl⟩ := h
    obtain ⟨r, hr, rfl⟩ := run_bytesStr (P := P) h2
    refine Good.same hI (v := .string r) (w' := w) ?_ rfl (.imm _ _ (.str _))
    rw [ex_convert ho]; refine run_v ?_; unfold convert; rw [run_bind_ok (run_underlying hk1), run_bind_ok (run_underlying hk2)]
    generalize a.eval x' = v1 at h2 hr
    rcases bytes_loads (P := P) h2 with ⟨_, _, rfl, _⟩ | ⟨b, o, cap, rfl, _⟩ <;>
    · show (do match ← underlying e with | .int .u8 => Conv.bytesToString _ | .int .i32 => Conv.runesToString _ | _ => stuck "Convert: a slice of what to string?" : Sem Value).run P w = _
      rw [run_bind_ok (run_underlying hk3)]
      exact hr
  · cases h

theorem extract_ok {x : AO} {j : Nat} (hI : Inv C ρ st a.tmps w) (h : step C.G R (.extract x j) st (fun s st' => some (s, st')) = some (s, st')) {x' : Operand}
    (ho : oper.op = .extract x' j) (hx : fitO x x' = true) : Good P C oper a w s st' := by
  simp only [step, Option.bind_eq_some_iff] at h
  obtain ⟨u, hu, h⟩ := h
  have h1 := fitO_sound hI hx hu
  split at h
  · cases h1 with
    | imm _ _ h1 =>
    generalize hv : a.eval x' = v1 at h1
    cases h1 with
    | tup cs vs h1 =>
    simp only [Option.bind_eq_some_iff, Option.some.injEq, Prod.mk.injEq] at h
    obtain ⟨y, hy, rfl, rfl⟩ := h
    obtain ⟨v, hv', hr⟩ := h1.get hy
    refine Good.same hI (v := v) (w' := w) ?_ rfl (.imm _ _ hr)
    rw [ex_extract ho, hv]; refine run_v ?_
    show (match vs.toArray[j]? with | some v => pure v | none => stuck "Extract: no such component" : Sem Value).run P w = _
    simp [hv']
  · rename_i t len rest
    generalize hv : a.eval x' = v1 at h1
    have run : ∀ (x0 v : Value) (vs : List Value), (x0 :: vs)[j]? = some v → execOp a.eval oper = (do pure (.value (← Instr.extract (a.eval x') j))) → v1 = .tuple (x0 :: vs).toArray → (execOp a.eval oper).run P w = .ok (.value v) w := by
      intro x0 v vs hj he hv1
      rw [he, hv, hv1]; refine run_v ?_
      show (match (x0 :: vs).toArray[j]? with | some v => pure v | none => stuck "Extract: no such component" : Sem Value).run P w = _
      simp [hj]
    cases hj0 : Nat.beq j 0
    · rw [hj0] at h
      simp only [cond_false, Option.bind_eq_some_iff, Option.some.injEq, Prod.mk.injEq] at h
      obtain ⟨y, hy, rfl, rfl⟩ := h
      obtain ⟨k, rfl⟩ : ∃ k, j = k + 1 := by cases j with | zero => simp at hj0 | succ k => exact ⟨k, rfl⟩
      rw [Nat.add_sub_cancel] at hy
      cases h1 with
      | tupO _ _ _ vs b o cp c blk hm hr hc hl hn hv' =>
        obtain ⟨v, hvv, hrr⟩ := hv'.get hy
        exact Good.same hI (v := v) (w' := w) (run _ v vs (by simpa using hvv) (ex_extract ho) rfl) rfl (.imm _ _ hrr)
      | tupNil _ _ vs blk hm hr hv' =>
        obtain ⟨v, hvv, hrr⟩ := hv'.get hy
        exact Good.same hI (v := v) (w' := w) (run _ v vs (by simpa using hvv) (ex_extract ho) rfl) rfl (.imm _ _ hrr)
    · rw [hj0] at h
      obtain rfl : j = 0 := Nat.eq_of_beq_eq_true hj0
      simp only [cond_true, Option.some.injEq, Prod.mk.injEq] at h
      obtain ⟨rfl, rfl⟩ := h
      cases h1 with
      | tupO _ _ _ vs b o cp c blk hm hr hc hl hn hv' =>
        refine Good.same hI (v := .slice (some ⟨b, o, none⟩) len c) (w' := w) (run _ _ vs rfl (ex_extract ho) rfl) rfl ?_
        have := RelS.own (w := w) (B := bad C.Bo ρ st.M) (ρ := ρ) (M := st.M) t 0 len none b o cp c blk hm hr (by omega) hl (by omega)
        simpa using this
      | tupNil _ _ vs blk hm hr hv' =>
        exact Good.same hI (v := .slice none 0 0) (w' := w) (run _ _ vs rfl (ex_extract ho) rfl) rfl (.ownNil t none blk hm hr)
  · cases h

theorem nilchk_ok {x : AO} (hI : Inv C ρ st a.tmps w) (h : step C.G R (.nilchk x) st (fun s st' => some (s, st')) = some (s, st')) {x' : Operand}
    (ho : oper.op = .nilCheck x') (hx : fitO x x' = true) : Good P C oper a w s st' := by
  simp only [step, Option.bind_eq_some_iff] at h
  obtain ⟨u, hu, h⟩ := h
  have h1 := fitO_sound hI hx hu
  generalize hv : a.eval x' = v1 at h1
  split at h
  · simp only [Option.some.injEq, Prod.mk.injEq] at h
    obtain ⟨rfl, rfl⟩ := h
    cases h1 with
    | ptr t i off b o cp blk hm hr => exact Good.same hI (w' := w) (by rw [ex_nilCheck ho hv, hv]; rfl) rfl (.ptr _ _ _ b o cp blk hm hr)
  · simp only [Option.some.injEq, Prod.mk.injEq] at h
    obtain ⟨rfl, rfl⟩ := h
    cases h1 with
    | rptr cs vs b o hb hB hr hs => exact Good.same hI (w' := w) (by rw [ex_nilCheck ho hv, hv]; rfl) rfl (.rptr _ vs b o hb hB hr hs)
  · cases h

theorem Rel.slice_len {B : Nat → Prop} {sz : Nat} {xs : List AV} {v : Value} (h : Rel w B (.row sz xs) v) : ∃ p c, v = .slice p xs.length c := by
  cases h with
  | rnil => exact ⟨_, _, rfl⟩
  | row => exact ⟨_, _, rfl⟩
theorem Rel.slice_lenB {B : Nat → Prop} {xs : List UInt8} {v : Value} (h : Rel w B (.bytes xs) v) : ∃ p c, v = .slice p xs.length c := by
  cases h with
  | bnil => exact ⟨_, _, rfl⟩
  | bytes => exact ⟨_, _, rfl⟩
theorem RelS.own_len {B : Nat → Prop} {M : List (Nat × Blk)} {t off len : Nat} {cap : Option Nat} {v : Value} (h : RelS w B ρ M (.own t off len cap) v) : ∃ p c, v = .slice p len c := by
  cases h with
  | own => exact ⟨_, _, rfl⟩
  | ownNil => exact ⟨_, _, rfl⟩

theorem lenS_ok {x : AO} (hI : Inv C ρ st a.tmps w) (h : step C.G R (.len x true) st (fun s st' => some (s, st')) = some (s, st')) {x' : Operand} {t : TypeId}
    (ho : oper.op = .call ⟨.builtin .len, #[x'], #[t]⟩) (hx : fitO x x' = true) (ht : isStr P t = true) : Good P C oper a w s st' := by
  simp only [step, Option.bind_eq_some_iff, cond_true] at h
  obtain ⟨u, hu, h⟩ := h
  have h1 := fitO_sound hI hx hu
  generalize hv : a.eval x' = v1 at h1
  split at h
  · cases h1 with
    | imm _ _ h1 =>
    cases h1 with
    | str b =>
    simp only [Option.some.injEq, Prod.mk.injEq] at h
    obtain ⟨rfl, rfl⟩ := h
    refine Good.same hI (v := goInt b.size) (w' := w) ?_ rfl (.imm _ _ (by rw [Array.length_toList]; exact .int _ _))
    obtain ⟨cs, hcs⟩ := ex_builtin1 (ρ := a.eval) ho
    rw [hcs]
    show (do pure (.value (← Builtin.len_ #[t] oper.type #[a.eval x'])) : Sem Next).run P w = _
    rw [hv]
    refine run_v ?_
    show ((underlying t) >>= _ : Sem Value).run P w = _
    rw [run_bind_ok (run_underlying (isStr_ok ht))]; rfl
  · cases h

theorem run_len_slice {P : Program} {w : World} {t : TypeId} {e : TypeId} (ht : P.underlying t = some (.slice e)) (u : TypeId) (p : Option Addr) (n c : Nat) :
    (Builtin.len_ #[t] u #[.slice p n c]).run P w = .ok (.int .i64 n) w := by
  show ((underlying t) >>= _ : Sem Value).run P w = _
  rw [run_bind_ok (run_underlying ht)]; rfl

theorem len_ok {x : AO} (hI : Inv C ρ st a.tmps w) (h : step C.G R (.len x false) st (fun s st' => some (s, st')) = some (s, st')) {x' : Operand} {t e : TypeId}
    (ho : oper.op = .call ⟨.builtin .len, #[x'], #[t]⟩) (hx : fitO x x' = true) (ht : P.underlying t = some (.slice e)) : Good P C oper a w s st' := by
  simp only [step, Option.bind_eq_some_iff, cond_false] at h
  obtain ⟨u, hu, h⟩ := h
  have h1 := fitO_sound hI hx hu
  generalize hv : a.eval x' = v1 at h1
  have key : ∀ p n c, v1 = .slice p n c → (execOp a.eval oper).run P w = .ok (.value (.int .i64 n)) w := by
    intro p n c e1
    obtain ⟨cs, hcs⟩ := ex_builtin1 (ρ := a.eval) ho
    rw [hcs]
    show (do pure (.value (← Builtin.len_ #[t] oper.type #[a.eval x'])) : Sem Next).run P w = _
    rw [hv, e1]
    exact run_v (run_len_slice ht _ _ _ _)
  split at h
  · cases h1 with
    | imm _ _ h1 =>
    cases h1 with
    | lent s b o hb hB hs =>
    simp only [Option.some.injEq, Prod.mk.injEq] at h
    obtain ⟨rfl, rfl⟩ := h
    exact Good.same hI (w' := w) (key _ _ _ rfl) rfl (.imm _ _ (.int _ _))
  · cases h1 with
    | imm _ _ h1 =>
    obtain ⟨p, c, e1⟩ := h1.slice_lenB
    simp only [Option.some.injEq, Prod.mk.injEq] at h
    obtain ⟨rfl, rfl⟩ := h
    exact Good.same hI (w' := w) (key _ _ _ e1) rfl (.imm _ _ (.int _ _))
  · cases h1 with
    | imm _ _ h1 =>
    obtain ⟨p, c, e1⟩ := h1.slice_len
    simp only [Option.some.injEq, Prod.mk.injEq] at h
    obtain ⟨rfl, rfl⟩ := h
    exact Good.same hI (w' := w) (key _ _ _ e1) rfl (.imm _ _ (.int _ _))
  · obtain ⟨p, c, e1⟩ := h1.own_len
    simp only [Option.some.injEq, Prod.mk.injEq] at h
    obtain ⟨rfl, rfl⟩ := h
    exact Good.same hI (w' := w) (key _ _ _ e1) rfl (.imm _ _ (.int _ _))
  · cases h

end ops

def isAggD : TypeDesc → Bool
  | .struct _ => true
  | .array _ _ => true
  | _ => false

theorem run_isAgg {P : Program} {w : World} {t : TypeId} {d : TypeDesc} (h : P.underlying t = some d) :
    (isAgg t).run P w = .ok (isAggD d) w := by
  unfold isAgg
  rw [run_bind_ok (run_underlying h)]
  cases d <;> rfl

theorem run_loadVar1 {P : Program} {w : World} {t : TypeId} (ht : fitsSz P t none = true) {a : Addr} {v : Value} (h : w.cell? a = some v) : (loadVar t a).run P w = .ok v w := by
  unfold fitsSz at ht
  cases hu : P.underlying t with
  | none => rw [hu] at ht; cases ht
  | some d =>
    rw [hu] at ht
    unfold loadVar
    rw [run_bind_ok (run_isAgg hu)]
    have : isAggD d = false := by cases d <;> first | rfl | cases ht
    rw [this]
    show (load a).run P w = _
    simp [load, Sem.run, h]

theorem run_loadVarN {P : Program} {w : World} {t : TypeId} {n : Nat} (ht : fitsSz P t (some n) = true) {a : Addr} {vs : List Value} (hl : vs.length = n)
    (h : ∀ j v, vs[j]? = some v → w.cell? (a.add j) = some v) : (loadVar t a).run P w = .ok (.agg vs.toArray) w := by
  unfold fitsSz at ht
  cases hu : P.underlying t with
  | none => rw [hu] at ht; cases ht
  | some d =>
    cases hi : P.info? t with
    | none => rw [hu, hi] at ht; cases d <;> cases ht
    | some i =>
      rw [hu, hi] at ht
      have hd : isAggD d = true ∧ i.size = n := by
        cases d <;> first | exact ⟨rfl, Nat.eq_of_beq_eq_true ht⟩ | cases ht
      unfold loadVar
      rw [run_bind_ok (run_isAgg hu), hd.1]
      show (do pure (.agg (← loadCells a (← sizeOf t))) : Sem Value).run P w = _
      rw [run_bind_ok (run_sizeOf hi), hd.2, ← hl, run_bind_ok (run_loadCells_list w a vs h)]; rfl

theorem rel_list {w : World} {B : Nat → Prop} : ∀ (vs : List AV) (f : Nat → Option Value), (∀ j v, vs[j]? = some v → ∃ u, f j = some u ∧ Rel w B v u) →
    ∃ us, RelL w B vs us ∧ ∀ j u, us[j]? = some u → f j = some u
  | [], f, _ => ⟨[], .nil, fun j u h => by simp at h⟩
  | v :: vs, f, h => by
    obtain ⟨u, h1, h2⟩ := h 0 v (by simp)
    obtain ⟨us, h3, h4⟩ := rel_list vs (fun j => f (j + 1)) fun j x hj => h (j + 1) x (by simpa using hj)
    refine ⟨u :: us, .cons _ _ _ _ h2 h3, fun j x hj => ?_⟩
    cases j with
    | zero => simp at hj; subst hj; exact h1
    | succ j => exact h4 j x (by simpa using hj)

theorem svImms_get : ∀ {l : List SV} {vs : List AV}, svImms l = some vs → vs.length = l.length ∧ ∀ (j : Nat) (v : AV), vs[j]? = some v → l[j]? = some (SV.imm v)
  | [], vs, h => by simp only [svImms, Option.some.injEq] at h; subst h; simp
  | s :: l, vs, h => by
    cases s <;> simp only [svImms, reduceCtorEq, Option.map_eq_some_iff] at h
    obtain ⟨r, hr, rfl⟩ := h
    obtain ⟨h1, h2⟩ := svImms_get hr
    refine ⟨by simp [h1], fun j v hj => ?_⟩
    cases j with
    | zero => simp at hj; subst hj; simp
    | succ j => simpa using h2 j v (by simpa using hj)

theorem getElem?_drop_take {α : Type} {l : List α} {i n j : Nat} {x : α} (h : ((l.drop i).take n)[j]? = some x) : l[i + j]? = some x := by
  rw [List.getElem?_take] at h
  split at h
  · simpa using h
  · cases h

section ops
variable {P : Program} {C : Cx} {R : Nat → List AV → Option Res} {ρ : Rho} {st : St} {a : Act} {w : World} {oper : Oper} {s : SV} {st' : St}

theorem load_ok {x : AO} {sz : Option Nat} {ty : Ty} (hI : Inv C ρ st a.tmps w) (h : step C.G R (.load x sz ty) st (fun s st' => some (s, st')) = some (s, st')) {t : TypeId} {x' : Operand}
    (ho : oper.op = .load t x') (hx : fitO x x' = true) (ht : fitsSz P t sz = true) : Good P C oper a w s st' := by
  simp only [step, Option.bind_eq_some_iff] at h
  obtain ⟨u, hu, h⟩ := h
  have h1 := fitO_sound hI hx hu
  generalize hv : a.eval x' = v1 at h1
  have exl : ∀ p v, v1 = .pointer (some p) → (loadVar t p).run P w = .ok v w → (execOp a.eval oper).run P w = .ok (.value v) w := by
    intro p v e1 e2
    rw [ex_load ho, hv, e1]; exact run_v e2
  have fin : ∀ (p : Addr) (y : AV) (v : Value), v1 = .pointer (some p) → (loadVar t p).run P w = .ok v w → asTy ty y (fun v => some (SV.imm v, st)) = some (s, st') → Rel w (bad C.Bo ρ st.M) y v → Good P C oper a w s st' := by
    intro p y v e1 e2 e3 e4
    have e5 := asTy_some _ _ _ _ e3
    simp only [Option.some.injEq, Prod.mk.injEq] at e5
    obtain ⟨rfl, rfl⟩ := e5
    exact Good.same hI (w' := w) (exl p v e1 e2) rfl (.imm _ _ e4)
  split at h
  · cases h1 with
    | rptr cs vs b o hb hB hr hs =>
    split at h
    · simp only [Option.bind_eq_some_iff] at h
      obtain ⟨y, hy, h⟩ := h
      obtain ⟨v, h2, h3⟩ := hr.get hy
      exact fin _ y v rfl (run_loadVar1 ht (by simpa using hs 0 v h2)) h h3
    · rename_i n
      obtain ⟨hn, h⟩ := need_some h
      have hn' := Nat.le_of_ble_eq_true hn
      have hl := hr.length
      exact fin _ _ _ rfl (run_loadVarN (vs := vs.take n) ht (by simp; omega) (fun j v hj => by rw [Addr.add_mk]; exact hs j v (by rw [List.getElem?_take] at hj; split at hj <;> simp_all))) h (.agg _ _ (hr.take n))
  · rename_i t' i off
    cases h1 with
    | ptr t' i off b o cp blk hm hr =>
    simp only [hm, Option.bind_eq_some_iff, Option.some.injEq] at h
    obtain ⟨bl, hbl, h⟩ := h
    obtain rfl : blk = bl := by simpa using hbl
    obtain ⟨b', o', cp', e1, hblk, _⟩ := (hI.mem t' blk hm).resolve_right fun hh => by rw [hr] at hh; cases hh.1
    rw [hr] at e1
    simp only [Option.some.injEq, Prod.mk.injEq] at e1
    obtain ⟨rfl, rfl, rfl⟩ := e1
    cases blk with
    | bytes l f =>
      obtain ⟨cells, e, fr, k1, k2, k3, k4, k5, _⟩ := hblk
      cases sz with
      | some n => simp at h
      | none =>
        cases hoff : Nat.beq off 0
        · simp [hoff] at h
        · have := Nat.eq_of_beq_eq_true hoff; subst this
          simp only [hoff, cond_true, Option.bind_eq_some_iff, Option.some.injEq, Prod.mk.injEq] at h
          obtain ⟨y, hy, rfl, rfl⟩ := h
          refine Good.same hI (w' := w) (exl _ _ rfl (run_loadVar1 ht (v := .int .u8 y.toNat) ?_)) rfl (.imm _ _ (.int _ _))
          rw [cell_of k1]
          simpa [Blk.sz] using k5 i y hy
    | row z xs f =>
      obtain ⟨cells, e, fr, vs, k1, k2, k3, k4, k5, k51, k6, k7⟩ := hblk
      simp only [Option.bind_eq_some_iff] at h
      obtain ⟨el, hel, h⟩ := h
      have hfl := flats_get z xs i el k5 hel
      have hrel : RelL w (bad C.Bo ρ st.M) el.flat ((vs.drop (i * z)).take z) := by rw [← hfl]; exact (k6.drop _).take _
      have hcell : ∀ j v, ((vs.drop (i * z)).take z)[j]? = some v → w.cell? ⟨b, o + i * z + j, none⟩ = some v := fun j v hj => by
        rw [cell_of k1, Nat.add_assoc]; exact k7 _ _ (getElem?_drop_take hj)
      split at h
      · simp only [Option.bind_eq_some_iff] at h
        obtain ⟨y, hy, h⟩ := h
        obtain ⟨v, h2, h3⟩ := hrel.get hy
        exact fin _ y v rfl (run_loadVar1 ht (by simpa [Blk.sz] using hcell off v h2)) h h3
      · rename_i n
        obtain ⟨hn, h⟩ := need_some h
        have hn' := Nat.le_of_ble_eq_true hn
        have hl := hrel.length
        refine fin _ _ _ rfl (run_loadVarN (vs := (((vs.drop (i * z)).take z).drop off).take n) ht ?_ (fun j v hj => ?_)) h (.agg _ _ ((hrel.drop off).take n))
        · rw [List.length_take, List.length_drop, ← hl]; omega
        · rw [Addr.add_mk, Nat.add_assoc]
          exact hcell (off + j) v (getElem?_drop_take hj)
    | box cs =>
      obtain ⟨cells, e, fr, k1, k2, k3, k4⟩ := hblk
      cases hii : Nat.beq i 0
      · simp [hii] at h
      have := Nat.eq_of_beq_eq_true hii; subst this
      simp only [hii, cond_true] at h
      split at h
      · simp only [Option.bind_eq_some_iff, Option.some.injEq, Prod.mk.injEq] at h
        obtain ⟨y, hy, rfl, rfl⟩ := h
        obtain ⟨v, h2, h3⟩ := k4 off y hy
        exact Good.same hI (w' := w) (exl _ _ rfl (run_loadVar1 ht (by rw [cell_of k1]; simpa [Blk.sz] using h2))) rfl h3
      · rename_i n
        obtain ⟨hn, h⟩ := need_some h
        have hn' := Nat.le_of_ble_eq_true hn
        simp only [Option.bind_eq_some_iff, Option.some.injEq, Prod.mk.injEq] at h
        obtain ⟨vs, hvs, rfl, rfl⟩ := h
        obtain ⟨h5, h6⟩ := svImms_get hvs
        obtain ⟨us, h7, h8⟩ := rel_list (w := w) (B := bad C.Bo ρ st.M) vs (fun j => cells[o + (off + j)]?) fun j v hj => by
          have h9 := getElem?_drop_take (h6 j v hj)
          obtain ⟨u, h10, h11⟩ := k4 _ _ h9
          cases h11 with
          | imm _ _ h11 => exact ⟨u, h10, h11⟩
        refine Good.same hI (w' := w) (exl _ _ rfl (run_loadVarN (vs := us) ht ?_ (fun j v hj => ?_))) rfl (.imm _ _ (.agg _ _ h7))
        · rw [← h7.length, h5, List.length_take, List.length_drop]; omega
        · rw [Addr.add_mk, cell_of k1]
          have := h8 j v hj
          simpa [Blk.sz, Nat.add_assoc] using this
    | iter l pos => cases h
    | map es => cases h
    | miter es cur => cases h
  · cases h

end ops

/-- A struct's field: its offset; it has cells. -/
def fieldOff (P : Program) (t : TypeId) (f : Nat) (off : Nat) : Bool :=
  match P.underlying t with
  | some (.struct fs) => (match fs[f]? with
    | some fd => Nat.beq fd.offset off && (match P.info? fd.type with | some i => !(Nat.beq i.size 0) | none => false)
    | none => false)
  | _ => false
/-- A struct's field: its offset and its cells. -/
def fieldSz (P : Program) (t : TypeId) (f : Nat) (off : Nat) (sz : Option Nat) : Bool :=
  match P.underlying t with
  | some (.struct fs) => (match fs[f]? with
    | some fd => Nat.beq fd.offset off && fitsSz P fd.type sz
    | none => false)
  | _ => false

def fitsOpt : Option AO → Option Operand → Bool
  | none, none => true
  | some x, some x' => fitO x x'
  | _, _ => false

theorem run_sliceBound {P : Program} {w : World} {k : IntKind} {n : Int} {y : Nat} {code : BoundsCode} (h0 : 0 ≤ n) (h1 : n ≤ y) : (Instr.sliceBound (.int k n) y code).run P w = .ok n.toNat w := by
  show (if 0 ≤ n ∧ n ≤ (y : Int) then pure n.toNat else boundsPanic k n y code : Sem Nat).run P w = _
  rw [if_pos ⟨h0, h1⟩]; rfl

section ops
variable {P : Program} {C : Cx} {R : Nat → List AV → Option Res} {ρ : Rho} {st : St} {a : Act} {w : World} {oper : Oper} {s : SV} {st' : St}

theorem faddr_ok {x : AO} {off : Nat} (hI : Inv C ρ st a.tmps w) (h : step C.G R (.faddr x off) st (fun s st' => some (s, st')) = some (s, st')) {t : TypeId} {f : Nat} {x' : Operand}
    (ho : oper.op = .fieldAddr t x' f) (hx : fitO x x' = true) (ht : fieldOff P t f off = true) : Good P C oper a w s st' := by
  simp only [step, Option.bind_eq_some_iff] at h
  obtain ⟨u, hu, h⟩ := h
  have h1 := fitO_sound hI hx hu
  generalize hv : a.eval x' = v1 at h1
  have exl : ∀ b o, v1 = .pointer (some ⟨b, o, none⟩) → (execOp a.eval oper).run P w = .ok (.value (.pointer (some ⟨b, o + off, none⟩))) w := by
    intro b o e1
    unfold fieldOff at ht
    split at ht
    · rename_i fs hfs
      split at ht
      · rename_i fd hfd
        simp only [Bool.and_eq_true] at ht
        obtain ⟨e2, e3⟩ := ht
        split at e3
        · rename_i i hi
          have e4 := Nat.eq_of_beq_eq_true e2
          have e5 : ¬ i.size = 0 := by intro hz; rw [hz] at e3; simp at e3
          rw [ex_fieldAddr ho, hv, e1]
          refine run_v ?_
          unfold Instr.fieldAt
          rw [run_bind_ok (run_underlying hfs)]
          dsimp only
          rw [hfd]
          dsimp only
          show (do pure (.pointer (some (← fieldPlace ⟨b, o, none⟩ fd))) : Sem Value).run P w = _
          have : (fieldPlace ⟨b, o, none⟩ fd).run P w = .ok ⟨b, o + off, none⟩ w := by
            unfold fieldPlace
            rw [run_bind_ok (run_sizeOf hi), if_neg e5, Addr.add_mk, e4]; rfl
          rw [run_bind_ok this]; rfl
        · cases e3
      · cases ht
    · cases ht
  split at h
  · simp only [Option.some.injEq, Prod.mk.injEq] at h
    obtain ⟨rfl, rfl⟩ := h
    cases h1 with
    | ptr t' i o' b o cp blk hm hr =>
    refine Good.same hI (w' := w) (exl _ _ rfl) rfl ?_
    rw [Nat.add_assoc]
    exact .ptr _ _ _ b o cp blk hm hr
  · simp only [Option.some.injEq, Prod.mk.injEq] at h
    obtain ⟨rfl, rfl⟩ := h
    cases h1 with
    | rptr cs vs b o hb hB hr hs =>
    exact Good.same hI (w' := w) (exl _ _ rfl) rfl (.rptr _ (vs.drop off) b (o + off) hb hB (hr.drop off) fun j v hj => by rw [Nat.add_assoc]; exact hs _ v (by simpa using hj))
  · cases h

def PartIs (vs : List Value) (off : Nat) (v : Value) : Option Nat → Prop
  | none => vs[off]? = some v
  | some n => v = .agg ((vs.drop off).take n).toArray

theorem run_part {P : Program} {w : World} {t : TypeId} {off : Nat} {sz : Option Nat} (ht : fitsSz P t sz = true) {vs : List Value} {v : Value}
    (h : PartIs vs off v sz) : (part t vs.toArray off).run P w = .ok v w := by
  unfold fitsSz at ht
  cases hu : P.underlying t with
  | none => rw [hu] at ht; cases sz <;> cases ht
  | some d =>
    rw [hu] at ht
    unfold part
    rw [run_bind_ok (run_isAgg hu)]
    cases sz with
    | none =>
      have : isAggD d = false := by cases d <;> first | rfl | cases ht
      rw [this]
      show (match vs.toArray[off]? with | some v => pure v | none => stuck "part: no such cell" : Sem Value).run P w = _
      have h' : vs[off]? = some v := h
      simp [h']
    | some n =>
      cases hi : P.info? t with
      | none => rw [hi] at ht; cases d <;> cases ht
      | some i =>
        rw [hi] at ht
        have hd : isAggD d = true ∧ i.size = n := by
          cases d <;> first | exact ⟨rfl, Nat.eq_of_beq_eq_true ht⟩ | cases ht
        rw [hd.1]
        show (do pure (.agg (vs.toArray.extract off (off + (← sizeOf t)))) : Sem Value).run P w = _
        rw [run_bind_ok (run_sizeOf hi), hd.2]
        have h' : v = .agg ((vs.drop off).take n).toArray := h
        rw [h']
        show Result.ok _ _ = _
        congr 2
        apply Array.ext'
        rw [Array.toList_extract]
        simp [List.extract_eq_take_drop]

theorem fld_ok {x : AO} {off : Nat} {sz : Option Nat} (hI : Inv C ρ st a.tmps w) (h : step C.G R (.fld x off sz) st (fun s st' => some (s, st')) = some (s, st')) {t : TypeId} {f : Nat} {x' : Operand}
    (ho : oper.op = .field t x' f) (hx : fitO x x' = true) (ht : fieldSz P t f off sz = true) : Good P C oper a w s st' := by
  simp only [step, Option.bind_eq_some_iff] at h
  obtain ⟨u, hu, h⟩ := h
  have h1 := fitO_sound hI hx hu
  generalize hv : a.eval x' = v1 at h1
  split at h
  · rename_i cs
    cases h1 with
    | imm _ _ h1 =>
    cases h1 with
    | agg cs vs h1 =>
    have exl : ∀ v, PartIs vs off v sz → (execOp a.eval oper).run P w = .ok (.value v) w := by
      intro v e1
      unfold fieldSz at ht
      split at ht
      · rename_i fs hfs
        split at ht
        · rename_i fd hfd
          simp only [Bool.and_eq_true] at ht
          obtain ⟨e2, e3⟩ := ht
          have e4 := Nat.eq_of_beq_eq_true e2
          rw [ex_field ho, hv]
          refine run_v ?_
          unfold Instr.field
          rw [run_bind_ok (run_underlying hfs)]
          dsimp only
          rw [hfd]
          show (part fd.type vs.toArray fd.offset).run P w = _
          rw [e4]
          exact run_part e3 e1
        · cases ht
      · cases ht
    cases sz with
    | none =>
      simp only [Option.bind_eq_some_iff, Option.some.injEq, Prod.mk.injEq] at h
      obtain ⟨y, hy, rfl, rfl⟩ := h
      obtain ⟨v, h2, h3⟩ := h1.get hy
      exact Good.same hI (w' := w) (exl v h2) rfl (.imm _ _ h3)
    | some n =>
      obtain ⟨hn, h⟩ := need_some h
      simp only [Option.some.injEq, Prod.mk.injEq] at h
      obtain ⟨rfl, rfl⟩ := h
      exact Good.same hI (w' := w) (exl _ rfl) rfl (.imm _ _ (.agg _ _ ((h1.drop off).take n)))
  · cases h

theorem run_indexAt {P : Program} {w : World} {t : TypeId} {sz : Nat} (ht : sliceSz P t sz = true) {k : IntKind} {n : Int} {b o len c : Nat} (h0 : 0 ≤ n) (h1 : n < len) :
    (Instr.indexAt t (.slice (some ⟨b, o, none⟩) len c) (.int k n)).run P w = .ok (.pointer (some ⟨b, o + n.toNat * sz, none⟩)) w := by
  obtain ⟨e, i, hu, hi, rfl⟩ := sliceSz_ok ht
  unfold Instr.indexAt
  have e1 : (asIntOf (.int k n)).run P w = .ok (k, n) w := rfl
  rw [run_bind_ok e1]
  dsimp only
  rw [run_bind_ok (run_underlying hu)]
  dsimp only
  rw [run_bind_ok (rfl : (pure (some (⟨b, o, none⟩ : Addr), len, e) : Sem (Option Addr × Nat × TypeId)).run P w = .ok _ w)]
  dsimp only
  rw [run_bind_ok (run_underlying hu)]
  dsimp only
  rw [if_pos ⟨h0, h1⟩, run_bind_ok (run_sizeOf hi), Addr.add_mk]; rfl

end ops

theorem run_slice_str {P : Program} {w : World} {t : TypeId} (ht : P.underlying t = some .string) {b : ByteArray} {lo hi : Option Value} {l h : Nat}
    (hh : match hi with | none => h = b.size | some v => ∃ k, v = .int k h ∧ h ≤ b.size) (hl : match lo with | none => l = 0 | some v => ∃ k, v = .int k l ∧ l ≤ h) :
    (Instr.sliceAt t (.string b) lo hi none).run P w = .ok (.string (b.extract l h)) w := by
  unfold Instr.sliceAt
  rw [run_bind_ok (run_underlying ht)]
  dsimp only
  unfold Instr.slice
  rw [run_bind_ok (run_underlying ht)]
  have hb : (Instr.sliceBounds false b.size b.size lo hi none).run P w = .ok (l, h, b.size) w := by
    unfold Instr.sliceBounds
    cases hi with
    | none =>
      subst hh
      cases lo with
      | none => subst hl; rfl
      | some v => obtain ⟨k, rfl, e⟩ := hl; simp [run_sliceBound (P := P) (w := w) (k := k) (n := (l : Int)) (y := b.size) (code := .sliceB) (by omega) (by omega), Result.andThen]
    | some v =>
      obtain ⟨k, rfl, e⟩ := hh
      have h1 := run_sliceBound (P := P) (w := w) (k := k) (n := (h : Int)) (y := b.size) (code := .sliceAlen) (by omega) (by omega)
      cases lo with
      | none => subst hl; simp [h1, Result.andThen]
      | some v => obtain ⟨k', rfl, e'⟩ := hl; simp [h1, run_sliceBound (P := P) (w := w) (k := k') (n := (l : Int)) (y := h) (code := .sliceB) (by omega) (by omega), Result.andThen]
  simp [hb, Result.andThen]

theorem run_slice_sl {P : Program} {w : World} {t : TypeId} {sz : Nat} (ht : sliceSz P t sz = true) {a : Option Addr} {len c : Nat} {lo hi : Option Value} {l h : Nat}
    (hh : match hi with | none => h = len | some v => ∃ k, v = .int k h ∧ h ≤ c) (hl : match lo with | none => l = 0 | some v => ∃ k, v = .int k l ∧ l ≤ h) :
    (Instr.sliceAt t (.slice a len c) lo hi none).run P w = .ok (.slice (if c = l then a else a.map (·.add (l * sz))) (h - l) (c - l)) w := by
  obtain ⟨e, i, hu, hi', rfl⟩ := sliceSz_ok ht
  unfold Instr.sliceAt
  rw [run_bind_ok (run_underlying hu)]
  dsimp only
  unfold Instr.slice
  rw [run_bind_ok (run_underlying hu)]
  have hb : (Instr.sliceBounds true len c lo hi none).run P w = .ok (l, h, c) w := by
    unfold Instr.sliceBounds
    cases hi with
    | none =>
      subst hh
      cases lo with
      | none => subst hl; rfl
      | some v => obtain ⟨k, rfl, e⟩ := hl; simp [run_sliceBound (P := P) (w := w) (k := k) (n := (l : Int)) (y := h) (code := .sliceB) (by omega) (by omega), Result.andThen]
    | some v =>
      obtain ⟨k, rfl, e⟩ := hh
      have h1 := run_sliceBound (P := P) (w := w) (k := k) (n := (h : Int)) (y := c) (code := .sliceAcap) (by omega) (by omega)
      cases lo with
      | none => subst hl; simp [h1, Result.andThen]
      | some v => obtain ⟨k', rfl, e'⟩ := hl; simp [h1, run_sliceBound (P := P) (w := w) (k := k') (n := (l : Int)) (y := h) (code := .sliceB) (by omega) (by omega), Result.andThen]
  simp [hb, Result.andThen, run_sizeOf hi']

theorem extract_list (b : ByteArray) (l h : Nat) : (b.extract l h).data.toList = (b.data.toList.take h).drop l := by
  rw [ByteArray.data_extract, Array.toList_extract, List.extract_eq_take_drop, List.drop_take]

/-- A slice of what is only read. -/
theorem Rel.cutB {w : World} {B : Nat → Prop} {s : List UInt8} {v : Value} (h : Rel w B (.bytes s) v) {l h' : Nat} (hl : l ≤ h') (hh : h' ≤ s.length) :
    ∃ a c, v = .slice a s.length c ∧ s.length ≤ c ∧ Rel w B (.bytes ((s.take h').drop l)) (.slice (if c = l then a else a.map (·.add (l * 1))) (h' - l) (c - l)) := by
  cases h with
  | bnil a cap =>
    have : h' = 0 := by simpa using hh
    subst this
    have : l = 0 := by omega
    subst this
    exact ⟨a, cap, rfl, by simp, by simpa using Rel.bnil _ _⟩
  | bytes s b o cap hb hB hc hs =>
    refine ⟨_, cap, rfl, hc, ?_⟩
    have hlen : ((s.take h').drop l).length = h' - l := by simp; omega
    by_cases hcl : cap = l
    · rw [if_pos hcl]
      have he : (s.take h').drop l = [] := List.eq_nil_of_length_eq_zero (by rw [hlen]; omega)
      have := Rel.bytes (w := w) (B := B) ((s.take h').drop l) b o (cap - l) hb hB (by rw [hlen]; omega) (fun j x hj => by rw [he] at hj; simp at hj)
      rwa [hlen] at this
    · rw [if_neg hcl]
      have := Rel.bytes (w := w) (B := B) ((s.take h').drop l) b (o + l) (cap - l) hb hB (by rw [hlen]; omega) (fun j x hj => by
        rw [Nat.add_assoc]; refine hs (l + j) x ?_
        simp only [List.getElem?_drop, List.getElem?_take] at hj
        split at hj <;> simp_all)
      rw [hlen] at this
      simpa [Addr.add_mk] using this

theorem Rel.cutR {w : World} {B : Nat → Prop} {sz : Nat} {s : List AV} {v : Value} (h : Rel w B (.row sz s) v) {l h' : Nat} (hl : l ≤ h') (hh : h' ≤ s.length) :
    ∃ a c, v = .slice a s.length c ∧ s.length ≤ c ∧ Rel w B (.row sz ((s.take h').drop l)) (.slice (if c = l then a else a.map (·.add (l * sz))) (h' - l) (c - l)) := by
  cases h with
  | rnil _ a cap =>
    have : h' = 0 := by simpa using hh
    subst this
    have : l = 0 := by omega
    subst this
    exact ⟨a, cap, rfl, by simp, by simpa using Rel.rnil _ _ _⟩
  | row sz s vs b o cap hb hB hc hz h1 hr hs =>
    refine ⟨_, cap, rfl, hc, ?_⟩
    have hlen : ((s.take h').drop l).length = h' - l := by simp; omega
    by_cases hcl : cap = l
    · rw [if_pos hcl]
      have he : (s.take h').drop l = [] := List.eq_nil_of_length_eq_zero (by rw [hlen]; omega)
      have := Rel.row (w := w) (B := B) sz ((s.take h').drop l) [] b o (cap - l) hb hB (by rw [hlen]; omega) (fun x hx => by rw [he] at hx; cases hx) (fun v hv => by cases hv) (by rw [he]; exact .nil) (fun j x hj => by simp at hj)
      rwa [hlen] at this
    · rw [if_neg hcl]
      have hz1 : ∀ x ∈ s.take h', x.flat.length = sz := fun x hx => hz x (List.mem_of_mem_take hx)
      have := Rel.row (w := w) (B := B) sz ((s.take h').drop l) ((vs.take (h' * sz)).drop (l * sz)) b (o + l * sz) (cap - l) hb hB (by rw [hlen]; omega) (fun x hx => hz1 x (List.mem_of_mem_drop hx)) (fun v hv => h1 v (List.mem_of_mem_take (List.mem_of_mem_drop hv)))
        (by rw [flats_drop sz _ _ hz1, flats_take sz _ _ hz]; exact (hr.take _).drop _) (fun j x hj => by
        rw [Nat.add_assoc]; refine hs (l * sz + j) x ?_
        simp only [List.getElem?_drop, List.getElem?_take] at hj
        split at hj <;> simp_all)
      rw [hlen] at this
      simpa [Addr.add_mk] using this

theorem bound_some {α : Type} {len d : Nat} {s : Option SV} {K : Nat → Option α} {r : α} (h : bound len d s K = some r) :
    (s = none ∧ K d = some r) ∨ ∃ k n, s = some (.imm (.int k n)) ∧ 0 ≤ n ∧ n ≤ len ∧ K n.toNat = some r := by
  unfold bound at h
  split at h
  · exact .inl ⟨rfl, h⟩
  · obtain ⟨h1, h2⟩ := need_some h
    simp only [Bool.and_eq_true, decide_eq_true_eq] at h1
    exact .inr ⟨_, _, rfl, h1.1, h1.2, h2⟩
  · cases h

section ops
variable {P : Program} {C : Cx} {R : Nat → List AV → Option Res} {ρ : Rho} {st : St} {a : Act} {w : World} {oper : Oper} {s : SV} {st' : St}

/-- A bound as the machine has it. -/
theorem bound_ok (hI : Inv C ρ st a.tmps w) {x : Option AO} {x' : Option Operand} (hf : fitsOpt x x' = true) {sv : Option SV} (he : optEv C.G st x = some sv) {α : Type} {len d : Nat} {K : Nat → Option α} {r : α} (h : bound len d sv K = some r) :
    ∃ n, K n = some r ∧ (match x'.map a.eval with | none => n = d | some v => ∃ k, v = .int k n ∧ n ≤ len) := by
  cases x with
  | none =>
    cases x' with
    | some _ => simp [fitsOpt] at hf
    | none =>
      simp only [optEv, Option.some.injEq] at he; subst he
      rcases bound_some h with ⟨_, h⟩ | ⟨k, n, h, _⟩
      · exact ⟨d, h, rfl⟩
      · cases h
  | some x =>
    cases x' with
    | none => simp [fitsOpt] at hf
    | some x' =>
      simp only [optEv, Option.map_eq_some_iff] at he
      obtain ⟨s1, hs1, rfl⟩ := he
      have h1 := fitO_sound hI (x := x) (x' := x') hf hs1
      rcases bound_some h with ⟨h, _⟩ | ⟨k, n, h2, h3, h4, h5⟩
      · cases h
      · simp only [Option.some.injEq] at h2; subst h2
        refine ⟨n.toNat, h5, ?_⟩
        cases h1 with
        | imm _ _ h1 =>
        show ∃ k, a.eval x' = .int k _ ∧ _
        generalize a.eval x' = v1 at h1
        cases h1
        exact ⟨k, by rw [Int.toNat_of_nonneg h3], by omega⟩

theorem slice_ok {x : AO} {lo hi : Option AO} {sz : Nat} (hI : Inv C ρ st a.tmps w) (h : step C.G R (.slice x lo hi sz) st (fun s st' => some (s, st')) = some (s, st')) {t : TypeId} {x' : Operand} {lo' hi' : Option Operand}
    (ho : oper.op = .slice t x' lo' hi' none) (hx : fitO x x' = true) (hlo : fitsOpt lo lo' = true) (hhi : fitsOpt hi hi' = true) (ht : sliceSz P t sz = true) : Good P C oper a w s st' := by
  simp only [step, Option.bind_eq_some_iff] at h
  obtain ⟨u, hu, l, hl, hh, hhe, h⟩ := h
  have h1 := fitO_sound hI hx hu
  have hex : ∀ {v v'}, a.eval x' = v → (Instr.sliceAt t v (lo'.map a.eval) (hi'.map a.eval) none).run P w = .ok v' w → (execOp a.eval oper).run P w = .ok (.value v') w := by
    intro v v' e1 e2
    rw [ex_slice ho, e1]; exact run_v e2
  have finB : ∀ {st1 : St} {ρ1 : Rho} {b : List UInt8}, Inv C ρ1 st1 a.tmps w → Rel w (bad C.Bo ρ1 st1.M) (.bytes b) (a.eval x') →
      (bif Nat.beq sz 1 then bound b.length b.length hh fun h => bound h 0 l fun l => some (SV.imm (.bytes ((b.take h).drop l)), st1) else none) = some (s, st') → Good P C oper a w s st' := by
    intro st1 ρ1 b hI1 hr h
    cases hsz : Nat.beq sz 1
    · simp [hsz] at h
    have := Nat.eq_of_beq_eq_true hsz; subst this
    simp only [Nat.beq_refl, cond_true] at h
    obtain ⟨nh, h, e1⟩ := bound_ok hI hhi hhe h
    obtain ⟨nl, h, e2⟩ := bound_ok hI hlo hl h
    simp only [Option.some.injEq, Prod.mk.injEq] at h
    obtain ⟨rfl, rfl⟩ := h
    have hnl : nl ≤ nh := by revert e2; cases lo'.map a.eval <;> rintro e2 <;> first | omega | exact e2.elim fun _ h => h.2
    have hnh : nh ≤ b.length := by revert e1; cases hi'.map a.eval <;> rintro e1 <;> first | omega | exact e1.elim fun _ h => h.2
    obtain ⟨p, c, e3, e4, e5⟩ := hr.cutB hnl hnh
    refine Good.same hI1 (w' := w) (hex e3 (run_slice_sl ht (l := nl) (h := nh) ?_ ?_)) rfl (.imm _ _ e5)
    · revert e1; cases hi'.map a.eval <;> rintro e1 <;> first | exact e1 | exact e1.elim fun k h => ⟨k, h.1, by omega⟩
    · revert e2; cases lo'.map a.eval <;> rintro e2 <;> exact e2
  have finR : ∀ {st1 : St} {ρ1 : Rho} {z : Nat} {b : List AV}, Inv C ρ1 st1 a.tmps w → Rel w (bad C.Bo ρ1 st1.M) (.row z b) (a.eval x') →
      (bif Nat.beq sz z then bound b.length b.length hh fun h => bound h 0 l fun l => some (SV.imm (.row sz ((b.take h).drop l)), st1) else none) = some (s, st') → Good P C oper a w s st' := by
    intro st1 ρ1 z b hI1 hr h
    cases hsz : Nat.beq sz z
    · simp [hsz] at h
    have := Nat.eq_of_beq_eq_true hsz; subst this
    simp only [Nat.beq_refl, cond_true] at h
    obtain ⟨nh, h, e1⟩ := bound_ok hI hhi hhe h
    obtain ⟨nl, h, e2⟩ := bound_ok hI hlo hl h
    simp only [Option.some.injEq, Prod.mk.injEq] at h
    obtain ⟨rfl, rfl⟩ := h
    have hnl : nl ≤ nh := by revert e2; cases lo'.map a.eval <;> rintro e2 <;> first | omega | exact e2.elim fun _ h => h.2
    have hnh : nh ≤ b.length := by revert e1; cases hi'.map a.eval <;> rintro e1 <;> first | omega | exact e1.elim fun _ h => h.2
    obtain ⟨p, c, e3, e4, e5⟩ := hr.cutR hnl hnh
    refine Good.same hI1 (w' := w) (hex e3 (run_slice_sl ht (l := nl) (h := nh) ?_ ?_)) rfl (.imm _ _ e5)
    · revert e1; cases hi'.map a.eval <;> rintro e1 <;> first | exact e1 | exact e1.elim fun k h => ⟨k, h.1, by omega⟩
    · revert e2; cases lo'.map a.eval <;> rintro e2 <;> exact e2
  split at h
  · cases h1 with
    | imm _ _ h1 => exact finB hI h1 h
  · cases h1 with
    | imm _ _ h1 => exact finR hI h1 h
  · rename_i t' off len cp
    split at h
    · -- the head of a row of one's own
      have hlo2 : lo'.map a.eval = none := by
        cases lo with
        | none => cases lo' with
          | none => rfl
          | some _ => simp [fitsOpt] at hlo
        | some x => simp only [optEv, Option.map_eq_some_iff] at hl; obtain ⟨_, _, e⟩ := hl; cases e
      have fin : ∀ blk, get st.M t' = some blk → (bif Nat.beq sz blk.sz then bound len len hh fun h => some (SV.own t' off h none, st) else none) = some (s, st') → Good P C oper a w s st' := by
        intro blk hm h
        cases hsz : Nat.beq sz blk.sz
        · simp [hsz] at h
        have := Nat.eq_of_beq_eq_true hsz
        simp only [hsz, cond_true] at h
        obtain ⟨nh, h, e1⟩ := bound_ok hI hhi hhe h
        simp only [Option.some.injEq, Prod.mk.injEq] at h
        obtain ⟨rfl, rfl⟩ := h
        have hnh : nh ≤ len := by revert e1; cases hi'.map a.eval <;> rintro e1 <;> first | omega | exact e1.elim fun _ h => h.2
        generalize hv : a.eval x' = v1 at h1 hex
        cases h1 with
        | own t' off len cap b o cp c blk' hm' hr hc hl' hn =>
          obtain rfl : blk = blk' := by rw [hm] at hm'; simpa using hm'
          have hrun := run_slice_sl (w := w) ht (a := some ⟨b, o + off * blk.sz, none⟩) (len := len) (c := c) (lo := lo'.map a.eval) (hi := hi'.map a.eval) (l := 0) (h := nh)
            (by revert e1; cases hi'.map a.eval <;> rintro e1 <;> first | exact e1 | exact e1.elim fun k h => ⟨k, h.1, by omega⟩) (by rw [hlo2])
          refine Good.same hI (w' := w) (hex rfl hrun) rfl ?_
          have : (if c = 0 then some (⟨b, o + off * blk.sz, none⟩ : Addr) else (some (⟨b, o + off * blk.sz, none⟩ : Addr)).map (·.add (0 * sz))) = some ⟨b, o + off * blk.sz, none⟩ := by
            split
            · rfl
            · simp [Addr.add_mk]
          rw [this]
          exact .own t' off nh none b o cp c blk hm hr (by omega) (by omega) (by omega)
        | ownNil t' cap blk' hm' hr =>
          have hz : nh = 0 := by omega
          subst hz
          have hrun := run_slice_sl (w := w) ht (a := none) (len := 0) (c := 0) (lo := lo'.map a.eval) (hi := hi'.map a.eval) (l := 0) (h := 0)
            (by revert e1; cases hi'.map a.eval <;> rintro e1 <;> first | exact e1 | exact e1.elim fun k h => ⟨k, h.1, by omega⟩) (by rw [hlo2])
          exact Good.same hI (w' := w) (hex rfl hrun) rfl (by simpa using RelS.ownNil t' none blk hm hr)
      split at h
      · rename_i b f hm; exact fin _ hm h
      · rename_i z xs f hm; exact fin _ hm h
      · cases h
    · simp only [Option.bind_eq_some_iff] at h
      obtain ⟨p, hp, h⟩ := h
      obtain ⟨hI1, hr1, _⟩ := give_ok hI h1 hp
      split at h
      · rename_i b hb; rw [hb] at hr1; exact finB (st1 := st.withM p.2) hI1 hr1 h
      · rename_i z xs hb; rw [hb] at hr1; exact finR (st1 := st.withM p.2) hI1 hr1 h
      · cases h
  · cases h

theorem sliceS_ok {x : AO} {lo hi : Option AO} (hI : Inv C ρ st a.tmps w) (h : step C.G R (.sliceS x lo hi) st (fun s st' => some (s, st')) = some (s, st')) {t : TypeId} {x' : Operand} {lo' hi' : Option Operand}
    (ho : oper.op = .slice t x' lo' hi' none) (hx : fitO x x' = true) (hlo : fitsOpt lo lo' = true) (hhi : fitsOpt hi hi' = true) (ht : isStr P t = true) : Good P C oper a w s st' := by
  simp only [step, Option.bind_eq_some_iff] at h
  obtain ⟨u, hu, l, hl, hh, hhe, h⟩ := h
  have h1 := fitO_sound hI hx hu
  have hex : ∀ {v v'}, a.eval x' = v → (Instr.sliceAt t v (lo'.map a.eval) (hi'.map a.eval) none).run P w = .ok v' w → (execOp a.eval oper).run P w = .ok (.value v') w := by
    intro v v' e1 e2
    rw [ex_slice ho, e1]; exact run_v e2
  split at h
  · rename_i b
    cases h1 with
    | imm _ _ h1 =>
    generalize hv : a.eval x' = v1 at h1 hex
    cases h1 with
    | str ba =>
    obtain ⟨nh, h, e1⟩ := bound_ok hI hhi hhe h
    obtain ⟨nl, h, e2⟩ := bound_ok hI hlo hl h
    simp only [Option.some.injEq, Prod.mk.injEq] at h
    obtain ⟨rfl, rfl⟩ := h
    have hbs : ba.data.toList.length = ba.size := by rw [Array.length_toList]; rfl
    rw [hbs] at e1
    refine Good.same hI (w' := w) (hex rfl (run_slice_str (isStr_ok ht) (l := nl) (h := nh) ?_ ?_)) rfl (.imm _ _ ?_)
    · revert e1; cases hi'.map a.eval <;> exact id
    · revert e2; cases lo'.map a.eval <;> exact id
    · rw [← extract_list]; exact .str _
  · cases h

end ops

def fitV : AV → Value → Bool
  | .int k n, .int k' n' => decide (k = k') && decide (n = n')
  | .bool b, .bool c => b == c
  | .str s, .string b => s == b.data.toList
  | .nilI, .nilIface => true
  | .bytes [], .slice none n c => Nat.beq n 0 && Nat.beq c 0
  | .row _ [], .slice none n c => Nat.beq n 0 && Nat.beq c 0
  | .nilR _, .slice none n c => Nat.beq n 0 && Nat.beq c 0
  | _, _ => false
def fitVs : List AV → List Value → Bool
  | [], [] => true
  | x :: xs, v :: vs => fitV x v && fitVs xs vs
  | _, _ => false
theorem fitV_ok {w : World} {B : Nat → Prop} {x : AV} {v : Value} (h : fitV x v = true) : Rel w B x v := by
  unfold fitV at h
  split at h
  · simp only [Bool.and_eq_true, decide_eq_true_eq] at h; obtain ⟨rfl, rfl⟩ := h; exact .int _ _
  · simp only [beq_iff_eq] at h; subst h; exact .bool _
  · simp only [beq_iff_eq] at h; subst h; exact .str _
  · exact .nilI
  · simp only [Bool.and_eq_true] at h
    have h1 := Nat.eq_of_beq_eq_true h.1; have h2 := Nat.eq_of_beq_eq_true h.2; subst h1; subst h2; exact .bnil none 0
  · simp only [Bool.and_eq_true] at h
    have h1 := Nat.eq_of_beq_eq_true h.1; have h2 := Nat.eq_of_beq_eq_true h.2; subst h1; subst h2; exact .rnil _ none 0
  · simp only [Bool.and_eq_true] at h
    have h1 := Nat.eq_of_beq_eq_true h.1; have h2 := Nat.eq_of_beq_eq_true h.2; subst h1; subst h2; exact .nilR _
  · cases h
theorem fitVs_ok {w : World} {B : Nat → Prop} : ∀ {xs : List AV} {vs : List Value}, fitVs xs vs = true → RelL w B xs vs
  | [], [], _ => .nil
  | x :: xs, v :: vs, h => by simp only [fitVs, Bool.and_eq_true] at h; exact .cons _ _ _ _ (fitV_ok h.1) (fitVs_ok h.2)
  | [], _ :: _, h => by simp [fitVs] at h
  | _ :: _, [], h => by simp [fitVs] at h

def fitL : List AO → List Operand → Bool
  | [], [] => true
  | x :: xs, y :: ys => fitO x y && fitL xs ys
  | _, _ => false

theorem giveL_ok {P : Program} {C : Cx} {ρ : Rho} {a : Act} {w : World} {env : List (Nat × SV)} {α : Type} : ∀ {xs : List AO} {xs' : List Operand} {M : List (Nat × Blk)} {K : List AV → List (Nat × Blk) → Option α} {r : α},
    Inv C ρ ⟨env, M⟩ a.tmps w → fitL xs xs' = true → giveL C.G env M xs K = some r →
    ∃ vs M', K vs M' = some r ∧ Inv C ρ ⟨env, M'⟩ a.tmps w ∧ RelL w (bad C.Bo ρ M') vs (xs'.map a.eval) ∧ (∀ y, bad C.Bo ρ M' y → bad C.Bo ρ M y) ∧ SameShape M M'
  | [], [], M, K, r, hI, _, h => ⟨[], M, h, hI, .nil, fun _ h => h, fun t blk ht => ⟨blk, ht, rfl, rfl⟩⟩
  | x :: xs, x' :: xs', M, K, r, hI, hf, h => by
    simp only [fitL, Bool.and_eq_true] at hf
    simp only [giveL, Option.bind_eq_some_iff] at h
    obtain ⟨s, hs, p, hp, h⟩ := h
    have h1 := fitO_sound hI hf.1 hs
    obtain ⟨h2, h3, h4, h5⟩ := give_ok hI h1 hp
    obtain ⟨vs, M', h6, h7, h8, h9, h10⟩ := giveL_ok (P := P) (M := p.2) h2 hf.2 h
    refine ⟨p.1 :: vs, M', h6, h7, .cons _ _ _ _ (h3.mono (Agree.refl _ _) fun x _ hx => h9 x hx) h8, fun y hy => h5 y (h9 y hy), fun t blk ht => ?_⟩
    obtain ⟨b1, g1, g2, g3⟩ := h4 t blk ht
    obtain ⟨b2, g4, g5, g6⟩ := h10 t b1 g1
    exact ⟨b2, g4, g5.trans g2, g6.trans g3⟩
  | [], _ :: _, M, K, r, hI, hf, h => by simp [fitL] at hf
  | _ :: _, [], M, K, r, hI, hf, h => by simp [fitL] at hf

theorem foldl_put (cv vv : List Value) (off : Nat) (hl : off + vv.length ≤ cv.length) :
    (vv.zipIdx.foldl (fun c (x : Value × Nat) => c.setIfInBounds (off + x.2) x.1) cv.toArray).toList = cv.take off ++ vv ++ cv.drop (off + vv.length) := by
  obtain ⟨g1, g2⟩ := Great.foldl_set off vv 0 cv.toArray
  apply List.ext_getElem?
  intro k
  have g2k := g2 k
  rw [← Array.getElem?_toList] at g2k
  rw [show vv.zipIdx = vv.zipIdx 0 from rfl, g2k]
  simp only [Nat.add_zero, List.size_toArray, List.getElem?_toArray]
  by_cases h1 : k < off
  · rw [if_neg (by omega), List.append_assoc, List.getElem?_append_left (by rw [List.length_take]; omega), List.getElem?_take, if_pos h1]
  · by_cases h2 : k < off + vv.length
    · rw [if_pos ⟨by omega, by omega, by omega⟩, List.append_assoc, List.getElem?_append_right (by rw [List.length_take]; omega), List.getElem?_append_left (by rw [List.length_take]; omega)]
      congr 1; rw [List.length_take]; omega
    · rw [if_neg (by omega), List.getElem?_append_right (by rw [List.length_append, List.length_take]; omega), List.getElem?_drop]
      congr 1; rw [List.length_append, List.length_take]; omega

/-- Cells put among cells, as the machine does it. -/
theorem putCells_ok {w : World} {B : Nat → Prop} {cs vs : List AV} {off : Nat} {cv : List Value} {vv : List Value} (h : RelL w B cs cv) (hv : RelL w B vs vv) (hl : off + vs.length ≤ cs.length) :
    RelL w B (putCells cs off vs) ((vv.zipIdx.foldl (fun c (x : Value × Nat) => c.setIfInBounds (off + x.2) x.1) cv.toArray).toList) := by
  have e1 := hv.length
  have e2 := h.length
  rw [foldl_put cv vv off (by omega)]
  unfold putCells
  rw [e1]
  exact (h.take _).append hv |>.append (h.drop _)

def fitParts (places : List (Nat × Nat)) : List (Nat × Nat × AO) → List (Nat × Operand) → Bool
  | [], [] => true
  | (off, sz, x) :: ps, (i, y) :: qs => (match places[i]? with | some (o, z) => Nat.beq o off && Nat.beq z sz | none => false) && fitO x y && fitParts places ps qs
  | _, _ => false

def buildFits (P : Program) (t : TypeId) (zero : List AV) (parts : List (Nat × Nat × AO)) (qs : List (Nat × Operand)) : Bool :=
  match P.info? t, P.underlying t with
  | some it, some (.struct fields) => (match it.zero, fields.toList.mapM (fun f => (P.info? f.type).map fun i => (f.offset, i.size)) with
    | some z, some places => fitVs zero z.cells.toList && fitParts places parts qs
    | _, _ => false)
  | _, _ => false

theorem fitParts_L {places : List (Nat × Nat)} : ∀ {ps : List (Nat × Nat × AO)} {qs : List (Nat × Operand)}, fitParts places ps qs = true → fitL (ps.map fun p => p.2.2) (qs.map (·.2)) = true
  | [], [], _ => rfl
  | (o, z, x) :: ps, (i, y) :: qs, h => by
    simp only [fitParts, Bool.and_eq_true] at h
    simp only [List.map_cons, fitL, Bool.and_eq_true]
    exact ⟨h.1.2, fitParts_L h.2⟩
  | [], _ :: _, h => by simp [fitParts] at h
  | (_, _, _) :: _, [], h => by simp [fitParts] at h

theorem fill_ok {w : World} {B : Nat → Prop} {places : List (Nat × Nat)} {ev : Operand → Value} {α : Type} : ∀ {ps : List (Nat × Nat × AO)} {qs : List (Nat × Operand)} {cells vs : List AV} {cv : List Value} {K : List AV → Option α} {r : α},
    fitParts places ps qs = true → RelL w B cells cv → RelL w B vs (qs.map fun q => ev q.2) → fillParts cells (ps.map fun p => (p.1, p.2.1)) vs K = some r →
    ∃ cells' cv', K cells' = some r ∧ RelL w B cells' cv' ∧ Instr.fill (places.toArray[·]?) cv.toArray (qs.map fun q => (q.1, ev q.2)) = some cv'.toArray
  | [], [], cells, vs, cv, K, r, _, hc, hv, h => by
    cases hv
    exact ⟨cells, cv, h, hc, rfl⟩
  | (off, sz, x) :: ps, (i, y) :: qs, cells, vs, cv, K, r, hf, hc, hv, h => by
    simp only [fitParts, Bool.and_eq_true] at hf
    simp only [List.map_cons] at hv h
    cases hv with
    | cons v u vs us hvu hvs =>
    simp only [fillParts] at h
    obtain ⟨h1, h⟩ := need_some h
    simp only [Bool.and_eq_true] at h1
    have e1 := Nat.eq_of_beq_eq_true h1.1
    have e2 := Nat.le_of_ble_eq_true h1.2
    have hfl := hvu.flat
    have e3 := hfl.length
    have hput := putCells_ok hc hfl (off := off) (by omega)
    obtain ⟨cells', cv', g1, g2, g3⟩ := fill_ok (ps := ps) (qs := qs) hf.2 hput hvs h
    refine ⟨cells', cv', g1, g2, ?_⟩
    have hpl : places.toArray[i]? = some (off, sz) := by
      have := hf.1.1
      split at this
      · rename_i o z ho
        simp only [Bool.and_eq_true] at this
        have a1 := Nat.eq_of_beq_eq_true this.1
        have a2 := Nat.eq_of_beq_eq_true this.2
        subst a1; subst a2
        simpa using ho
      · cases this
    have e4 : (ev y).cells.size = sz := by rw [← e1, e3]; simp
    have e5 := hc.length
    simp only [List.map_cons, Instr.fill, hpl]
    rw [if_neg (by simp [e4]; omega)]
    rw [← g3]
    congr 1
    simp only [Array.toArray_toList]
    rw [← Array.foldl_toList, Array.toList_zipIdx]
  | [], _ :: _, cells, vs, cv, K, r, hf, _, _, _ => by simp [fitParts] at hf
  | (_, _, _) :: _, [], cells, vs, cv, K, r, hf, _, _, _ => by simp [fitParts] at hf

section ops
variable {P : Program} {C : Cx} {R : Nat → List AV → Option Res} {ρ : Rho} {st : St} {a : Act} {w : World} {oper : Oper} {s : SV} {st' : St}

theorem build_ok {zero : List AV} {parts : List (Nat × Nat × AO)} (hI : Inv C ρ st a.tmps w) (h : step C.G R (.build zero parts) st (fun s st' => some (s, st')) = some (s, st')) {t : TypeId} {qs : Array (Nat × Operand)}
    (ho : oper.op = .build t qs) (ht : buildFits P t zero parts qs.toList = true) : Good P C oper a w s st' := by
  unfold buildFits at ht
  split at ht
  · rename_i it fields hit hu
    split at ht
    · rename_i z places hz hp
      simp only [Bool.and_eq_true] at ht
      simp only [step] at h
      obtain ⟨vs, M', h, hI', hr, _, _⟩ := giveL_ok (P := P) hI (fitParts_L ht.2) h
      rw [List.map_map] at hr
      obtain ⟨cells', cv', g1, g2, g3⟩ := fill_ok (places := places) (ev := a.eval) (α := SV × St) (w := w) (B := bad C.Bo ρ M') (qs := qs.toList) ht.2 (fitVs_ok ht.1) hr h
      simp only [Option.some.injEq, Prod.mk.injEq] at g1
      obtain ⟨rfl, rfl⟩ := g1
      refine Good.same (st := st.withM M') hI' (w' := w) ?_ rfl (.imm _ _ (.agg _ _ g2))
      rw [ex_build ho]
      refine run_v (run_build w t _ _ ?_)
      unfold Program.built
      rw [hit, hu]
      simp only [hz, hp]
      rw [← g3]
      simp
    · cases ht
  · cases ht

theorem fill_row (sz : Nat) : ∀ (vals : List Value) (i0 : Nat) (pre rest : List Value), pre.length = i0 * sz → (∀ v ∈ vals, v.cells.size = sz) → vals.length * sz ≤ rest.length →
    Instr.fill (fun i => some (i * sz, sz)) (pre ++ rest).toArray ((vals.zipIdx i0).map fun x => (x.2, x.1)) = some (pre ++ vals.flatMap (·.cells.toList) ++ rest.drop (vals.length * sz)).toArray
  | [], i0, pre, rest, _, _, _ => by simp [Instr.fill]
  | v :: vals, i0, pre, rest, h1, h2, h3 => by
    have hv : v.cells.size = sz := h2 v (by simp)
    have h3' : sz + vals.length * sz ≤ rest.length := by simp only [List.length_cons, Nat.succ_mul] at h3; omega
    simp only [List.zipIdx_cons, List.map_cons, Instr.fill]
    rw [if_neg (by simp [hv, h1]; omega)]
    have hf := foldl_put (pre ++ rest) v.cells.toList (i0 * sz) (by simp [hv, h1]; omega)
    rw [← Array.foldl_toList, Array.toList_zipIdx]
    have hf' : (v.cells.toList.zipIdx.foldl (fun c (x : Value × Nat) => c.setIfInBounds (i0 * sz + x.2) x.1) (pre ++ rest).toArray) = ((pre ++ v.cells.toList) ++ rest.drop sz).toArray := by
      apply Array.ext'
      rw [hf]
      have : v.cells.toList.length = sz := by simpa using hv
      rw [this, ← h1, List.take_left', ← List.drop_drop, List.drop_left'] <;> simp
    rw [hf']
    have hl : v.cells.toList.length = sz := by simpa using hv
    rw [fill_row sz vals (i0 + 1) (pre ++ v.cells.toList) (rest.drop sz) (by simp [h1, hv, Nat.succ_mul]) (fun u hu => h2 u (by simp [hu])) (by simp; omega)]
    simp only [List.flatMap_cons, List.append_assoc, List.drop_drop, List.length_cons, Nat.succ_mul, Nat.add_comm sz]

/-- A literal's parts: side by side, from the first on. -/
def fitElems (i : Nat) : List AO → List (Nat × Operand) → Bool
  | [], [] => true
  | x :: xs, (j, y) :: ys => Nat.beq j i && fitO x y && fitElems (i + 1) xs ys
  | _, _ => false
def bsliceFits (P : Program) (t : TypeId) (n : Nat) (parts : List AO) (qs : List (Nat × Operand)) (sz : Nat) : Bool :=
  match P.underlying t with
  | some (.slice e) => (match P.info? e with
    | some ie => Nat.beq ie.size sz && ie.zero.isSome && Nat.beq n parts.length && Nat.ble (n * sz) 16777216 && Nat.ble 1 sz && fitElems 0 parts qs
    | none => false)
  | _ => false

theorem fitElems_L : ∀ {i : Nat} {xs : List AO} {qs : List (Nat × Operand)}, fitElems i xs qs = true → fitL xs (qs.map (·.2)) = true ∧ qs.length = xs.length
  | i, [], [], _ => ⟨rfl, rfl⟩
  | i, x :: xs, (j, y) :: ys, h => by
    simp only [fitElems, Bool.and_eq_true] at h
    have ih := fitElems_L h.2
    exact ⟨by simp only [List.map_cons, fitL, Bool.and_eq_true]; exact ⟨h.1.2, ih.1⟩, by simp [ih.2]⟩
  | i, [], _ :: _, h => by simp [fitElems] at h
  | i, _ :: _, [], h => by simp [fitElems] at h
theorem fitElems_zip {ev : Operand → Value} : ∀ {i : Nat} {xs : List AO} {qs : List (Nat × Operand)}, fitElems i xs qs = true → (qs.map fun q => (q.1, ev q.2)) = ((qs.map fun q => ev q.2).zipIdx i).map fun x => (x.2, x.1)
  | i, [], [], _ => rfl
  | i, x :: xs, (j, y) :: ys, h => by
    simp only [fitElems, Bool.and_eq_true] at h
    have e := Nat.eq_of_beq_eq_true h.1.1
    subst e
    simp only [List.map_cons, List.zipIdx_cons]
    rw [fitElems_zip h.2]
  | i, [], _ :: _, h => by simp [fitElems] at h
  | i, _ :: _, [], h => by simp [fitElems] at h

theorem RelL.flats {w : World} {B : Nat → Prop} : ∀ {xs : List AV} {vs : List Value}, RelL w B xs vs → RelL w B (flats xs) (vs.flatMap (·.cells.toList))
  | _, _, .nil => .nil
  | _, _, .cons x v xs vs h t => by
    have := h.flat.append t.flats
    simpa [Vf.flats] using this

theorem run_bslice {w : World} {t : TypeId} {n : Nat} {parts : List AO} {qs : Array (Nat × Operand)} {sz : Nat} (hf : bsliceFits P t n parts qs.toList sz = true) {ev : Operand → Value}
    (hc : ∀ q ∈ qs.toList, (ev q.2).cells.size = sz) : ∃ e, (Instr.buildSlice t n (qs.map fun (i, x) => (i, ev x))).run P w =
      .ok (.slice (some ⟨w.heap.size, 0, none⟩) n n) { w with heap := w.heap.push (.cells ((qs.toList.map fun q => ev q.2).flatMap (·.cells.toList)).toArray e) } := by
  unfold bsliceFits at hf
  split at hf
  · rename_i e hu
    split at hf
    · rename_i ie hie
      simp only [Bool.and_eq_true] at hf
      obtain ⟨⟨⟨⟨⟨h1, h2⟩, h3⟩, h4⟩, h5⟩, h6⟩ := hf
      have e1 := Nat.eq_of_beq_eq_true h1
      have e3 := Nat.eq_of_beq_eq_true h3
      have e4 := Nat.le_of_ble_eq_true h4
      have e5 := Nat.le_of_ble_eq_true h5
      obtain ⟨z, hz⟩ := Option.isSome_iff_exists.1 h2
      obtain ⟨_, e6⟩ := fitElems_L h6
      subst e1
      refine ⟨e, ?_⟩
      have hql : (qs.toList.map fun q => ev q.2).length = n := by simp [← e3] at e6 ⊢; exact e6
      by_cases hn : n = 0
      · have hq : qs = #[] := by
          apply Array.ext'
          exact List.eq_nil_of_length_eq_zero (by simpa [hn] using hql)
        subst hq
        subst hn
        unfold Instr.buildSlice
        rw [run_bind_ok (run_underlying hu)]
        dsimp only
        rw [run_bind_ok (run_sizeOf hie)]
        simp [Instr.fill, newRow, newObj, Sem.run, Array.range_zero']
      · have hpos : ¬ n * ie.size = 0 := by
          intro h0
          rcases Nat.mul_eq_zero.1 h0 with h | h <;> omega
        refine run_buildSlice w t e n _ _ ie z hu hie hz (by simp; omega) hpos ?_
        have := fill_row ie.size (qs.toList.map fun q => ev q.2) 0 [] ((Array.range (n * ie.size)).map (z.cells[· % z.cells.size]!)).toList (by simp) (by
          intro v hv
          simp only [List.mem_map] at hv
          obtain ⟨q, hq, rfl⟩ := hv
          exact hc q hq) (by rw [hql]; simp)
        rw [hql] at this
        have e7 : ((Array.range (n * ie.size)).map (z.cells[· % z.cells.size]!)).toList.drop (n * ie.size) = [] := by
          apply List.drop_of_length_le; simp
        rw [e7, List.append_nil, List.nil_append, List.nil_append, Array.toArray_toList, ← fitElems_zip h6] at this
        rw [← this]
        congr 1
        simp
    · cases hf
  · cases hf

theorem agree_push {w : World} {o : Obj} : Agree (fun _ => False) w { w with heap := w.heap.push o } :=
  ⟨by simp, fun b hb _ => by simp [Array.getElem?_push, Nat.ne_of_lt hb], ⟨rfl, rfl, rfl⟩⟩

theorem bytesOf_ok {w : World} {B : Nat → Prop} {α : Type} : ∀ {xs : List AV} {vs : List Value} {K : List UInt8 → Option α} {r : α}, RelL w B xs vs → bytesOf xs K = some r →
    ∃ bs, K bs = some r ∧ bs.length = xs.length ∧ vs = bs.map fun b => Value.int .u8 b.toNat
  | _, _, K, r, .nil, h => ⟨[], h, rfl, rfl⟩
  | _, _, K, r, .cons x v xs vs hx t, h => by
    simp only [bytesOf] at h
    cases x <;> simp only [asI, reduceCtorEq] at h
    rename_i k n
    cases hk : decide (k = IntKind.u8)
    · simp [hk] at h
    simp only [hk, cond_true, byteOf] at h
    obtain ⟨h1, h2⟩ := need_some h
    simp only [Bool.and_eq_true, decide_eq_true_eq] at h1 hk
    obtain ⟨bs, g1, g2, g3⟩ := bytesOf_ok t h2
    refine ⟨_, g1, by simp [g2], ?_⟩
    cases hx
    subst hk
    simp only [List.map_cons, g3]
    congr 2
    simp only [UInt8.toNat_ofNat']
    omega

/-- A row that was just made, as a value. -/
theorem rowOf_ok {w : World} {B : Nat → Prop} {α : Type} {by_ : Bool} {sz : Nat} {xs : List AV} {vs : List Value} {K : AV → Option α} {r : α} (hr : RelL w B xs vs) (h : rowOf by_ sz xs K = some r) (hsz : by_ = true → sz = 1) :
    ∃ v, K v = some r ∧ (∀ q ∈ vs, q.cells.size = sz) ∧ (∀ w' b, Agree B w w' → b < w'.heap.size → ¬ B b → (∀ j y, (vs.flatMap (·.cells.toList))[j]? = some y → w'.cell? ⟨b, 0 + j, none⟩ = some y) → Rel w' B v (.slice (some ⟨b, 0, none⟩) xs.length xs.length)) ∧
      (match v with | .bytes s => by_ = true ∧ s.length = xs.length ∧ vs = s.map fun b => Value.int .u8 b.toNat | .row z ys => by_ = false ∧ z = sz ∧ ys = xs ∧ (∀ x ∈ xs, x.flat.length = sz) ∧ (flats xs).all AV.one = true | _ => False) := by
  unfold rowOf at h
  cases by_
  · simp only [cond_false] at h
    obtain ⟨h1, h2⟩ := need_some h
    have hz : ∀ x ∈ xs, x.flat.length = sz := fun x hx => Nat.eq_of_beq_eq_true ((Bool.and_eq_true _ _).mp (List.all_eq_true.1 h1 x hx)).1
    have ho : (flats xs).all AV.one = true := by
      rw [List.all_eq_true]; intro y hy
      simp only [flats, List.mem_flatMap] at hy
      obtain ⟨x, hx, hy⟩ := hy
      exact List.all_eq_true.1 ((Bool.and_eq_true _ _).mp (List.all_eq_true.1 h1 x hx)).2 y hy
    refine ⟨_, h2, ?_, ?_, rfl, rfl, rfl, hz, ho⟩
    · intro q hq
      obtain ⟨i, hi, rfl⟩ := List.getElem_of_mem hq
      have hi' : i < xs.length := by rw [hr.length]; exact hi
      obtain ⟨v, hv, hv'⟩ := hr.get (List.getElem?_eq_getElem hi')
      have : vs[i] = v := by rw [List.getElem?_eq_getElem hi] at hv; simpa using hv
      rw [this, ← hz _ (List.getElem_mem hi'), hv'.flat.length]; simp
    · intro w' b hA hb hB hc
      exact .row sz xs _ b 0 xs.length hb hB (Nat.le_refl _) hz (hr.flats.ones ho) (hr.flats.mono hA fun _ _ h => h) hc
  · simp only [cond_true] at h
    obtain ⟨bs, g1, g2, g3⟩ := bytesOf_ok hr h
    have e1 := hsz rfl
    subst e1
    refine ⟨_, g1, ?_, ?_, rfl, g2, g3⟩
    · intro q hq
      rw [g3] at hq
      simp only [List.mem_map] at hq
      obtain ⟨b, _, rfl⟩ := hq
      rfl
    · intro w' b hA hb hB hc
      rw [← g2]
      refine .bytes bs b 0 bs.length hb hB (Nat.le_refl _) fun j x hj => hc j _ ?_
      rw [g3]
      have : (bs.map fun b => Value.int .u8 (b.toNat : Int)).flatMap (·.cells.toList) = bs.map fun b => Value.int .u8 (b.toNat : Int) := by
        clear hj g1 g2 g3 h hc
        induction bs with
        | nil => rfl
        | cons b bs ih => simp only [List.map_cons, List.flatMap_cons, ih]; rfl
      rw [this]
      simp [hj]

theorem bslice_ok {parts : List AO} {sz : Nat} {by_ : Bool} (hI : Inv C ρ st a.tmps w) (h : step C.G R (.bslice parts sz by_) st (fun s st' => some (s, st')) = some (s, st')) {t : TypeId} {n : Nat} {qs : Array (Nat × Operand)}
    (ho : oper.op = .buildSlice t n qs) (ht : bsliceFits P t n parts qs.toList sz = true) (hsz : by_ = true → sz = 1) : Good P C oper a w s st' := by
  have ht' := ht
  unfold bsliceFits at ht'
  split at ht'
  · split at ht'
    · simp only [Bool.and_eq_true] at ht'
      obtain ⟨⟨⟨⟨_, h3⟩, _⟩, _⟩, h6⟩ := ht'
      have e3 := Nat.eq_of_beq_eq_true h3
      obtain ⟨hl, e6⟩ := fitElems_L h6
      simp only [step] at h
      obtain ⟨vs, M', h, hI', hr, hbad, _⟩ := giveL_ok (P := P) hI hl h
      rw [List.map_map] at hr
      obtain ⟨v, h, hc, hrel, _⟩ := rowOf_ok hr h hsz
      simp only [Option.some.injEq, Prod.mk.injEq] at h
      obtain ⟨rfl, rfl⟩ := h
      obtain ⟨e, hrun⟩ := run_bslice (w := w) ht (ev := a.eval) fun q hq => hc _ (List.mem_map.2 ⟨q, hq, rfl⟩)
      have hnn : vs.length = n := by rw [hr.length]; simp [e3, e6]
      refine Does.value (by rw [ex_buildSlice ho]; exact run_v hrun) ⟨ρ, hI'.grow agree_push, .imm _ _ ?_⟩
      rw [← hnn]
      refine hrel _ _ agree_push.none (by simp) ?_ fun j y hj => ?_
      · rintro (hb | ⟨u, bu, ou, cu, g1, g2, g3⟩)
        · have := hI.bo _ hb; omega
        · obtain ⟨b', o', cp', k1, k2, _⟩ := (hI'.mem u bu g1).resolve_right fun hh => by rw [g3] at hh; cases hh.1
          rw [g3] at k1; simp only [Option.some.injEq, Prod.mk.injEq] at k1
          have := k2.lt; omega
      · simp only [World.cell?, Array.getElem?_push_size, Nat.zero_add]
        rw [if_neg (by simp), List.getElem?_toArray]
        exact hj
    · cases ht'
  · cases ht'

end ops

def upd (ρ : Rho) (t : Nat) (x : Option (Nat × Nat × Nat)) : Rho := fun u => if u = t then x else ρ u

theorem get_map {β γ : Type} (f : β → γ) (M : List (Nat × β)) (t : Nat) : get (M.map fun e => (e.1, f e.2)) t = (get M t).map f := by
  induction M with
  | nil => rfl
  | cons e M ih =>
    obtain ⟨a, v⟩ := e
    simp only [List.map_cons, get]
    cases Nat.beq a t
    · simpa using ih
    · rfl
theorem get_killM (M : List (Nat × Blk)) (t u : Nat) : get (killM t M) u = if u = t then none else (get M u).map (Blk.kill t) := by
  unfold killM
  rw [get_map]
  by_cases h : u = t
  · subst h; rw [get_filter_eq]; simp
  · rw [get_filter_ne t u h]; simp [h]
theorem fz_kill (t : Nat) (b : Blk) : (b.kill t).fz = b.fz := by cases b <;> rfl
theorem sz_kill (t : Nat) (b : Blk) : (b.kill t).sz = b.sz := by cases b <;> rfl
theorem count_kill (t : Nat) (b : Blk) : (b.kill t).count = b.count := by cases b <;> rfl
theorem void_kill {t : Nat} {b : Blk} (h : b.void) : (b.kill t).void := by cases b <;> exact h

theorem bad_kill {Bo : Nat → Prop} {ρ : Rho} {M : List (Nat × Blk)} {t : Nat} {X : Option (Nat × Nat × Nat)} (x : Nat) (hx : bad Bo (upd ρ t X) (killM t M) x) : bad Bo ρ M x := by
  rcases hx with hx | ⟨u, blk, o, cp, h1, h2, h3⟩
  · exact .inl hx
  · rw [get_killM] at h1
    by_cases hut : u = t
    · simp [hut] at h1
    · simp only [hut, if_false, Option.map_eq_some_iff] at h1
      obtain ⟨b, hb, rfl⟩ := h1
      simp only [upd, hut, if_false] at h3
      exact .inr ⟨u, b, o, cp, hb, by rw [fz_kill] at h2; exact h2, h3⟩

theorem RelS.kill {w : World} {B B' : Nat → Prop} {ρ : Rho} {M : List (Nat × Blk)} {t : Nat} {X : Option (Nat × Nat × Nat)} {s : SV} {v : Value} (h : RelS w B ρ M s v) (hm : s.ment t = false)
    (hB : ∀ b, b < w.heap.size → B' b → B b) : RelS w B' (upd ρ t X) (killM t M) s v := by
  have key : ∀ {u : Nat} {blk : Blk}, u ≠ t → get M u = some blk → get (killM t M) u = some (blk.kill t) := by
    intro u blk hu hg; rw [get_killM]; simp [hu, hg]
  cases h with
  | imm v x h => exact .imm _ _ (h.mono (Agree.refl _ _) hB)
  | own u off len cap b o cp c blk hm' hr hc hl hn =>
    have hu : u ≠ t := by intro e; subst e; simp [SV.ment] at hm
    have := RelS.own (w := w) (B := B') (ρ := upd ρ t X) (M := killM t M) u off len cap b o cp c (blk.kill t) (key hu hm') (by simp [upd, hu, hr]) hc hl (by rw [count_kill]; exact hn)
    rwa [sz_kill] at this
  | ownNil u cap blk hm' hr =>
    have hu : u ≠ t := by intro e; subst e; simp [SV.ment] at hm
    exact .ownNil u cap _ (key hu hm') (by simp [upd, hu, hr])
  | ptr u i off b o cp blk hm' hr =>
    have hu : u ≠ t := by intro e; subst e; simp [SV.ment] at hm
    have := RelS.ptr (w := w) (B := B') (ρ := upd ρ t X) (M := killM t M) u i off b o cp (blk.kill t) (key hu hm') (by simp [upd, hu, hr])
    rwa [sz_kill] at this
  | rptr cs vs b o hb hn hr hs => exact .rptr cs vs b o hb (fun h => hn (hB b hb h)) (hr.mono (Agree.refl _ _) hB) hs
  | tupO u len rest vs b o cp c blk hm' hr hc hl hn hv =>
    have hu : u ≠ t := by intro e; subst e; simp [SV.ment] at hm
    exact .tupO u len rest vs b o cp c (blk.kill t) (key hu hm') (by simp [upd, hu, hr]) hc hl (by rw [count_kill]; exact hn) (hv.mono (Agree.refl _ _) hB)
  | tupNil u rest vs blk hm' hr hv =>
    have hu : u ≠ t := by intro e; subst e; simp [SV.ment] at hm
    exact .tupNil u rest vs (blk.kill t) (key hu hm') (by simp [upd, hu, hr]) (hv.mono (Agree.refl _ _) hB)
  | mp u b o cp blk hm' hr =>
    have hu : u ≠ t := by intro e; subst e; simp [SV.ment] at hm
    exact .mp u b o cp (blk.kill t) (key hu hm') (by simp [upd, hu, hr])
  | dead v => exact .dead v

theorem RelS.kill' {w : World} {B B' : Nat → Prop} {ρ : Rho} {M : List (Nat × Blk)} {t : Nat} {X : Option (Nat × Nat × Nat)} {s : SV} {v : Value} (h : RelS w B ρ M s v)
    (hB : ∀ b, b < w.heap.size → B' b → B b) : RelS w B' (upd ρ t X) (killM t M) (s.kill t) v := by
  unfold SV.kill
  cases hm : s.ment t
  · exact h.kill hm hB
  · exact .dead v

theorem RelBlk.kill {w : World} {B B' : Nat → Prop} {ρ : Rho} {M : List (Nat × Blk)} {t : Nat} {X : Option (Nat × Nat × Nat)} {b o cp : Nat} {blk : Blk} (h : RelBlk w B ρ M b o cp blk)
    (hB : ∀ b, b < w.heap.size → B' b → B b) : RelBlk w B' (upd ρ t X) (killM t M) b o cp (blk.kill t) := by
  cases blk with
  | bytes s f => exact h
  | row sz xs f => obtain ⟨cells, e, fr, vs, h1, h2, h3, h4, h5, h51, h6, h7⟩ := h; exact ⟨cells, e, fr, vs, h1, h2, h3, h4, h5, h51, h6.mono (Agree.refl _ _) hB, h7⟩
  | box cs =>
    obtain ⟨cells, e, fr, h1, h2, h3, h4⟩ := h
    refine ⟨cells, e, fr, h1, h2, by simpa using h3, fun j s hj => ?_⟩
    simp only [List.getElem?_map, Option.map_eq_some_iff] at hj
    obtain ⟨s', hs', rfl⟩ := hj
    obtain ⟨v, hv, hs⟩ := h4 j s' hs'
    exact ⟨v, hv, hs.kill' hB⟩
  | iter s pos => exact h
  | map es => exact h
  | miter es cur =>
    obtain ⟨h0, bm, since, seen, c0, mes, clock, h1, h2, h3, h4⟩ := h
    exact ⟨h0, bm, since, seen, c0, mes, clock, h1, h2, fun hh => h3 (hB bm h2 hh), h4⟩

/-- A tag is given up. -/
theorem Inv.kill {C : Cx} {ρ : Rho} {st : St} {tm : Array Value} {w : World} (h : Inv C ρ st tm w) (t : Nat) (X : Option (Nat × Nat × Nat)) : Inv C (upd ρ t X) (st.kill t) tm w where
  ext := h.ext
  env := fun n s hn => by
    simp only [St.kill, killE, get_map, Option.map_eq_some_iff] at hn
    obtain ⟨s', hs', rfl⟩ := hn
    exact ⟨(h.env n s' hs').1, (h.env n s' hs').2.kill' fun b _ hb => bad_kill b hb⟩
  mem := fun u blk hu => by
    simp only [St.kill, get_killM] at hu
    by_cases hut : u = t
    · simp [hut] at hu
    · simp only [hut, if_false, Option.map_eq_some_iff] at hu
      obtain ⟨b0, hb0, rfl⟩ := hu
      rcases h.mem u b0 hb0 with ⟨b, o, cp, h1, h2, h3, h4⟩ | ⟨h1, h2⟩
      · exact .inl ⟨b, o, cp, by simp [upd, hut, h1], h2.kill fun b _ hb => bad_kill b hb, h3, fun hf => h4 (by rw [fz_kill] at hf; exact hf)⟩
      · exact .inr ⟨by simp [upd, hut, h1], void_kill h2⟩
  inj := fun u u' blk blk' b1 o1 c1 b2 o2 c2 h1 h2 h3 h4 h5 h6 => by
    simp only [St.kill, get_killM] at h1 h2
    by_cases hut : u = t
    · simp [hut] at h1
    by_cases hut' : u' = t
    · simp [hut'] at h2
    simp only [hut, hut', if_false, Option.map_eq_some_iff] at h1 h2
    obtain ⟨x1, g1, rfl⟩ := h1
    obtain ⟨x2, g2, rfl⟩ := h2
    simp only [upd, hut, hut', if_false] at h5 h6
    exact h.inj u u' x1 x2 b1 o1 c1 b2 o2 c2 g1 g2 (by rw [fz_kill] at h3; exact h3) h4 h5 h6
  glob := h.glob.mono (Agree.refl _ _) fun b _ hb => bad_kill b hb
  bo := h.bo
  pin := fun u blk hu hg => by
    simp only [St.kill, get_killM] at hg
    by_cases hut : u = t
    · simp [hut] at hg
    · simp only [hut, if_false, Option.map_eq_some_iff] at hg
      obtain ⟨b0, hb0, _⟩ := hg
      simp only [upd, hut, if_false]
      exact h.pin u b0 hu hb0

/-- Giving up a tag whose row may still be written: its block stays apart from all. -/
theorem Inv.hold {C : Cx} {ρ : Rho} {st : St} {tm : Array Value} {w : World} (h : Inv C ρ st tm w) {t : Nat} (X : Option (Nat × Nat × Nat)) {blk : Blk} {b o cp : Nat} (hm : get st.M t = some blk) (hf : blk.fz = false) (hr : ρ t = some (b, o, cp)) :
    Inv { C with Bo := fun x => C.Bo x ∨ x = b } (upd ρ t X) (st.kill t) tm w := by
  have hb : ∀ x, bad (fun x => C.Bo x ∨ x = b) (upd ρ t X) (killM t st.M) x → bad C.Bo ρ st.M x := by
    rintro x ((hx | hx) | ⟨u, bu, ou, cu, g1, g2, g3⟩)
    · exact .inl hx
    · subst hx; exact .inr ⟨t, blk, o, cp, hm, hf, hr⟩
    · exact bad_kill x (.inr ⟨u, bu, ou, cu, g1, g2, g3⟩)
  have hlt : b < w.heap.size := by
    obtain ⟨b', o', cp', k1, k2, _⟩ := (h.mem t blk hm).resolve_right fun hh => by rw [hr] at hh; cases hh.1
    rw [hr] at k1; simp only [Option.some.injEq, Prod.mk.injEq] at k1
    have := k2.lt; omega
  refine ⟨h.ext, ?_, ?_, (h.kill t X).inj, ?_, ?_, (h.kill t X).pin⟩
  · intro n s hn
    simp only [St.kill, killE, get_map, Option.map_eq_some_iff] at hn
    obtain ⟨s', hs', rfl⟩ := hn
    exact ⟨(h.env n s' hs').1, (h.env n s' hs').2.kill' fun b _ hx => hb b hx⟩
  · intro u blk' hu
    simp only [St.kill, get_killM] at hu
    by_cases hut : u = t
    · simp [hut] at hu
    · simp only [hut, if_false, Option.map_eq_some_iff] at hu
      obtain ⟨b0, hb0, rfl⟩ := hu
      rcases h.mem u b0 hb0 with ⟨b1, o1, cp1, h1, h2, h3, h4⟩ | ⟨h1, h2⟩
      · refine .inl ⟨b1, o1, cp1, by simp [upd, hut, h1], h2.kill fun b _ hx => hb b hx, ?_, fun hf => h4 (by rw [fz_kill] at hf; exact hf)⟩
        rintro (hx | hx)
        · exact h3 hx
        · exact h.inj t u blk b0 b o cp b1 o1 cp1 hm hb0 hf (fun e => hut e.symm) hr h1 hx.symm
      · exact .inr ⟨by simp [upd, hut, h1], void_kill h2⟩
  · exact h.glob.mono (Agree.refl _ _) fun x _ hx => hb x hx
  · rintro x (hx | hx)
    · exact h.bo x hx
    · omega

theorem pin_cons {M : List (Nat × Blk)} {ρ ρ0 : Rho} {t : Nat} {b0 : Blk} (ht : t < rT) (h : ∀ t blk, rT ≤ t → get M t = some blk → ρ t = ρ0 t) : ∀ u blk, rT ≤ u → get ((t, b0) :: M) u = some blk → ρ u = ρ0 u := by
  intro u blk hu hg
  rw [get_cons] at hg
  by_cases hut : u = t
  · omega
  · simp only [hut, if_false] at hg; exact h u blk hu hg

/-- A row of one's own, in a block that nobody else holds. -/
theorem Inv.own {C : Cx} {ρ : Rho} {st : St} {tm : Array Value} {w w' : World} {b : Nat} (h : Inv { C with Bo := fun x => C.Bo x ∨ x = b } ρ st tm w) {t : Nat} {blk : Blk} {o cp : Nat} (ht : t < rT) (hm : get st.M t = none) (hρ : ρ t = some (b, o, cp))
    (hA : Agree (fun x => x = b) w w') (hb : C.w0.heap.size ≤ b ∨ C.W b) (hnb : ¬ C.Bo b)
    (hblk : RelBlk w' (bad C.Bo ρ ((t, blk) :: st.M)) ρ ((t, blk) :: st.M) b o cp blk) : Inv C ρ (st.withM ((t, blk) :: st.M)) tm w' := by
  have hsh : SameShape st.M ((t, blk) :: st.M) := by
    intro u x hu
    have : u ≠ t := by intro e; subst e; rw [hm] at hu; cases hu
    exact ⟨x, by rw [get_cons]; simp [this, hu], rfl, rfl⟩
  have hbad : ∀ x, bad C.Bo ρ ((t, blk) :: st.M) x → bad (fun x => C.Bo x ∨ x = b) ρ st.M x := by
    rintro x (hx | ⟨u, bu, ou, cu, g1, g2, g3⟩)
    · exact .inl (.inl hx)
    · rw [get_cons] at g1
      by_cases hut : u = t
      · subst hut; rw [hρ] at g3; simp only [Option.some.injEq, Prod.mk.injEq] at g3; exact .inl (.inr g3.1.symm)
      · simp only [hut, if_false] at g1; exact .inr ⟨u, bu, ou, cu, g1, g2, g3⟩
  have hA' : Agree (bad (fun x => C.Bo x ∨ x = b) ρ st.M) w w' := hA.mono fun x _ hx => .inl (.inr hx)
  have hne : ∀ u bu b1 o1 c1, get st.M u = some bu → ρ u = some (b1, o1, c1) → b1 ≠ b := by
    intro u bu b1 o1 c1 g1 g2 e
    obtain ⟨b2, o2, c2, k1, k2, k3, k4⟩ := (h.mem u bu g1).resolve_right fun hh => by rw [g2] at hh; cases hh.1
    rw [g2] at k1; simp only [Option.some.injEq, Prod.mk.injEq] at k1
    exact k3 (.inr (by rw [← k1.1, e]))
  refine ⟨?_, ?_, ?_, ?_, ?_, ?_, pin_cons ht h.pin⟩
  · refine ⟨Nat.le_trans h.ext.1 hA.1, fun x hx hn => ?_, hA.3.1.trans h.ext.3.1, hA.3.2.1.trans h.ext.3.2.1, hA.3.2.2.trans h.ext.3.2.2⟩
    rw [hA.2 x (Nat.lt_of_lt_of_le hx h.ext.1) (by
      rintro rfl
      rcases hb with hb | hb
      · omega
      · exact hn hb)]
    exact h.ext.2 x hx hn
  · intro n s hn
    exact ⟨(h.env n s hn).1, ((h.env n s hn).2.mono hA' fun x _ hx => hbad x hx).shape hsh⟩
  · intro u x hu
    simp only [St.withM, get_cons] at hu
    by_cases hut : u = t
    · simp only [hut, if_true, Option.some.injEq] at hu
      subst hu; subst hut
      exact .inl ⟨b, o, cp, hρ, hblk, hnb, fun _ => hb⟩
    · simp only [hut, if_false] at hu
      rcases h.mem u x hu with ⟨b1, o1, cp1, h1, h2, h3, h4⟩ | h1
      · refine .inl ⟨b1, o1, cp1, h1, (h2.mono hA' (fun x _ hx => hbad x hx) (hA.2 b1 h2.lt (hne u x b1 o1 cp1 hu h1))).shape hsh, fun hx => h3 (.inl hx), h4⟩
      · exact .inr h1
  · intro u u' x x' b1 o1 c1 b2 o2 c2 h1 h2 h3 h4 h5 h6
    simp only [St.withM, get_cons] at h1 h2
    by_cases hut : u = t
    · subst hut
      have hut' : u' ≠ u := fun e => h4 e.symm
      simp only [hut', if_false] at h2
      rw [hρ] at h5; simp only [Option.some.injEq, Prod.mk.injEq] at h5
      have := hne u' x' b2 o2 c2 h2 h6
      rw [← h5.1]; exact fun e => this e.symm
    · simp only [hut, if_false] at h1
      by_cases hut' : u' = t
      · subst hut'
        rw [hρ] at h6; simp only [Option.some.injEq, Prod.mk.injEq] at h6
        rw [← h6.1]; exact hne u x b1 o1 c1 h1 h5
      · simp only [hut', if_false] at h2
        exact h.inj u u' x x' b1 o1 c1 b2 o2 c2 h1 h2 h3 h4 h5 h6
  · exact h.glob.mono hA' fun x _ hx => hbad x hx
  · exact fun x hx => Nat.lt_of_lt_of_le (h.bo x (.inl hx)) hA.1

/-- New memory of one's own. -/
theorem Inv.fresh {C : Cx} {ρ : Rho} {st : St} {tm : Array Value} {w w' : World} (h : Inv C ρ st tm w) {t : Nat} {blk : Blk} {o cp b : Nat} (ht : t < rT) (hm : get st.M t = none) (hρ : ρ t = some (b, o, cp))
    (hA : Agree (fun _ => False) w w') (hb : w.heap.size ≤ b) 
    (hblk : RelBlk w' (bad C.Bo ρ ((t, blk) :: st.M)) ρ ((t, blk) :: st.M) b o cp blk) : Inv C ρ (st.withM ((t, blk) :: st.M)) tm w' := by
  have hsh : SameShape st.M ((t, blk) :: st.M) := by
    intro u x hu
    have : u ≠ t := by intro e; subst e; rw [hm] at hu; cases hu
    exact ⟨x, by rw [get_cons]; simp [this, hu], rfl, rfl⟩
  have hbad : ∀ x, x < w.heap.size → bad C.Bo ρ ((t, blk) :: st.M) x → bad C.Bo ρ st.M x := by
    rintro x hlt (hx | ⟨u, bu, ou, cu, g1, g2, g3⟩)
    · exact .inl hx
    · rw [get_cons] at g1
      by_cases hut : u = t
      · subst hut; rw [hρ] at g3; simp only [Option.some.injEq, Prod.mk.injEq] at g3; omega
      · simp only [hut, if_false] at g1; exact .inr ⟨u, bu, ou, cu, g1, g2, g3⟩
  have hlt : ∀ u bu b1 o1 c1, get st.M u = some bu → ρ u = some (b1, o1, c1) → b1 < w.heap.size := by
    intro u bu b1 o1 c1 g1 g2
    obtain ⟨b2, o2, c2, k1, k2, k3, k4⟩ := (h.mem u bu g1).resolve_right fun hh => by rw [g2] at hh; cases hh.1
    rw [g2] at k1; simp only [Option.some.injEq, Prod.mk.injEq] at k1
    have := k2.lt; omega
  refine ⟨h.ext.trans hA.none, ?_, ?_, ?_, ?_, ?_, pin_cons ht h.pin⟩
  · intro n s hn
    exact ⟨(h.env n s hn).1, ((h.env n s hn).2.mono hA.none hbad).shape hsh⟩
  · intro u x hu
    simp only [St.withM, get_cons] at hu
    by_cases hut : u = t
    · simp only [hut, if_true, Option.some.injEq] at hu
      subst hu; subst hut
      exact .inl ⟨b, o, cp, hρ, hblk, fun hx => by have := h.bo b hx; omega, fun _ => .inl (Nat.le_trans h.ext.1 hb)⟩
    · simp only [hut, if_false] at hu
      rcases h.mem u x hu with ⟨b1, o1, cp1, h1, h2, h3, h4⟩ | h1
      · exact .inl ⟨b1, o1, cp1, h1, (h2.mono hA.none hbad (hA.2 b1 h2.lt (fun h => h))).shape hsh, h3, h4⟩
      · exact .inr h1
  · intro u u' x x' b1 o1 c1 b2 o2 c2 h1 h2 h3 h4 h5 h6
    simp only [St.withM, get_cons] at h1 h2
    by_cases hut : u = t
    · subst hut
      have hut' : u' ≠ u := fun e => h4 e.symm
      simp only [hut', if_false] at h2
      rw [hρ] at h5; simp only [Option.some.injEq, Prod.mk.injEq] at h5
      have := hlt u' x' b2 o2 c2 h2 h6
      omega
    · simp only [hut, if_false] at h1
      by_cases hut' : u' = t
      · subst hut'
        rw [hρ] at h6; simp only [Option.some.injEq, Prod.mk.injEq] at h6
        have := hlt u x b1 o1 c1 h1 h5
        omega
      · simp only [hut', if_false] at h2
        exact h.inj u u' x x' b1 o1 c1 b2 o2 c2 h1 h2 h3 h4 h5 h6
  · exact h.glob.mono hA.none hbad
  · exact fun x hx => Nat.lt_of_lt_of_le (h.bo x hx) hA.1

/-- A row without memory. -/
theorem Inv.virt {C : Cx} {ρ : Rho} {st : St} {tm : Array Value} {w : World} (h : Inv C ρ st tm w) {t : Nat} {blk : Blk} (ht : t < rT) (hm : get st.M t = none) (hρ : ρ t = none) (hv : blk.void) : Inv C ρ (st.withM ((t, blk) :: st.M)) tm w := by
  have hsh : SameShape st.M ((t, blk) :: st.M) := by
    intro u x hu
    have : u ≠ t := by intro e; subst e; rw [hm] at hu; cases hu
    exact ⟨x, by rw [get_cons]; simp [this, hu], rfl, rfl⟩
  have hbad : ∀ x, bad C.Bo ρ ((t, blk) :: st.M) x → bad C.Bo ρ st.M x := by
    rintro x (hx | ⟨u, bu, ou, cu, g1, g2, g3⟩)
    · exact .inl hx
    · rw [get_cons] at g1
      by_cases hut : u = t
      · subst hut; rw [hρ] at g3; cases g3
      · simp only [hut, if_false] at g1; exact .inr ⟨u, bu, ou, cu, g1, g2, g3⟩
  refine ⟨h.ext, ?_, ?_, ?_, h.glob.mono (Agree.refl _ _) fun x _ hx => hbad x hx, h.bo, pin_cons ht h.pin⟩
  · intro n s hn
    exact ⟨(h.env n s hn).1, ((h.env n s hn).2.mono (Agree.refl _ _) fun x _ hx => hbad x hx).shape hsh⟩
  · intro u x hu
    simp only [St.withM, get_cons] at hu
    by_cases hut : u = t
    · simp only [hut, if_true, Option.some.injEq] at hu
      subst hu; subst hut
      exact .inr ⟨hρ, hv⟩
    · simp only [hut, if_false] at hu
      rcases h.mem u x hu with ⟨b1, o1, cp1, h1, h2, h3, h4⟩ | h1
      · exact .inl ⟨b1, o1, cp1, h1, (h2.mono (Agree.refl _ _) (fun x _ hx => hbad x hx) rfl).shape hsh, h3, h4⟩
      · exact .inr h1
  · intro u u' x x' b1 o1 c1 b2 o2 c2 h1 h2 h3 h4 h5 h6
    simp only [St.withM, get_cons] at h1 h2
    by_cases hut : u = t
    · subst hut; rw [hρ] at h5; cases h5
    · by_cases hut' : u' = t
      · subst hut'; rw [hρ] at h6; cases h6
      · simp only [hut, hut', if_false] at h1 h2
        exact h.inj u u' x x' b1 o1 c1 b2 o2 c2 h1 h2 h3 h4 h5 h6

def setBlk (w : World) (b : Nat) (o : Obj) : World := { w with heap := w.heap.setIfInBounds b o }

theorem agree_setBlk {w : World} {b : Nat} {o : Obj} : Agree (fun x => x = b) w (setBlk w b o) :=
  ⟨by simp [setBlk], fun x hx hn => by simp only [setBlk]; rw [Array.getElem?_setIfInBounds, if_neg fun e => hn e.symm], ⟨rfl, rfl, rfl⟩⟩

theorem heap_setBlk {w : World} {b : Nat} {o : Obj} (h : b < w.heap.size) : (setBlk w b o).heap[b]? = some o := by simp [setBlk, h]

theorem run_store1 {P : Program} {w : World} {b o : Nat} {cells : Array Value} {e : TypeId} {fr : Nat × Nat} (hh : w.heap[b]? = some (.cells cells e fr)) (hf : Free cells.size fr) (ho : o < cells.size) {v : Value} (hv : v.oneCell' = true) :
    (store ⟨b, o, none⟩ v).run P w = .ok () (setBlk w b (.cells (cells.setIfInBounds o v) e fr)) := by
  have hc : w.cell? ⟨b, o, none⟩ = some cells[o] := by rw [cell_of hh]; simp [ho]
  have hz : w.frozen? ⟨b, o, none⟩ = false := by
    obtain ⟨lo, hi⟩ := fr
    simp only [World.frozen?, hh]
    exact hf.at ho
  rw [run_store P w _ v _ hv, hc]
  simp only [hz, Bool.false_eq_true, if_false]
  congr 1
  simp only [World.setCell, setBlk]
  congr 1
  apply Array.ext_getElem?
  intro k
  rw [Array.getElem?_modify, Array.getElem?_setIfInBounds]
  by_cases hk : b = k
  · subst hk
    rw [if_pos rfl, if_pos rfl, if_pos (lt_of_get hh), hh]; rfl
  · simp [hk]

theorem run_storeCells_free {P : Program} {b o : Nat} {e : TypeId} {fr : Nat × Nat} : ∀ {vs : List Value} {i : Nat} {w : World} {cells : List Value}, w.heap[b]? = some (.cells cells.toArray e fr) → Free cells.length fr → o + i + vs.length ≤ cells.length →
    (∀ v ∈ vs, v.oneCell' = true) → (storeCells ⟨b, o, none⟩ vs i).run P w = .ok () (setBlk w b (.cells (putCells cells (o + i) vs).toArray e fr))
  | [], i, w, cells, hh, hf, hl, h1 => by
    show Result.ok () w = _
    congr 1
    have : putCells cells (o + i) ([] : List Value) = cells := by simp [putCells]
    rw [this]
    unfold setBlk
    have : w.heap.setIfInBounds b (.cells cells.toArray e fr) = w.heap := by
      apply Array.ext_getElem?
      intro k
      rw [Array.getElem?_setIfInBounds]
      by_cases hk : b = k
      · subst hk; rw [if_pos rfl, if_pos (lt_of_get hh), hh]
      · simp [hk]
    rw [this]
  | v :: vs, i, w, cells, hh, hf, hl, h1 => by
    simp only [List.length_cons] at hl
    have hs := run_store1 (P := P) (w := w) (o := o + i) (v := v) hh (by simpa using hf) (by simp; omega) (h1 v (by simp))
    show ((store ((⟨b, o, none⟩ : Addr).add i) v) >>= fun _ => storeCells ⟨b, o, none⟩ vs (i + 1)).run P w = _
    rw [Addr.add_mk, run_bind_ok hs]
    have hh' : (setBlk w b (.cells (cells.toArray.setIfInBounds (o + i) v) e fr)).heap[b]? = some (.cells (cells.set (o + i) v).toArray e fr) := by
      rw [heap_setBlk (lt_of_get hh)]; simp
    rw [run_storeCells_free hh' (by simpa using hf) (by simp; omega) fun u hu => h1 u (by simp [hu])]
    congr 1
    simp only [setBlk, Array.setIfInBounds_setIfInBounds]
    congr 4
    have hlt : o + i < cells.length := by omega
    simp only [putCells, List.length_cons]
    rw [show o + (i + 1) = o + i + 1 by omega, List.take_set, List.drop_set_of_lt (by omega), List.take_succ_eq_append_getElem hlt]
    rw [List.set_append_right _ _ (by rw [List.length_take]; omega), List.length_take, Nat.min_eq_left (by omega)]
    simp [show o + i + 1 + vs.length = o + i + (vs.length + 1) by omega]

/-- What is appended, as the machine reads it. -/
def Appended (P : Program) (w : World) (size n : Nat) (x : Value) (news : List Value) : Prop :=
  (Builtin.lenOf x).run P w = .ok n w ∧ ∀ w', w'.heap = w.heap → (Builtin.firstCells size n x).run P w' = .ok news.toArray w'

theorem run_app_room {P : Program} {w : World} {t u ty e : TypeId} {i : TypeInfo} (ht : P.underlying t = some (.slice e)) (hi : P.info? e = some i) {d : TypeDesc} (hu : P.underlying u = some d) (hd : ∀ k, d ≠ .int k)
    {b o sLen sCap n : Nat} {x : Value} {news : List Value} (hx : Appended P w i.size n x news) (hroom : sLen + n ≤ sCap) {cells : List Value} {e' : TypeId} {fr : Nat × Nat}
    (hh : w.heap[b]? = some (.cells cells.toArray e' fr)) (hf : Free cells.length fr) (hl : o + sLen * i.size + news.length ≤ cells.length) (h1 : ∀ v ∈ news, v.oneCell' = true) :
    (Builtin.append_ #[t, u] ty #[.slice (some ⟨b, o, none⟩) sLen sCap, x]).run P w = .ok (.slice (some ⟨b, o, none⟩) (sLen + n) sCap) (setBlk w b (.cells (putCells cells (o + sLen * i.size) news).toArray e' fr)) := by
  have hst := run_storeCells_free (P := P) (o := o + sLen * i.size) (i := 0) hh hf (by omega) h1
  have hm : (match d with | .int _ => true | _ => false) = false := by cases d <;> first | rfl | exact absurd rfl (hd _)
  simp only [Nat.add_zero] at hst
  simp only [Builtin.append_]
  simp [run_underlying ht, run_underlying hu, run_sizeOf hi, hx.1, hx.2 w rfl, hroom, Addr.add_mk, hst, Result.andThen]

theorem run_app_grow {P : Program} {w : World} {t u ty e : TypeId} {i : TypeInfo} {z : Value} (ht : P.underlying t = some (.slice e)) (hi : P.info? e = some i) (hz : i.zero = some z) {d : TypeDesc} (hu : P.underlying u = some d) (hd : ∀ k, d ≠ .int k)
    {p : Option Addr} {sLen sCap n : Nat} {x : Value} {olds news : List Value} (hx : Appended P w i.size n x news) (ho : ∀ w', w'.heap = w.heap → (Builtin.firstCells i.size sLen (.slice p sLen sCap)).run P w' = .ok olds.toArray w')
    (hroom : sCap < sLen + n) (hfit : Builtin.nextslicecap (sLen + n) sCap * i.bytes ≤ 281474976710656) (h63 : ((sLen + n : Nat) : Int) ≤ 9223372036854775807) :
    (Builtin.append_ #[t, u] ty #[.slice p sLen sCap, x]).run P w = .ok (.slice (some ⟨w.heap.size, 0, none⟩) (sLen + n) (grownCap w (sLen + n) sCap e))
      (w.drew.alloc (.cells (olds.toArray ++ news.toArray ++ Builtin.zeroCells z.cells (grownCap w (sLen + n) sCap e - (sLen + n))) e)) := by
  have hn : ¬ (sLen + n ≤ sCap) := by omega
  have h63' : ¬ (9223372036854775807 < ((sLen : Int) + (n : Int))) := by omega
  have h48' : ¬ (281474976710656 < Builtin.nextslicecap (sLen + n) sCap * i.bytes) := by omega
  have hm : (match d with | .int _ => true | _ => false) = false := by cases d <;> first | rfl | exact absurd rfl (hd _)
  simp only [Builtin.append_]
  simp [run_underlying ht, run_underlying hu, run_sizeOf hi, run_typeInfo hi, zeroValue, hz, hx.1, hx.2 w.drew rfl, ho w.drew rfl, hn, h63', h48', Question.forced, newRow, grownCap, Result.andThen]
  congr 2
  apply Array.ext'
  simp [List.append_assoc]

/-- A row's cells as the machine holds them. -/
def CR (w : World) (B : Nat → Prop) (sz : Nat) : AV → List Value → Prop
  | .bytes s, vs => sz = 1 ∧ vs = s.map fun b => Value.int .u8 b.toNat
  | .row z xs, vs => z = sz ∧ (∀ x ∈ xs, x.flat.length = sz) ∧ (∀ v ∈ vs, v.oneCell' = true) ∧ RelL w B (flats xs) vs
  | _, _ => False
def AV.count : AV → Nat
  | .bytes s => s.length
  | .row _ xs => xs.length
  | _ => 0
/-- The row of its own that a value becomes. -/
def AV.blk (sz : Nat) : AV → Blk
  | .bytes s => .bytes s false
  | .row _ xs => .row sz xs false
  | _ => .box []

theorem CR.mono {w w' : World} {B B' : Nat → Prop} (hA : Agree B w w') (hB : ∀ b, b < w.heap.size → B' b → B b) {sz : Nat} {v : AV} {vs : List Value} (h : CR w B sz v vs) : CR w' B' sz v vs := by
  cases v <;> first | exact h | skip
  obtain ⟨h1, h2, h3, h4⟩ := h
  exact ⟨h1, h2, h3, h4.mono hA hB⟩
theorem CR.len {w : World} {B : Nat → Prop} {sz : Nat} {v : AV} {vs : List Value} (h : CR w B sz v vs) : vs.length = v.count * sz := by
  cases v <;> first | exact h.elim | skip
  · obtain ⟨rfl, rfl⟩ := h; simp [AV.count]
  · obtain ⟨rfl, h2, h3, h4⟩ := h; rw [← h4.length, flats_length _ _ h2]; rfl
theorem CR.ones {w : World} {B : Nat → Prop} {sz : Nat} {v : AV} {vs : List Value} (h : CR w B sz v vs) : ∀ u ∈ vs, u.oneCell' = true := by
  cases v <;> first | exact h.elim | skip
  · obtain ⟨rfl, rfl⟩ := h
    intro u hu
    simp only [List.mem_map] at hu
    obtain ⟨b, _, rfl⟩ := hu; rfl
  · exact h.2.2.1
theorem CR.appB {w : World} {B : Nat → Prop} {sz : Nat} {a c : List UInt8} {vs us : List Value} (h : CR w B sz (.bytes a) vs) (h' : CR w B sz (.bytes c) us) : CR w B sz (.bytes (a ++ c)) (vs ++ us) := by
  obtain ⟨rfl, rfl⟩ := h; obtain ⟨_, rfl⟩ := h'; exact ⟨rfl, by simp⟩
theorem CR.appR {w : World} {B : Nat → Prop} {sz z y : Nat} {a c : List AV} {vs us : List Value} (h : CR w B sz (.row z a) vs) (h' : CR w B sz (.row y c) us) : CR w B sz (.row sz (a ++ c)) (vs ++ us) := by
  obtain ⟨rfl, h2, h3, h4⟩ := h; obtain ⟨rfl, g2, g3, g4⟩ := h'
  refine ⟨rfl, ?_, ?_, ?_⟩
  · intro x hx; rcases List.mem_append.1 hx with hx | hx
    · exact h2 x hx
    · exact g2 x hx
  · intro x hx; rcases List.mem_append.1 hx with hx | hx
    · exact h3 x hx
    · exact g3 x hx
  · simpa [flats] using h4.append g4

theorem CR.u8 {w : World} {B : Nat → Prop} {sz : Nat} {s : List UInt8} {vs : List Value} (h : CR w B sz (.bytes s) vs) {j : Nat} (hj : j < vs.length) : ∃ x : UInt8, vs[j]? = some (.int .u8 x.toNat) := by
  obtain ⟨_, rfl⟩ := h
  rw [List.length_map] at hj
  exact ⟨s[j], by rw [List.getElem?_map, List.getElem?_eq_getElem hj]; rfl⟩

/-- A block that holds a row's cells. -/
theorem RelBlk.of {w : World} {B : Nat → Prop} {ρ : Rho} {M : List (Nat × Blk)} {b o cp sz : Nat} {v : AV} {vs : List Value} (h : CR w B sz v vs) {cells : Array Value} {e : TypeId} {fr : Nat × Nat}
    (hh : w.heap[b]? = some (.cells cells e fr)) (hf : Free cells.size fr) (hc : v.count ≤ cp) (ho : o + cp * sz ≤ cells.size) (hs : ∀ j (u : Value), vs[j]? = some u → cells[o + j]? = some u) (h8 : ∀ s, v = .bytes s → Bytes8 cells o cp) : RelBlk w B ρ M b o cp (v.blk sz) := by
  cases v <;> first | exact h.elim | skip
  · obtain ⟨rfl, rfl⟩ := h
    exact ⟨cells, e, fr, hh, hf, hc, by omega, fun j x hj => hs j _ (by simp [hj]), h8 _ rfl⟩
  · obtain ⟨rfl, h2, h3, h4⟩ := h
    exact ⟨cells, e, fr, vs, hh, hf, hc, ho, h2, h3, h4, hs⟩

/-- A part of a row of one's own. -/
theorem RelBlk.cr {w : World} {B : Nat → Prop} {ρ : Rho} {M : List (Nat × Blk)} {b o cp off len : Nat} {blk : Blk} {v : AV} (h : RelBlk w B ρ M b o cp blk) (hv : blk.cut off len = some v) (hn : off + len ≤ blk.count) :
    ∃ cells e fr vs, w.heap[b]? = some (.cells cells e fr) ∧ Free cells.size fr ∧ o + cp * blk.sz ≤ cells.size ∧ CR w B blk.sz v vs ∧ v.count = len ∧ (∀ j (u : Value), vs[j]? = some u → cells[o + off * blk.sz + j]? = some u) ∧ ∀ s, v = .bytes s → Bytes8 cells o cp ∧ blk.sz = 1 := by
  cases blk with
  | bytes s f =>
    simp only [Blk.cut, Option.some.injEq] at hv; subst hv
    obtain ⟨cells, e, fr, k1, k2, k3, k4, k5, k8⟩ := h
    simp only [Blk.count] at hn
    refine ⟨cells, e, fr, _, k1, k2, by simp only [Blk.sz]; omega, ⟨rfl, rfl⟩, by simp [AV.count]; omega, fun j u hj => ?_, fun _ _ => ⟨k8, rfl⟩⟩
    simp only [List.getElem?_map, Option.map_eq_some_iff] at hj
    obtain ⟨x, hx, rfl⟩ := hj
    simp only [Blk.sz, Nat.mul_one, Nat.add_assoc]
    exact k5 _ x (getElem?_drop_take hx)
  | row sz xs f =>
    simp only [Blk.cut, Option.some.injEq] at hv; subst hv
    obtain ⟨cells, e, fr, vs, k1, k2, k3, k4, k5, k51, k6, k7⟩ := h
    simp only [Blk.count] at hn
    have hz'' : ∀ x ∈ xs.drop off, x.flat.length = sz := fun x hx => k5 x (List.mem_of_mem_drop hx)
    refine ⟨cells, e, fr, (vs.drop (off * sz)).take (len * sz), k1, k2, k4, ⟨rfl, fun x hx => k5 x (List.mem_of_mem_drop (List.mem_of_mem_take hx)), fun v hv => k51 v (List.mem_of_mem_drop (List.mem_of_mem_take hv)), ?_⟩, by simp [AV.count]; omega, fun j u hj => ?_, fun _ h => by cases h⟩
    · skip
      rw [flats_take sz _ _ hz'', flats_drop sz _ _ k5]
      exact (k6.drop _).take _
    · simp only [Blk.sz]
      rw [Nat.add_assoc]
      exact k7 _ u (getElem?_drop_take hj)
  | box cs => simp [Blk.cut] at hv
  | iter s pos => simp [Blk.cut] at hv
  | map es => simp [Blk.cut] at hv
  | miter es cur => simp [Blk.cut] at hv

/-- What is appended: a slice that is only read, or a string. -/
theorem appended_ok {P : Program} {w : World} {B : Nat → Prop} {sz : Nat} {v : AV} {x : Value} (h : Rel w B v x) (hv : match v with | .bytes _ => sz = 1 | .row z _ => z = sz | _ => False) :
    ∃ news, CR w B sz v news ∧ Appended P w sz v.count x news := by
  cases h with
  | bnil x cap =>
    subst hv
    refine ⟨[], ⟨rfl, rfl⟩, rfl, fun w' _ => ?_⟩
    cases x with
    | none => rfl
    | some x => exact run_firstCells_some w' 1 0 x _ _ [] (by simp) fun j u hj => by simp at hj
  | rnil z x cap =>
    subst hv
    refine ⟨[], ⟨rfl, by simp, by simp, .nil⟩, rfl, fun w' _ => ?_⟩
    cases x with
    | none => rfl
    | some x => exact run_firstCells_some w' _ 0 x _ _ [] (by simp) fun j u hj => by simp at hj
  | bytes s b o cap hb hB hc hs =>
    subst hv
    refine ⟨_, ⟨rfl, rfl⟩, rfl, fun w' hw' => ?_⟩
    exact run_firstCells_some w' 1 s.length ⟨b, o, none⟩ _ _ _ (by simp) fun j u hj => by
      rw [Addr.add_mk]
      simp only [List.getElem?_map, Option.map_eq_some_iff] at hj
      obtain ⟨y, hy, rfl⟩ := hj
      have := hs j y hy
      simpa [World.cell?, hw'] using this
  | row z xs vs b o cap hb hB hc hz h1 hr hs =>
    subst hv
    refine ⟨vs, ⟨rfl, hz, h1, hr⟩, rfl, fun w' hw' => ?_⟩
    exact run_firstCells_some w' z xs.length ⟨b, o, none⟩ _ _ _ (by rw [← hr.length, flats_length z xs hz]) fun j u hj => by
      rw [Addr.add_mk]
      have := hs j u hj
      simpa [World.cell?, hw'] using this
  | int => exact hv.elim
  | cell => exact hv.elim
  | bool => exact hv.elim
  | str => exact hv.elim
  | agg => exact hv.elim
  | tup => exact hv.elim
  | nilI => exact hv.elim
  | nilR => exact hv.elim
  | lent => exact hv.elim
  | fn => exact hv.elim

theorem appendedS_ok {P : Program} {w : World} {B : Nat → Prop} {s : List UInt8} {x : Value} (h : Rel w B (.str s) x) : ∃ news, CR w B 1 (.bytes s) news ∧ Appended P w 1 s.length x news := by
  cases h with
  | str b =>
    have hl : b.data.toList.length = b.size := by rw [Array.length_toList]; rfl
    refine ⟨_, ⟨rfl, rfl⟩, by rw [hl]; rfl, fun w' _ => ?_⟩
    show Result.ok _ _ = _
    congr 1
    apply Array.ext'
    rw [Array.toList_map, extract_list, hl, List.drop_zero, List.take_of_length_le (by omega)]

def appFits (P : Program) (T U : TypeId) (sz : Nat) (by_ : Bool) : Bool :=
  match P.underlying T with
  | some (.slice e) => (match P.info? e with
    | some i => Nat.beq i.size sz && Nat.ble 1 sz && Nat.ble i.bytes 64 && (match i.zero with | some z => Nat.beq z.cells.size sz | none => false) && (!by_ || Nat.beq sz 1 && (match i.zero with | some (.int .u8 0) => true | _ => false)) &&
        (match P.underlying U with | some .string => true | some (.slice _) => true | _ => false)
    | none => false)
  | _ => false

theorem putCells_get {α : Type} {cs vs : List α} {off : Nat} (h : off + vs.length ≤ cs.length) (k : Nat) : (putCells cs off vs)[k]? = if off ≤ k ∧ k < off + vs.length then vs[k - off]? else cs[k]? := by
  unfold putCells
  by_cases h1 : k < off
  · rw [if_neg (by omega), List.append_assoc, List.getElem?_append_left (by rw [List.length_take]; omega), List.getElem?_take, if_pos h1]
  · by_cases h2 : k < off + vs.length
    · rw [if_pos ⟨by omega, h2⟩, List.append_assoc, List.getElem?_append_right (by rw [List.length_take]; omega), List.getElem?_append_left (by rw [List.length_take]; omega), List.length_take]
      congr 1; omega
    · rw [if_neg (by omega), List.getElem?_append_right (by rw [List.length_append, List.length_take]; omega), List.getElem?_drop, List.length_append, List.length_take]
      congr 1; omega
theorem putCells_len {α : Type} {cs vs : List α} {off : Nat} (h : off + vs.length ≤ cs.length) : (putCells cs off vs).length = cs.length := by
  simp only [putCells, List.length_append, List.length_take, List.length_drop]; omega

theorem agree_alloc {w : World} {o : Obj} : Agree (fun _ => False) w (w.drew.alloc o) := ⟨(agree_push (w := w.drew) (o := o)).1, (agree_push (w := w.drew) (o := o)).2, ⟨rfl, rfl, rfl⟩⟩

/-- The state behind an append: the old tag and the new one are free, and the new one holds the new row. -/
def St.renew (st : St) (t' t : Nat) (b : Blk) : St := ((st.kill t').kill t).withM ((t, b) :: ((st.kill t').kill t).M)

theorem get_kill_kill {st : St} {t' t : Nat} : get ((st.kill t').kill t).M t = none := by
  show get (killM t (killM t' st.M)) t = none
  rw [get_killM]; simp

section ops
variable {P : Program} {C : Cx} {R : Nat → List AV → Option Res} {ρ : Rho} {st : St} {a : Act} {w : World} {oper : Oper} {s : SV} {st' : St}

theorem appFits_ok {T U : TypeId} {sz : Nat} {by_ : Bool} (h : appFits P T U sz by_ = true) : ∃ e i z d, P.underlying T = some (.slice e) ∧ P.info? e = some i ∧ i.zero = some z ∧ i.size = sz ∧ 1 ≤ sz ∧ i.bytes ≤ 64 ∧ z.cells.size = sz ∧
    (by_ = true → sz = 1 ∧ z = .int .u8 0) ∧ P.underlying U = some d ∧ ∀ k, d ≠ .int k := by
  unfold appFits at h
  split at h
  · rename_i e he
    split at h
    · rename_i i hi
      simp only [Bool.and_eq_true] at h
      obtain ⟨⟨⟨⟨⟨h1, h2⟩, h3⟩, h4⟩, h5⟩, h6⟩ := h
      split at h4
      · rename_i z hz
        refine ⟨e, i, z, ?_⟩
        have g5 : by_ = true → sz = 1 ∧ z = .int .u8 0 := by
          intro hb; subst hb
          simp only [Bool.not_true, Bool.false_or, Bool.and_eq_true] at h5
          refine ⟨Nat.eq_of_beq_eq_true h5.1, ?_⟩
          have h52 := h5.2
          split at h52
          · rename_i hz2; rw [hz] at hz2; simpa using hz2
          · cases h52
        split at h6
        · exact ⟨_, he, hi, hz, Nat.eq_of_beq_eq_true h1, Nat.le_of_ble_eq_true h2, Nat.le_of_ble_eq_true h3, Nat.eq_of_beq_eq_true h4, g5, by assumption, fun k => by simp⟩
        · exact ⟨_, he, hi, hz, Nat.eq_of_beq_eq_true h1, Nat.le_of_ble_eq_true h2, Nat.le_of_ble_eq_true h3, Nat.eq_of_beq_eq_true h4, g5, by assumption, fun k => by simp⟩
        · cases h6
      · cases h4
    · cases h
  · cases h

/-- The heart of an append: the head is a row of one's own. -/
theorem app_core {t' t off len : Nat} (htg : t < rT) {cap : Option Nat} {T U e : TypeId} {i : TypeInfo} {z : Value} {d : TypeDesc} {sz : Nat} (hT : P.underlying T = some (.slice e)) (hi : P.info? e = some i) (hz : i.zero = some z) (hsz : i.size = sz) (h1s : 1 ≤ sz)
    (hby : i.bytes ≤ 64) (hzs : z.cells.size = sz) (hU : P.underlying U = some d) (hd : ∀ k, d ≠ .int k)
    (hI : Inv C ρ st a.tmps w) {vx vy : Value} (hx : RelS w (bad C.Bo ρ st.M) ρ st.M (.own t' off len cap) vx) {blk : Blk} (hm : get st.M t' = some blk) (hfz : blk.fz = false) (hbs : blk.sz = sz) {va : AV} (hva : blk.cut off len = some va)
    {vc vr : AV} {news : List Value} (hnews : CR w (bad C.Bo ρ st.M) sz vc news) (happ : Appended P w sz vc.count vy news) (hcomb : ∀ {w : World} {B : Nat → Prop} {vs us : List Value}, CR w B sz va vs → CR w B sz vc us → CR w B sz vr (vs ++ us))
    (hcnt : vr.count = va.count + vc.count) (hvoid : vr.count = 0 → (vr.blk sz).void) (hlim : vr.count ≤ 1099511627776) (h0z : ∀ s, vr = .bytes s → z = .int .u8 0 ∧ ∃ s, va = .bytes s) (ty : TypeId) :
    ∃ v w' ρ', (Builtin.append_ #[T, U] ty #[vx, vy]).run P w = .ok v w' ∧ Inv C ρ' (st.renew t' t (vr.blk sz)) a.tmps w' ∧
      RelS w' (bad C.Bo ρ' (st.renew t' t (vr.blk sz)).M) ρ' (st.renew t' t (vr.blk sz)).M (.own t 0 vr.count none) v := by
  subst hsz
  have hfit : ∀ old, old < len + vc.count → len = va.count → Builtin.nextslicecap (len + vc.count) old * i.bytes ≤ 281474976710656 := fun old ho hl => growslice_fits ho (by
    calc (len + vc.count) * i.bytes ≤ 1099511627776 * 64 := Nat.mul_le_mul (by omega) hby
      _ ≤ _ := by decide)
  have hrc : RelBlk w (bad C.Bo ρ st.M) ρ st.M 0 0 0 blk → True := fun _ => trivial
  -- the new block
  have grow : ∀ (p : Option Addr) (old : Nat) (olds : List Value), CR w (bad C.Bo ρ st.M) i.size va olds → len = va.count → old < len + vc.count →
      (∀ w', w'.heap = w.heap → (Builtin.firstCells i.size len (.slice p len old)).run P w' = .ok olds.toArray w') →
      ∃ v w' ρ', (Builtin.append_ #[T, U] ty #[.slice p len old, vy]).run P w = .ok v w' ∧ Inv C ρ' (st.renew t' t (vr.blk i.size)) a.tmps w' ∧
        RelS w' (bad C.Bo ρ' (st.renew t' t (vr.blk i.size)).M) ρ' (st.renew t' t (vr.blk i.size)).M (.own t 0 vr.count none) v := by
    intro p old olds holds hl hold hfc
    have hrun := run_app_grow (ty := ty) hT hi hz hU hd happ hfc hold (hfit old hold hl) (by omega)
    have hcap := grownCap_ge w (len + vc.count) old e
    let ρ1 := upd (upd ρ t' none) t (some (w.heap.size, 0, grownCap w (len + vc.count) old e))
    have hI1 : Inv C ρ1 ((st.kill t').kill t) a.tmps w := (hI.kill t' none).kill t _
    have hρ1 : ρ1 t = some (w.heap.size, 0, grownCap w (len + vc.count) old e) := by simp [ρ1, upd]
    have hcr := hcomb holds hnews
    have hlen := hcr.len
    have hlo := holds.len
    have hln := hnews.len
    have hcells : ((w.drew.alloc (.cells (olds.toArray ++ news.toArray ++ Builtin.zeroCells z.cells (grownCap w (len + vc.count) old e - (len + vc.count))) e)).heap)[w.heap.size]? = some (.cells (olds.toArray ++ news.toArray ++ Builtin.zeroCells z.cells (grownCap w (len + vc.count) old e - (len + vc.count))) e (0, 0)) := by
      show (w.heap.push _)[w.heap.size]? = _
      simp
    have hsize : (olds.toArray ++ news.toArray ++ Builtin.zeroCells z.cells (grownCap w (len + vc.count) old e - (len + vc.count))).size = grownCap w (len + vc.count) old e * i.size := by
      simp only [Array.size_append, List.size_toArray, size_zeroCells, hzs, hlo, hln, ← hl, ← Nat.add_mul]
      congr 1; omega
    have hbad : ∀ x, x < w.heap.size → bad C.Bo ρ1 ((t, vr.blk i.size) :: ((st.kill t').kill t).M) x → bad C.Bo ρ st.M x := by
      rintro x hlt (hx | ⟨u, bu, ou, cu, g1, g2, g3⟩)
      · exact .inl hx
      · rw [get_cons] at g1
        by_cases hut : u = t
        · subst hut; rw [hρ1] at g3; simp only [Option.some.injEq, Prod.mk.injEq] at g3; omega
        · simp only [hut, if_false] at g1
          exact bad_kill x (bad_kill x (.inr ⟨u, bu, ou, cu, g1, g2, g3⟩))
    have hblk : RelBlk (w.drew.alloc (.cells (olds.toArray ++ news.toArray ++ Builtin.zeroCells z.cells (grownCap w (len + vc.count) old e - (len + vc.count))) e)) (bad C.Bo ρ1 ((t, vr.blk i.size) :: ((st.kill t').kill t).M)) ρ1
        ((t, vr.blk i.size) :: ((st.kill t').kill t).M) w.heap.size 0 (grownCap w (len + vc.count) old e) (vr.blk i.size) :=
      RelBlk.of (hcr.mono agree_alloc.none hbad) hcells (.inl rfl) (by omega) (by omega) (fun j u hj => by
        rw [Nat.zero_add, ← Array.getElem?_toList]
        simp only [Array.toList_append, List.append_assoc]
        rw [← List.append_assoc, List.getElem?_append_left (by rw [List.getElem?_eq_some_iff] at hj; exact hj.1)]
        exact hj
      ) fun s hs => ⟨grownCap_le_maxLen w _ old e (by show len + vc.count ≤ 9223372036854775807; omega), fun j hj => by
        rw [Nat.zero_add, ← Array.getElem?_toList]
        simp only [Array.toList_append]
        subst hs
        by_cases hlt : j < (olds ++ news).length
        · rw [List.getElem?_append_left (by simpa using hlt)]
          exact hcr.u8 hlt
        · have hz0 := (h0z s rfl).1
          subst hz0
          refine ⟨0, ?_⟩
          rw [List.getElem?_append_right (by simpa using Nat.le_of_not_lt hlt)]
          have e1 : i.size = 1 := by rw [← hzs]; rfl
          have hall : ∀ n k, k < n → (Builtin.zeroCells (Value.int .u8 0).cells n).toList[k]? = some (.int .u8 0) := by
            intro n k hk
            simp only [Builtin.zeroCells, Value.cells, Array.toList_map, Array.toList_range, List.getElem?_map, List.size_toArray, List.length_singleton, Nat.mul_one]
            rw [List.getElem?_range hk]
            simp [Nat.mod_one]
          refine hall _ _ ?_
          simp only [List.length_append, hlo, hln, ← hl, e1, Nat.mul_one] at hlt
          simp only [List.length_append, hlo, hln, ← hl, e1, Nat.mul_one]
          omega⟩
    have hfin := hI1.fresh (t := t) (blk := vr.blk i.size) htg get_kill_kill hρ1 agree_alloc (Nat.le_refl _) hblk
    refine ⟨_, _, ρ1, hrun, hfin, ?_⟩
    have hget : get (st.renew t' t (vr.blk i.size)).M t = some (vr.blk i.size) := by simp [St.renew, St.withM, get]
    have := RelS.own (w := w.drew.alloc (.cells (olds.toArray ++ news.toArray ++ Builtin.zeroCells z.cells (grownCap w (len + vc.count) old e - (len + vc.count))) e)) (B := bad C.Bo ρ1 (st.renew t' t (vr.blk i.size)).M)
      t 0 vr.count none w.heap.size 0 (grownCap w (len + vc.count) old e) (grownCap w (len + vc.count) old e) (vr.blk i.size) hget hρ1 (by omega) (by omega) (by
        revert hcr; cases vr <;> intro hcr <;> first | exact hcr.elim | (simp [AV.blk, Blk.count, AV.count]))
    simp only [Nat.zero_mul, Nat.zero_add] at this
    rw [hcnt, ← hl] at this ⊢
    exact this
  cases hx with
  | ownNil t' cap blk' hm' hr =>
    obtain rfl : blk = blk' := by rw [hm] at hm'; simpa using hm'
    have hva0 : va.count = 0 ∧ ∀ {B : Nat → Prop}, CR w B i.size va [] := by
      cases blk <;> simp only [Blk.cut, Option.some.injEq, reduceCtorEq] at hva <;> subst hva
      · exact ⟨by simp [AV.count], fun {B} => ⟨hbs.symm, by simp⟩⟩
      · exact ⟨by simp [AV.count], fun {B} => ⟨hbs, by simp, by simp, by simpa [flats] using RelL.nil⟩⟩
    by_cases hn : vc.count = 0
    · refine ⟨.slice none 0 0, w, upd (upd ρ t' none) t none, ?_, ?_, ?_⟩
      · have h2 := happ.2 w rfl
        have h1 := happ.1
        rw [hn] at h1 h2
        have hnil : news = [] := List.eq_nil_of_length_eq_zero (by rw [hnews.len, hn, Nat.zero_mul])
        subst hnil
        simp only [Builtin.append_]
        simp [run_underlying hT, run_underlying hU, run_sizeOf hi, h1, h2, Result.andThen]
      · exact ((hI.kill t' none).kill t none).virt htg get_kill_kill (by simp [upd]) (hvoid (by omega))
      · have hc0 : vr.count = 0 := by omega
        rw [hc0]
        exact .ownNil t none (vr.blk i.size) (by simp [St.renew, St.withM, get]) (by simp [upd])
    · exact grow none 0 [] hva0.2 (by omega) (by omega) fun w' _ => rfl
  | own t' off len cap b o cp c blk' hm' hr hc hl hn =>
    obtain rfl : blk = blk' := by rw [hm] at hm'; simpa using hm'
    obtain ⟨b', o', cp', k1, hblk0, hnb, hpre⟩ := (hI.mem t' blk hm).resolve_right fun hh => by rw [hr] at hh; cases hh.1
    rw [hr] at k1
    simp only [Option.some.injEq, Prod.mk.injEq] at k1
    obtain ⟨rfl, rfl, rfl⟩ := k1
    obtain ⟨cells, e', fr, olds, g1, g2, g3, g4, g5, g6, g8⟩ := hblk0.cr hva hn
    rw [hbs] at g3 g4 g6
    have hlo := g4.len
    have hln := hnews.len
    have hfcs : ∀ w', w'.heap = w.heap → (Builtin.firstCells i.size len (.slice (some ⟨b, o + off * blk.sz, none⟩) len c)).run P w' = .ok olds.toArray w' := fun w' hw' =>
      run_firstCells_some w' i.size len _ _ _ olds (by rw [hlo, g5]) fun j u hj => by
        rw [Addr.add_mk, hbs]
        have : w'.cell? ⟨b, o + off * i.size + j, none⟩ = w.cell? ⟨b, o + off * i.size + j, none⟩ := by simp [World.cell?, hw']
        rw [this, cell_of g1]; exact g6 j u hj
    by_cases hroom : len + vc.count ≤ c
    · -- in place
      have hmul : o + off * i.size + len * i.size + vc.count * i.size ≤ cells.size := by
        have : (off + len + vc.count) * i.size ≤ cp * i.size := Nat.mul_le_mul_right _ (by omega)
        simp only [Nat.add_mul] at this
        omega
      obtain ⟨cl, rfl⟩ : ∃ cl : List Value, cells = cl.toArray := ⟨cells.toList, by simp⟩
      simp only [List.size_toArray] at hmul g3 g2
      have hrun := run_app_room (ty := ty) (o := o + off * i.size) hT hi hU hd happ hroom g1 g2 (by rw [hln]; omega) hnews.ones
      let ρ1 := upd (upd ρ t' none) t (some (b, o + off * i.size, cp - off))
      have hI1 : Inv { C with Bo := fun x => C.Bo x ∨ x = b } ρ1 ((st.kill t').kill t) a.tmps w := (hI.hold none hm hfz hr).kill t _
      have hρ1 : ρ1 t = some (b, o + off * i.size, cp - off) := by simp [ρ1, upd]
      have hbad : ∀ x, bad C.Bo ρ1 ((t, vr.blk i.size) :: ((st.kill t').kill t).M) x → bad C.Bo ρ st.M x := by
        rintro x (hx | ⟨u, bu, ou, cu, q1, q2, q3⟩)
        · exact .inl hx
        · rw [get_cons] at q1
          by_cases hut : u = t
          · subst hut; rw [hρ1] at q3; simp only [Option.some.injEq, Prod.mk.injEq] at q3
            exact .inr ⟨t', blk, o, cp, hm, hfz, by rw [hr, q3.1]⟩
          · simp only [hut, if_false] at q1
            exact bad_kill x (bad_kill x (.inr ⟨u, bu, ou, cu, q1, q2, q3⟩))
      have hA : Agree (bad C.Bo ρ st.M) w (setBlk w b (.cells (putCells cl (o + off * i.size + len * i.size) news).toArray e' fr)) :=
        agree_setBlk.mono fun x _ hx => .inr ⟨t', blk, o, cp, hm, hfz, by rw [hr, hx]⟩
      have hput : (putCells cl (o + off * i.size + len * i.size) news).length = cl.length := by
        simp only [putCells, List.length_append, List.length_take, List.length_drop]; omega
      have hblk1 := RelBlk.of (b := b) (o := o + off * i.size) (cp := cp - off) (ρ := ρ1) (M := (t, vr.blk i.size) :: ((st.kill t').kill t).M) ((hcomb g4 hnews).mono hA fun x _ hx => hbad x hx) (heap_setBlk (lt_of_get g1)) (by simpa [hput] using g2) (by omega)
        (by
          simp only [List.size_toArray, hput]
          have : (cp - off) * i.size + off * i.size = cp * i.size := by rw [← Nat.add_mul]; congr 1; omega
          omega) (fun j u hj => by
          rw [List.getElem?_toArray]
          simp only [putCells]
          by_cases hjo : j < olds.length
          · rw [List.getElem?_append_left hjo] at hj
            have q := g6 j u hj
            rw [List.getElem?_toArray] at q
            rw [List.append_assoc, List.getElem?_append_left (by rw [List.length_take]; rw [hlo, g5] at hjo; omega), List.getElem?_take, if_pos (by rw [hlo, g5] at hjo; omega)]
            exact q
          · rw [List.getElem?_append_right (by omega)] at hj
            have hjn : j - olds.length < news.length := by rw [List.getElem?_eq_some_iff] at hj; exact hj.1
            rw [hlo, g5] at hj hjo hjn
            rw [List.append_assoc, List.getElem?_append_right (by rw [List.length_take]; omega), List.getElem?_append_left (by rw [List.length_take]; omega), List.length_take]
            rw [← hj]; congr 1; omega) (fun s hs => by
          obtain ⟨_, sa, hsa⟩ := h0z s hs
          obtain ⟨hb8, hb1⟩ := g8 sa hsa
          refine ⟨by have := hb8.1; omega, fun j hj => ?_⟩
          have hcr := hcomb g4 hnews
          rw [hs] at hcr
          rw [hbs] at hb1
          have hln1 : news.length = vc.count := by rw [hln, hb1, Nat.mul_one]
          have hlo1 : olds.length = len := by rw [hlo, hb1, Nat.mul_one, g5]
          rw [hb1] at hmul ⊢
          simp only [Nat.mul_one] at hmul ⊢
          rw [List.getElem?_toArray, putCells_get (by omega)]
          by_cases hin : o + off + len ≤ o + off + j ∧ o + off + j < o + off + len + news.length
          · rw [if_pos hin]
            obtain ⟨x, hx⟩ := hcr.u8 (j := j) (by rw [List.length_append, hlo1]; omega)
            refine ⟨x, ?_⟩
            rw [List.getElem?_append_right (by omega)] at hx
            rw [← hx]; congr 1; omega
          · rw [if_neg hin]
            obtain ⟨x, hx⟩ := hb8.2 (off + j) (by omega)
            rw [List.getElem?_toArray] at hx
            exact ⟨x, by rw [← hx]; congr 1; omega⟩)
      have hfin := hI1.own (C := C) (t := t) (blk := vr.blk i.size) htg get_kill_kill hρ1 agree_setBlk (hpre hfz) hnb hblk1
      refine ⟨_, _, ρ1, by rw [hbs]; exact hrun, hfin, ?_⟩
      have hget : get (st.renew t' t (vr.blk i.size)).M t = some (vr.blk i.size) := by simp [St.renew, St.withM, get]
      have := RelS.own (w := setBlk w b (.cells (putCells cl (o + off * i.size + len * i.size) news).toArray e' fr)) (B := bad C.Bo ρ1 (st.renew t' t (vr.blk i.size)).M)
        t 0 vr.count none b (o + off * i.size) (cp - off) c (vr.blk i.size) hget hρ1 (by omega) (by omega) (by
          have hcr := hcomb g4 hnews
          revert hcr; cases vr <;> intro hcr <;> first | exact hcr.elim | (simp [AV.blk, Blk.count, AV.count]))
      simp only [Nat.zero_mul, Nat.add_zero] at this
      rw [hcnt, g5] at this ⊢
      exact this
    · exact grow (some ⟨b, o + off * blk.sz, none⟩) c olds g4 g5.symm (by omega) hfcs

end ops

end Go.Proofs.YthdefengmkcacaaDoor.Vf
