
/- From what a row says of memory to what the evaluator asks, and back. No condition. -/
import Derived.Test.YtmpjohnbddnehaaDoorVfSoundX
import Derived.Test.YtmpjohnbddnehaaDoorRows
import Derived.OpenShut
import Derived.ShutString
import Derived.ChangeOld
import Derived.SizedLaws
import Derived.Handed
import Derived.Shelf.Vars
import Derived.Lay
import Derived.Lib.LaidU8T
namespace Go.Proofs.YtmpjohnbddnehaaDoor.Vf
set_option linter.unusedVariables false
set_option linter.unusedSimpArgs false
open Go.ChangeShapes Go.WideShapes Go.ChangeAt Go.RowKit
open Go.ChangeMaps (open_string shut_string)

theorem own : ownKnob Tryd.prog.godebug = none := by kernel_rfl
theorem laidOut : laidOutB Tryd.prog = true := by kernel_rfl

theorem lt_of_cell {w : World} {b j : Nat} {v : Value} (h : w.cell? ⟨b, j, none⟩ = some v) : b < w.heap.size := by
  rcases Nat.lt_or_ge b w.heap.size with h' | h'
  · exact h'
  · simp [World.cell?, Array.getElem?_eq_none h'] at h

theorem relL_ints {w : World} {B : Nat → Prop} {k : IntKind} (f : Nat → Int) : ∀ l : List Nat, RelL w B (l.map fun c => AV.int k (f c)) (l.map fun c => Value.int k (f c))
  | [] => .nil
  | c :: l => .cons _ _ _ _ (.int _ _) (relL_ints f l)

theorem maxLen_of_shape {w : World} (h : w.ShapedOpen Tryd.prog) : ∃ m, w.cell? ⟨g_maxLen, 0, none⟩ = some (.int .i64 m) :=
  cell_of_shapedOpen_int (t := 3) (zero := #[.int .i64 0]) h (of_decide_eq_true (by kernel_rfl)) (by kernel_rfl) rfl (by kernel_rfl) (by kernel_rfl) (by kernel_rfl)

/-- The wrap, with the world's shape. -/
theorem returnsInHanded_and_shaped {H : Type} {enc : TypeId × Value → H} {a : Assume} {C : Checked} {os : Os} {f : FuncId} {fn : Func} {s : ChangeSpec} {conds : List PathCond} {apart fresh handsOn again : Bool} {X : World → Array Value → Prop}
    (hX : ∀ (w w' : World) (args : Array Value), w.heap = w'.heap → X w args → X w' args)
    (own : ownKnob C.prog.godebug = none) (started : os.Started) (noInit : C.prog.inits.idxOf? f = none) (hfn : C.prog.funcs[f]? = some fn)
    (witness : ∃ (w : World) (tape : Tape) (i : Input), w.os = os ∧ (w.forCall tape i).Shaped C.prog ∧ i.vars = [] ∧ Input.okWide C.prog (w.forCall tape i) .any w.heap.size f i ∧
      ((s.pre enc C.prog fn conds apart (w.forCall tape i).memory i.args ∧ X (w.forCall tape i).memory i.args) ∧ sizedMet enc C.prog fn (OpenSpec.ofChange s) apart (w.forCall tape i).memory i.args) ∧ a.holds C.prog (lone (Frame.enter C.prog f i.args .normal) [] (w.forCall tape i)))
    (contract : ∀ (W : World) (base : Nat) (args : Array Value) (ds gs : List (DataW H)) (before : List MemPlace),
      (∀ (j : Nat) t v, fn.params[j]? = some t → args[j]? = some v → Value.okWide C.prog W .any base t v) →
      DataW.Whole enc C.prog fn.params.toList s.vars apart W args.toList ds gs before →
      X W args → W.ShapedOpen C.prog →
      Calls C.prog f args W fun e W' => ∃ v, e = .returned v ∧ s.post enc C.prog fn apart fresh handsOn again W args v W') :
    ReturnsInHanded a C os f .any (fun w args => (s.pre enc C.prog fn conds apart w args ∧ X w args) ∧ sizedMet enc C.prog fn (OpenSpec.ofChange s) apart w args) (s.post enc C.prog fn apart fresh handsOn again) := by
  refine returnsInHanded_of_calls own started noInit witness ?_
  intro w tape i _ hsh _ hok hpre hholds
  obtain ⟨_, _, _, fn', hfn', _, _, _, _, hval⟩ := hok
  have e : fn' = fn := Option.some.inj (hfn'.symm.trans hfn)
  subst e
  obtain ⟨⟨⟨ds, gs, before, hw, hc⟩, hx⟩, hz⟩ := hpre
  have hw' := DataW.Whole.of_heap (w' := w.forCall tape i) (by rfl) hw
  refine (contract (w.forCall tape i) w.heap.size i.args ds gs before hval hw' (hX _ _ _ (by rfl) hx) hsh).mono fun e W' ⟨v, he, hp⟩ => ?_
  subst he
  exact ChangeSpec.post_blind hp

theorem gok_of_tabs {w : World} (h : Lib.Utf8Tabs g_first g_accept w) (hm : ∃ m, w.cell? ⟨g_maxLen, 0, none⟩ = some (.int .i64 m))
    : GOk gl (fun _ => False) w := by
  intro g cs hg
  simp only [gl, get_cons] at hg
  split at hg
  · rename_i e
    cases hg
    refine ⟨by rw [e]; exact lt_of_cell (h.1 0 (by omega)), fun h => h, ⟨(fun h => by simp at h), fun h => Bool.noConfusion (show false = true from h)⟩, _, relL_ints (fun c => (Lib.firstT c : Int)) _, fun j v hj => ?_⟩
    rw [List.getElem?_map, Option.map_eq_some_iff] at hj
    obtain ⟨c, hc, rfl⟩ := hj
    obtain ⟨hlt, rfl⟩ := List.getElem?_eq_some_iff.1 hc
    simp only [List.length_range] at hlt
    rw [e, List.getElem_range]
    exact h.1 _ hlt
  · split at hg
    · rename_i e
      cases hg
      refine ⟨by rw [e]; exact lt_of_cell (h.2 0 (by omega)).1, fun h => h, ⟨(fun h => by simp at h), fun h => Bool.noConfusion (show false = true from h)⟩, _, relL_ints (fun i => (bif Nat.beq (i % 2) 0 then (Lib.accLo (i / 2) : Int) else (Lib.accHi (i / 2) : Int))) _, fun j v hj => ?_⟩
      rw [List.getElem?_map, Option.map_eq_some_iff] at hj
      obtain ⟨c, hc, rfl⟩ := hj
      obtain ⟨hlt, rfl⟩ := List.getElem?_eq_some_iff.1 hc
      simp only [List.length_range] at hlt
      rw [e, List.getElem_range]
      have := h.2 (j / 2) (by omega)
      rcases Nat.mod_two_eq_zero_or_one j with h0 | h0
      · rw [h0]
        have e2 : 2 * (j / 2) = j := by omega
        rw [e2] at this
        exact this.1
      · rw [h0]
        have e2 : 2 * (j / 2) + 1 = j := by omega
        rw [e2] at this
        exact this.2
    · split at hg
      · rename_i e
        cases hg
        obtain ⟨m, hm⟩ := hm
        exact ⟨by rw [e]; exact lt_of_cell hm, fun h => h, ⟨fun _ => ⟨m, by rw [e]; exact hm⟩, fun h => by cases h⟩, [], .nil, fun j v hj => by simp at hj⟩
      · cases hg

def tabRen : Go.Shelf.Ren := ⟨fun n => n, fun | 5 => 5 | 119 => 122 | 138 => 124 | 139 => 125 | n => n, fun | 3 => g_first | 4 => g_accept | n => n⟩
theorem tabTypes : U8Types Tryd.prog tabRen := ⟨by kernel_rfl, by kernel_rfl, by kernel_rfl, by kernel_rfl⟩
theorem tabExtra : U8Extra Tryd.prog tabRen := ⟨by kernel_rfl, by kernel_rfl, by kernel_rfl, by kernel_rfl, by kernel_rfl, by kernel_rfl, by kernel_rfl⟩
theorem gok_of_laid {laid : List (String × DataW Unit)} {w : World} (h : laidMet Tryd.prog laid w) (hs : w.ShapedOpen Tryd.prog) (hf : ("unicode/utf8.first", Rows.laid_unicode_utf8_first) ∈ laid) (ha : ("unicode/utf8.acceptRanges", (Rows.laid_unicode_utf8_acceptRanges : DataW Unit)) ∈ laid)
    : GOk gl (fun _ => False) w :=
  (fun hT => gok_of_tabs hT (maxLen_of_shape hs)
  )
  (utf8Tabs_of_readsT (ρ := tabRen) tabTypes tabExtra ((show Rows.laid_unicode_utf8_first = Lib.firstData by kernel_rfl) ▸ Lib.laidMet.reads h hf) ((show (Rows.laid_unicode_utf8_acceptRanges : DataW Unit) = Lib.acceptData by kernel_rfl) ▸ Lib.laidMet.reads h ha))

/-- A reading of bytes is bytes. -/
theorem rel_of_ints {w : World} {a : Option Addr} {len cap : Nat} {zs : List Int} (h : (a = none ∧ len = 0 ∧ cap = 0 ∧ zs = []) ∨ ∃ x, a = some x ∧ len ≤ cap ∧ len ≤ zs.length ∧ (∀ i, i < zs.length → w.cell? (x.add i) = some (.int .u8 (zs.getD i 0))) ∧ ∀ n ∈ zs, (Lit.int .u8 n).wf = true) :
    ∃ s : List UInt8, s.length = len ∧ Rel w (fun _ => False) (.bytes s) (.slice a len cap) := by
  rcases h with ⟨rfl, rfl, rfl, _⟩ | ⟨x, rfl, h1, h2, h3, h4⟩
  · exact ⟨[], rfl, .bnil none 0⟩
  · by_cases h0 : len = 0
    · subst h0; exact ⟨[], rfl, .bnil (some x) cap⟩
    · have hc0 := h3 0 (by omega)
      rw [show x.add 0 = x from by unfold Addr.add; split <;> simp_all] at hc0
      obtain ⟨b, o, sp⟩ := x
      have hsp : sp = none ∧ b < w.heap.size := by
        unfold World.cell? at hc0
        split at hc0
        · rename_i hh
          split at hc0
          · cases hc0
          · rename_i hs; exact ⟨by cases sp <;> simp_all, lt_of_get hh⟩
        · cases hc0
      obtain ⟨rfl, hb⟩ := hsp
      have hlen : ((zs.take len).map fun n => UInt8.ofNat n.toNat).length = len := by simp; omega
      refine ⟨(zs.take len).map fun n => UInt8.ofNat n.toNat, hlen, ?_⟩
      have := Rel.bytes (w := w) (B := fun _ => False) ((zs.take len).map fun n => UInt8.ofNat n.toNat) b o cap hb (fun h => h) (by omega) fun j y hj => by
        simp only [List.getElem?_map, Option.map_eq_some_iff] at hj
        obtain ⟨n, hn, rfl⟩ := hj
        have hjl : j < len := by have := (List.getElem?_eq_some_iff.1 hn).1; simp at this; omega
        have hz : zs[j]? = some n := by rw [List.getElem?_take] at hn; simpa [hjl] using hn
        have hw := h4 n (List.mem_of_getElem? hz)
        have h5 := h3 j (by omega)
        rw [Addr.add_mk, List.getD_eq_getElem?_getD, hz] at h5
        rw [h5]
        have : 0 ≤ n ∧ n < 256 := by simp [Lit.wf, IntKind.min, IntKind.max, IntKind.signed, IntKind.bits] at hw; omega
        simp
        omega
      rw [hlen] at this
      exact this
end Go.Proofs.YtmpjohnbddnehaaDoor.Vf
