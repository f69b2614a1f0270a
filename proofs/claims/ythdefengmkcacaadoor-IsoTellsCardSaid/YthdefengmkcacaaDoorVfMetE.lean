
/- What ref18.Canon comes to, as a contract. No condition but sizes. -/
import Derived.Test.YthdefengmkcacaaDoorVfMetC
import Derived.Test.YthdefengmkcacaaDoorVfRevved
namespace Go.Proofs.YthdefengmkcacaaDoor
open Go.RowKit Go.Lib
set_option linter.unusedVariables false
set_option linter.unusedSimpArgs false
namespace Vf
def toL (t : GT) : GTx (List UInt8) := ⟨t.kind, t.tag.data.toList, t.value.data.toList, t.kids⟩
theorem intsX_some : ∀ {xs : List AV} {l : List Int}, intsOfX xs = some l → xs = iA l
  | [], l, h => by simp only [intsOfX, Option.some.injEq] at h; subst h; rfl
  | x :: r, l, h => by
    have key : ∀ n, x = .int .i64 n → x :: r = iA l := by
      intro n hx
      subst hx
      have h' : ((intsOfX r).bind fun l => some (n :: l)) = some l := h
      rw [Option.bind_eq_some_iff] at h'
      obtain ⟨l', h1, h2⟩ := h'
      simp only [Option.some.injEq] at h2
      subst h2
      rw [intsX_some h1]; rfl
    cases x with
    | int k n =>
      cases k with
      | i64 => exact key n rfl
      | _ => cases h
    | _ => cases h
theorem thsOf_some : ∀ {xs : List AV} {l : List (GTx (List UInt8))}, thsOf xs = some l → xs = l.map GTx.av
  | [], l, h => by simp only [thsOf, Option.some.injEq] at h; subst h; rfl
  | x :: r, l, h => by
    unfold thsOf at h
    split at h
    · rename_i h1; cases h1
    · rename_i k t v ks r' h1
      cases h1
      rw [Option.bind_eq_some_iff] at h
      obtain ⟨q, hq, h⟩ := h
      rw [Option.bind_eq_some_iff] at h
      obtain ⟨l', hl, h⟩ := h
      simp only [Option.some.injEq] at h
      subst h
      rw [intsX_some hq, thsOf_some hl]; rfl
    · cases h
theorem rel_kids {w : World} {B : Nat → Prop} {l : List Int} {v : Value} (h : Rel w B (.row 1 (iA l)) v) : ∃ kO kc, v = .slice kO l.length kc ∧ ∀ j k, l[j]? = some k → ∃ kb ko, kO = some ⟨kb, ko, none⟩ ∧ kb < w.heap.size ∧ w.cell? ⟨kb, ko + j, none⟩ = some (.int .i64 k) := by
  generalize hx : AV.row 1 (iA l) = r at h
  cases h with
  | rnil sz a cap =>
    simp only [AV.row.injEq, iA, List.map_eq_nil_iff] at hx
    obtain ⟨_, rfl⟩ := hx
    exact ⟨a, cap, rfl, fun j k h => by simp at h⟩
  | row sz xs vs b o cap hb hB hc hz h1 hr hs =>
    simp only [AV.row.injEq] at hx
    obtain ⟨rfl, rfl⟩ := hx
    unfold iA at hr
    rw [flats_ints] at hr
    have := rel_ints hr
    subst this
    refine ⟨some ⟨b, o, none⟩, cap, by simp [iA], fun j k hj => ⟨b, o, rfl, hb, hs j _ (by rw [List.getElem?_map, hj]; rfl)⟩⟩
  | _ => cases hx
theorem rel_flat {w : World} {B : Nat → Prop} : ∀ (l : List (GTx (List UInt8))) (vs : List Value), RelL w B (flats (l.map GTx.av)) vs → ∃ q : List (GT × Value), vs = outC q ∧ (q.map fun p => toL p.1) = l ∧ ∀ p ∈ q, Rel w B (.row 1 (iA p.1.kids)) p.2
  | [], vs, h => by cases h; exact ⟨[], rfl, rfl, fun p hp => by cases hp⟩
  | t :: r, vs, h => by
    have h' : RelL w B (AV.int .i64 t.kind :: AV.str t.tag :: AV.str t.value :: AV.row 1 (iA t.kids) :: flats (r.map GTx.av)) vs := h
    obtain ⟨k, tg, vl, ks⟩ := t
    simp only at h'
    cases h' with
    | cons _ v1 _ vs1 a1 b1 =>
    cases b1 with
    | cons _ v2 _ vs2 a2 b2 =>
    cases b2 with
    | cons _ v3 _ vs3 a3 b3 =>
    cases b3 with
    | cons _ v4 _ vs4 a4 b4 =>
    obtain ⟨q, rfl, rfl, hq⟩ := rel_flat r vs4 b4
    cases a1
    cases a2 with
    | str s1 =>
    cases a3 with
    | str s2 =>
    refine ⟨(⟨k, s1, s2, ks⟩, v4) :: q, rfl, rfl, fun p hp => ?_⟩
    rcases List.mem_cons.1 hp with rfl | hp
    · exact a4
    · exact hq p hp
theorem rel_things {w : World} {B : Nat → Prop} {l : List (GTx (List UInt8))} {v : Value} (h : Rel w B (.row 4 (l.map GTx.av)) v) (h0 : 0 < l.length) : ∃ gb go cp, ∃ g : List GT, v = .slice (some ⟨gb, go, none⟩) g.length cp ∧ g.map toL = l ∧ GrAt w w.heap.size gb go g := by
  generalize hx : AV.row 4 (l.map GTx.av) = r at h
  cases h with
  | rnil sz a cap =>
    simp only [AV.row.injEq, List.map_eq_nil_iff] at hx
    obtain ⟨_, rfl⟩ := hx
    simp at h0
  | row sz xs vs b o cap hb hB hc hz h1 hr hs =>
    simp only [AV.row.injEq] at hx
    obtain ⟨rfl, rfl⟩ := hx
    obtain ⟨q, rfl, rfl, hq⟩ := rel_flat l vs hr
    refine ⟨b, o, cap, q.map Prod.fst, by simp, by rw [List.map_map]; rfl, hb, fun i t hi => ?_⟩
    rw [List.getElem?_map, Option.map_eq_some_iff] at hi
    obtain ⟨⟨t', kv⟩, hp, rfl⟩ := hi
    have at_ : ∀ c u, c < 4 → (gtC t' kv)[c]? = some u → w.cell? ⟨b, o + i * 4 + c, none⟩ = some u := fun c u hc hu => by
      have := hs (i * 4 + c) u (by rw [outC_get hp c hc]; exact hu)
      rw [← Nat.add_assoc] at this; exact this
    have hqk := hq _ (List.mem_of_getElem? hp)
    simp only at hqk
    obtain ⟨kO, kc, hkv, hk⟩ := rel_kids hqk
    subst hkv
    exact ⟨at_ 0 _ (by omega) rfl, at_ 1 _ (by omega) rfl, at_ 2 _ (by omega) rfl, kO, kc, at_ 3 _ (by omega) rfl, hk⟩
  | _ => cases hx
theorem getD_toL (l : List GT) (n : Nat) : (l.map toL).getD n default = toL (l.getD n default) := by
  rw [List.getD_eq_getElem?_getD, List.getD_eq_getElem?_getD, List.getElem?_map]
  cases l[n]? <;> rfl
theorem addKid_toL (n : Nat) (x : Int) (l : List GT) : addKid n x (l.map toL) = (addKid n x l).map toL := by
  unfold addKid
  rw [getD_toL, List.map_set]; rfl
theorem kidsP_toL {r1 : Nat → CS → Int × CS} {r2 : Nat → CSx (List UInt8) → Int × CSx (List UInt8)} (H : ∀ k s, r2 k (s.1, s.2.map toL) = ((r1 k s).1, (r1 k s).2.1, (r1 k s).2.2.map toL)) (n : Nat) : ∀ (ks : List Int) (s : CS), kidsP r2 n ks (s.1, s.2.map toL) = ((kidsP r1 n ks s).1, (kidsP r1 n ks s).2.map toL)
  | [], s => rfl
  | k :: r, s => by
    simp only [kidsP]
    rw [H k.toNat s]
    simp only
    rw [addKid_toL]
    exact kidsP_toL H n r ((r1 k.toNat s).2.1, addKid n (r1 k.toNat s).1 (r1 k.toNat s).2.2)
theorem meetP_toL (g : List GT) : ∀ (f i : Nat) (s : CS), meetP (g.map toL) f i (s.1, s.2.map toL) = ((meetP g f i s).1, (meetP g f i s).2.1, (meetP g f i s).2.2.map toL) := by
  intro f
  induction f with
  | zero => intro i s; rfl
  | succ f ih =>
    intro i s
    simp only [meetP]
    by_cases h : 0 ≤ s.1.getD i 0
    · rw [if_pos h, if_pos h]
    · rw [if_neg h, if_neg h]
      simp only [List.length_map]
      have := kidsP_toL ih s.2.length (g.getD i default).kids (s.1.set i (s.2.length : Int), s.2 ++ [{ g.getD i default with kids := [] }])
      rw [getD_toL]
      simp only [List.map_append] at this
      exact Prod.ext rfl this
theorem canonS_toL (g : List GT) : canonS (g.map toL) = ((canonS g).1, (canonS g).2.map toL) := by
  unfold canonS
  rw [List.length_map]
  have := meetP_toL g (g.length + 1) 0 (List.replicate g.length (-1), [])
  rw [List.map_nil] at this
  rw [this]
theorem owns_rel {w : World} {B : Nat → Prop} {base : Nat} (hB : ∀ b, B b → b < base) {v : Value} {l : List Int} (h : w.ownsRow base 3 1 v l.length (intC l)) : Rel w B (.row 1 (iA l)) v := by
  rcases h.2 with ⟨rfl, h0⟩ | ⟨g, cap, cur, rfl, hb, hg, hc, _⟩
  · obtain rfl := List.length_eq_zero_iff.1 h0
    exact Rel.rnil 1 none 0
  · have := Rel.row (w := w) (B := B) 1 (iA l) (intC l) g 0 cap (Array.getElem?_eq_some_iff.1 hg).1 (fun hh => by have := hB g hh; omega) (by rw [show (iA l).length = l.length by simp [iA]]; exact hc) (fun x hx => by obtain ⟨n, _, rfl⟩ := List.mem_map.1 hx; rfl) (fun x hx => by obtain ⟨n, _, rfl⟩ := List.mem_map.1 hx; rfl) (by unfold iA intC; rw [flats_ints]; exact ints_rel _)
      (fun j u hu => by
        have hj : j < l.length := by have := (List.getElem?_eq_some_iff.1 hu).1; simpa [intC] using this
        rw [Nat.zero_add, h.cellAt j (by omega)]; exact hu)
    rw [show (iA l).length = l.length by simp [iA]] at this
    exact this
theorem out_rel {w : World} {B : Nat → Prop} {base : Nat} (hB : ∀ b, B b → b < base) : ∀ (out : List (GT × Value)), (∀ p ∈ out, w.ownsRow base 3 1 p.2 p.1.kids.length (intC p.1.kids)) → RelL w B (flats (out.map fun p => (toL p.1).av)) (outC out)
  | [], _ => .nil
  | p :: r, h => .cons _ _ _ _ (.int _ _) (.cons _ _ _ _ (.str p.1.tag) (.cons _ _ _ _ (.str p.1.value) (.cons _ _ _ _ (owns_rel hB (h p List.mem_cons_self)) (out_rel hB r fun q hq => h q (List.mem_cons_of_mem _ hq)))))
theorem things_rel {w : World} {B : Nat → Prop} {base : Nat} (hB : ∀ b, B b → b < base) {v : Value} {out : List (GT × Value)} (h : w.ownsRow base 39 4 v out.length (outC out)) (hk : ∀ p ∈ out, w.ownsRow base 3 1 p.2 p.1.kids.length (intC p.1.kids)) : Rel w B (.row 4 (out.map fun p => (toL p.1).av)) v := by
  rcases h.2 with ⟨rfl, h0⟩ | ⟨g, cap, cur, rfl, hb, hg, hc, _⟩
  · obtain rfl := List.length_eq_zero_iff.1 h0
    exact Rel.rnil 4 none 0
  · have := Rel.row (w := w) (B := B) 4 (out.map fun p => (toL p.1).av) (outC out) g 0 cap (Array.getElem?_eq_some_iff.1 hg).1 (fun hh => by have := hB g hh; omega) (by rw [List.length_map]; exact hc) (fun x hx => by obtain ⟨n, _, rfl⟩ := List.mem_map.1 hx; rfl)
      (fun x hx => by
        obtain ⟨p, hp, hx⟩ := List.mem_flatMap.1 hx
        obtain ⟨a, cp, e⟩ := owns_form (hk p hp)
        simp only [gtC, e, List.mem_cons, List.not_mem_nil, or_false] at hx
        rcases hx with rfl | rfl | rfl | rfl <;> rfl)
      (out_rel hB out hk)
      (fun j u hu => by
        have hj : j < out.length * 4 := by have := (List.getElem?_eq_some_iff.1 hu).1; rw [outC_len] at this; exact this
        rw [Nat.zero_add, h.cellAt j hj]; exact hu)
    rw [List.length_map] at this
    exact this
theorem canon_calls {w : World} {B : Nat → Prop} (hBo : ∀ b, B b → b < w.heap.size) {l : List (GTx (List UInt8))} (hl : canonOk l = true) {v : Value} (h : Rel w B (.row 4 (l.map GTx.av)) v) :
    Calls Tryd.prog 12 #[v] w fun e w' => ∃ u, e = .returned u ∧ Below w.heap.size w w' ∧ Rel w' B (.row 4 ((canonS l).2.map GTx.av)) u := by
  unfold canonOk at hl
  simp only [Bool.and_eq_true, decide_eq_true_eq, List.all_eq_true] at hl
  obtain ⟨⟨h0, h1⟩, h2⟩ := hl
  obtain ⟨gb, go, cp, g, rfl, rfl, hG⟩ := rel_things h h0
  rw [List.length_map] at h0 h1 h2
  refine (canon_walk g gb go cp w h1 h0 (fun t ht => (h2 (toL t) (List.mem_map_of_mem ht)).1) (fun t ht k hk => (h2 (toL t) (List.mem_map_of_mem ht)).2 k hk) hG).mono ?_
  rintro e w' ⟨out, vO, rfl, hb, ho, hO, hK⟩
  refine ⟨vO, rfl, hb, ?_⟩
  rw [canonS_toL]
  simp only
  rw [← ho, List.map_map, List.map_map]
  exact things_rel hBo hO hK
end Vf
end Go.Proofs.YthdefengmkcacaaDoor
