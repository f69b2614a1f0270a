
/- Numbering as things are met is the canonical form. No condition but sizes. -/
import Derived.Test.YthdefengmkcacaaDoorVfMetB
import Derived.Test.YthdefengmkcacaaDoorVfIsoE
namespace Go.Proofs.YthdefengmkcacaaDoor.Vf
set_option linter.unusedVariables false
set_option linter.unusedSimpArgs false
abbrev CT := CSx (List UInt8)
def Th.gx (t : Th) : GTx (List UInt8) := ⟨t.kind, t.tag, t.value, t.kids⟩
def GTx.th (t : GTx (List UInt8)) : Th := ⟨t.kind, t.tag, t.value, t.kids⟩
def OG (g : List Th) (vis st r : List Nat) : Prop := ∃ n, ∀ m, n ≤ m → ordGo g m vis st = r
theorem OG.nil (g : List Th) (vis : List Nat) : OG g vis [] vis := ⟨0, fun m _ => by cases m <;> rfl⟩
theorem OG.met {g : List Th} {vis st r : List Nat} {i : Nat} (hi : i ∈ vis) (h : OG g vis st r) : OG g vis (i :: st) r := by
  obtain ⟨n, h⟩ := h
  refine ⟨n + 1, fun m hm => ?_⟩
  obtain ⟨m, rfl⟩ : ∃ k, m = k + 1 := ⟨m - 1, by omega⟩
  simp only [ordGo]
  rw [if_pos hi]
  exact h m (by omega)
theorem OG.new {g : List Th} {vis st r : List Nat} {i : Nat} (hi : i ∉ vis) (h : OG g (vis ++ [i]) (kd g i ++ st) r) : OG g vis (i :: st) r := by
  obtain ⟨n, h⟩ := h
  refine ⟨n + 1, fun m hm => ?_⟩
  obtain ⟨m, rfl⟩ : ∃ k, m = k + 1 := ⟨m - 1, by omega⟩
  simp only [ordGo]
  rw [if_neg hi]
  exact h m (by omega)
structure RS (g : List Th) (vis : List Nat) (s : CT) : Prop where
  nodup : vis.Nodup
  lt : ∀ i ∈ vis, i < g.length
  num : ∀ i, i < g.length → s.1.getD i 0 = if i ∈ vis then ((vis.idxOf i : Nat) : Int) else -1
  len : s.1.length = g.length
  out : s.2.length = vis.length
theorem num_ext {vis ext : List Nat} {k : Nat} (h : k ∈ vis) : num (vis ++ ext) k = num vis k := by
  unfold num
  rw [if_pos (List.mem_append_left _ h), if_pos h, List.idxOf_append, if_pos h]
def doneT (g : List Th) (vis : List Nat) (i : Nat) : GTx (List UInt8) := ⟨(g.getD i default).kind, (g.getD i default).tag, (g.getD i default).value, (kd g i).map fun k => ((num vis k : Nat) : Int)⟩
theorem doneT_ext {g : List Th} {vis ext : List Nat} {i : Nat} (h : ∀ k ∈ kd g i, k ∈ vis) : doneT g (vis ++ ext) i = doneT g vis i := by
  unfold doneT
  congr 1
  apply List.map_congr_left
  intro k hk
  rw [num_ext (h k hk)]
def NewOk (g : List Th) (vis vis' : List Nat) (out : List (GTx (List UInt8))) : Prop := ∀ j x, vis.length ≤ j → vis'[j]? = some x → out[j]? = some (doneT g vis' x) ∧ ∀ k ∈ kd g x, k ∈ vis'
structure MetOk (g : List Th) (i : Nat) (vis ext : List Nat) (s : CT) (q : Int × CT) : Prop where
  rs : RS g (vis ++ ext) q.2
  mem : i ∈ vis ++ ext
  val : q.1 = ((num (vis ++ ext) i : Nat) : Int)
  same : ∀ j, j < vis.length → q.2.2[j]? = s.2[j]?
  new : NewOk g vis (vis ++ ext) q.2.2
  neg : negs q.2.1 ≤ negs s.1
  og : ∀ st r, OG g (vis ++ ext) st r → OG g vis (i :: st) r
structure KidsOk (g : List Th) (ks : List Int) (n : Nat) (x : GTx (List UInt8)) (vis ext : List Nat) (s s' : CT) : Prop where
  rs : RS g (vis ++ ext) s'
  mem : ∀ k ∈ ks, k.toNat ∈ vis ++ ext
  at_ : s'.2[n]? = some { x with kids := x.kids ++ ks.map fun k => ((num (vis ++ ext) k.toNat : Nat) : Int) }
  same : ∀ j, j < vis.length → j ≠ n → s'.2[j]? = s.2[j]?
  new : NewOk g vis (vis ++ ext) s'.2
  neg : negs s'.1 ≤ negs s.1
  og : ∀ st r, OG g (vis ++ ext) st r → OG g vis (ks.map Int.toNat ++ st) r
theorem addKid_len' {α : Type} [Inhabited α] (n : Nat) (x : Int) (l : List (GTx α)) : (addKid n x l).length = l.length := List.length_set
theorem addKid_other' {α : Type} [Inhabited α] {n : Nat} {x : Int} {l : List (GTx α)} {j : Nat} (h : n ≠ j) : (addKid n x l)[j]? = l[j]? := by
  unfold addKid; rw [List.getElem?_set_ne h]
theorem addKid_get {α : Type} [Inhabited α] {n : Nat} {x : Int} {l : List (GTx α)} {t : GTx α} (h : l[n]? = some t) : (addKid n x l)[n]? = some { t with kids := t.kids ++ [x] } := by
  have hn : n < l.length := (List.getElem?_eq_some_iff.1 h).1
  unfold addKid
  rw [List.getElem?_set, if_pos rfl, if_pos hn, List.getD_eq_getElem?_getD, h]; rfl
theorem kids_law {g : List Th} {f : Nat} (H : ∀ i s vis, RS g vis s → i < g.length → negs s.1 < f → ∃ ext, MetOk g i vis ext s (meetP (g.map Th.gx) f i s)) (n : Nat) : ∀ (ks : List Int) (s : CT) (vis : List Nat) (x : GTx (List UInt8)), RS g vis s → (∀ k ∈ ks, 0 ≤ k ∧ k < (g.length : Int)) → negs s.1 < f → n < vis.length → s.2[n]? = some x →
    ∃ ext, KidsOk g ks n x vis ext s (kidsP (meetP (g.map Th.gx) f) n ks s)
  | [], s, vis, x, hs, _, _, hn, hx => by
    refine ⟨[], ⟨by rw [List.append_nil]; exact hs, (fun _ h => nomatch h), ?_, fun _ _ _ => rfl, fun j y hj hy => ?_, Nat.le_refl _, fun st r h => ?_⟩⟩
    · simp only [kidsP]; rw [hx]; simp
    · rw [List.append_nil] at hy
      have := (List.getElem?_eq_some_iff.1 hy).1; omega
    · rw [List.append_nil] at h; exact h
  | k :: r, s, vis, x, hs, hk, hf, hn, hx => by
    have hk0 := hk k List.mem_cons_self
    obtain ⟨e1, h⟩ := H k.toNat s vis hs (by omega) hf
    have hxq : (meetP (g.map Th.gx) f k.toNat s).2.2[n]? = some x := by rw [h.same n hn, hx]
    have hneg := h.neg
    simp only [kidsP]
    generalize meetP (g.map Th.gx) f k.toNat s = q at h hxq hneg ⊢
    have hl : (vis ++ e1).length = vis.length + e1.length := List.length_append
    obtain ⟨e2, h2⟩ := kids_law H n r (q.2.1, addKid n q.1 q.2.2) (vis ++ e1) { x with kids := x.kids ++ [q.1] } ⟨h.rs.nodup, h.rs.lt, h.rs.num, h.rs.len, by simp only [addKid_len']; exact h.rs.out⟩ (fun y hy => hk y (List.mem_cons_of_mem _ hy)) (by simp only; omega) (by omega) (addKid_get hxq)
    have has : vis ++ e1 ++ e2 = vis ++ (e1 ++ e2) := List.append_assoc ..
    refine ⟨e1 ++ e2, ⟨has ▸ h2.rs, fun y hy => ?_, ?_, fun j hj hjn => ?_, fun j y hj hy => ?_, ?_, fun st r' hh => ?_⟩⟩
    · rw [← has]
      rcases List.mem_cons.1 hy with rfl | hy
      · exact List.mem_append_left _ h.mem
      · exact h2.mem y hy
    · rw [h2.at_, ← has, h.val, List.map_cons, num_ext h.mem]
      simp only [List.append_assoc, List.singleton_append]
    · rw [h2.same j (by omega) hjn]
      simp only
      rw [addKid_other' (fun e => hjn e.symm)]
      exact h.same j hj
    · rw [← has] at hy ⊢
      by_cases hj2 : j < (vis ++ e1).length
      · rw [List.getElem?_append_left hj2] at hy
        obtain ⟨a1, a2⟩ := h.new j y hj hy
        rw [h2.same j hj2 (by omega), doneT_ext a2]
        simp only
        rw [addKid_other' (by omega)]
        exact ⟨a1, fun k hk => List.mem_append_left _ (a2 k hk)⟩
      · exact h2.new j y (by omega) hy
    · have := h2.neg; simp only at this; omega
    · rw [← has] at hh
      rw [List.map_cons, List.cons_append]
      exact h.og _ _ (h2.og _ _ hh)
theorem gx_getD (g : List Th) (i : Nat) (hi : i < g.length) : (g.map Th.gx).getD i default = (g.getD i default).gx := by
  simp [List.getD, hi]
theorem meet_law {g : List Th} (hin : ∀ t ∈ g, inG g t.kids) : ∀ (f i : Nat) (s : CT) (vis : List Nat), RS g vis s → i < g.length → negs s.1 < f → ∃ ext, MetOk g i vis ext s (meetP (g.map Th.gx) f i s) := by
  intro f
  induction f with
  | zero => intro i s vis _ _ h; omega
  | succ f ih =>
    intro i s vis hs hi hf
    have hnum := hs.num i hi
    simp only [meetP]
    by_cases hm : i ∈ vis
    · rw [if_pos hm] at hnum
      rw [if_pos (by omega)]
      refine ⟨[], ⟨by rw [List.append_nil]; exact hs, by rw [List.append_nil]; exact hm, ?_, fun _ _ => rfl, fun j y hj hy => ?_, Nat.le_refl _, fun st r h => ?_⟩⟩
      · rw [hnum, List.append_nil]; unfold num; rw [if_pos hm]
      · rw [List.append_nil] at hy
        have := (List.getElem?_eq_some_iff.1 hy).1; omega
      · rw [List.append_nil] at h; exact OG.met hm h
    · rw [if_neg hm] at hnum
      rw [if_neg (by omega), gx_getD g i hi, hs.out]
      have hl := hs.len
      have hneg := negs_set (l := s.1) (i := i) (v := (vis.length : Int)) (by omega) (by omega) (by omega)
      have hR : RS g (vis ++ [i]) (s.1.set i (vis.length : Int), s.2 ++ [{ (g.getD i default).gx with kids := [] }]) := by
        refine ⟨?_, ?_, ?_, by simpa using hl, by simp [hs.out]⟩
        · rw [List.nodup_append]
          refine ⟨hs.nodup, by simp, fun a ha b hb => ?_⟩
          simp only [List.mem_singleton] at hb
          subst hb
          rintro rfl
          exact hm ha
        · intro j hj
          rcases List.mem_append.1 hj with hj | hj
          · exact hs.lt j hj
          · simp only [List.mem_singleton] at hj; subst hj; exact hi
        · intro j hj
          simp only [List.getD_eq_getElem?_getD, List.getElem?_set]
          by_cases hij : i = j
          · subst hij
            rw [if_pos rfl, if_pos (by omega), if_pos (by simp), List.idxOf_append, if_neg hm]
            simp
          · rw [if_neg hij]
            have := hs.num j hj
            rw [List.getD_eq_getElem?_getD] at this
            rw [this]
            by_cases hjv : j ∈ vis
            · rw [if_pos hjv, if_pos (List.mem_append_left _ hjv), List.idxOf_append, if_pos hjv]
            · rw [if_neg hjv, if_neg (by simp [hjv]; exact fun e => hij e.symm)]
      have hmem : g.getD i default ∈ g := getD_mem hi
      obtain ⟨ext, h⟩ := kids_law ih vis.length (g.getD i default).kids _ (vis ++ [i]) { (g.getD i default).gx with kids := [] } hR (hin _ hmem) (by simp only; omega) (by simp) (by simp only; rw [List.getElem?_append_right (by rw [hs.out]; exact Nat.le_refl _), hs.out]; simp)
      have has : vis ++ [i] ++ ext = vis ++ (i :: ext) := by simp
      have hkids : (g.getD i default).gx.kids = (g.getD i default).kids := rfl
      rw [hkids]
      refine ⟨i :: ext, ⟨has ▸ h.rs, by simp, ?_, fun j hj => ?_, fun j y hj hy => ?_, ?_, fun st r hh => ?_⟩⟩
      · simp only
        rw [← has, num_ext (show i ∈ vis ++ [i] by simp)]
        unfold num
        rw [if_pos (by simp), List.idxOf_append, if_neg hm]
        simp
      · simp only
        rw [h.same j (by simp; omega) (by omega)]
        simp only
        rw [List.getElem?_append_left (by rw [hs.out]; exact hj)]
      · simp only
        rw [← has] at hy ⊢
        by_cases hj2 : j = vis.length
        · subst hj2
          have hy' : y = i := by
            rw [List.getElem?_append_left (by simp), List.getElem?_append_right (Nat.le_refl _)] at hy
            simpa using hy.symm
          subst hy'
          refine ⟨?_, fun k hk => ?_⟩
          · rw [h.at_]
            unfold doneT kd
            simp only [List.nil_append, List.map_map]
            rfl
          · obtain ⟨z, hz, rfl⟩ := List.mem_map.1 hk
            exact h.mem z hz
        · exact h.new j y (by simp; omega) hy
      · have := h.neg; simp only at this ⊢; omega
      · rw [← has] at hh
        exact OG.new hm (h.og _ _ hh)
theorem negs_rep' (n : Nat) : negs (List.replicate n (-1)) = n := by
  unfold negs; rw [List.countP_replicate]; simp
theorem canonS_law {g : List Th} (hg : Fine g) (h0 : 0 < g.length) : (canonS (g.map Th.gx)).2.map GTx.th = canonL g := by
  obtain ⟨ext, h⟩ := meet_law hg.kids (g.length + 1) 0 (List.replicate g.length (-1), []) [] ⟨by simp, by simp, fun i hi => by simp [List.getD, hi], by simp, rfl⟩ h0 (by simp only; rw [negs_rep']; omega)
  have hO : orderL g = ext := by
    obtain ⟨n, hn⟩ := h.og [] ext (by rw [List.nil_append]; exact OG.nil g ext)
    unfold orderL
    rw [← ordGo_fuel hg (costOf g [] + 2) (costOf g [] + 2 + n) [] [0] (by simp only [List.length_singleton]; omega) (by omega) (by simpa using h0)]
    exact hn _ (by omega)
  have hS : canonS (g.map Th.gx) = (meetP (g.map Th.gx) (g.length + 1) 0 (List.replicate g.length (-1), [])).2 := by unfold canonS; rw [List.length_map]
  rw [hS, canonL_pos h0, hO]
  have hout := h.rs.out
  have hnew := h.new
  rw [List.nil_append] at hout hnew
  generalize (meetP (g.map Th.gx) (g.length + 1) 0 (List.replicate g.length (-1), [])).2 = s at hout hnew ⊢
  apply List.ext_getElem?
  intro j
  rw [List.getElem?_map, List.getElem?_map]
  by_cases hj : j < ext.length
  · obtain ⟨a, _⟩ := hnew j ext[j] (Nat.zero_le _) (List.getElem?_eq_getElem hj)
    rw [a, List.getElem?_eq_getElem hj]
    rfl
  · rw [List.getElem?_eq_none (by omega), List.getElem?_eq_none (by omega)]
    rfl
end Go.Proofs.YthdefengmkcacaaDoor.Vf
