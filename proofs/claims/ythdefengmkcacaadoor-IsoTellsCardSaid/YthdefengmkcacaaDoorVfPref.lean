
/- The first operations of a region that draws its order, where all that follows waits for them. No condition. -/
import Derived.Test.YthdefengmkcacaaDoorVfSound
import Derived.OrdersHeld
import Derived.StillTail
namespace Go.Proofs.YthdefengmkcacaaDoor
open Go.RowKit Go.Lib
set_option linter.unusedVariables false
set_option linter.unusedSimpArgs false
namespace Vf
/-- What is to hold behind the first operations: the walk of the others, one behind the other. -/
def preQ (P : Program) (ops : Array Oper) (k : Nat) (Q : Exit → Act → World → Prop) : Exit → Act → World → Prop
  | .normal, a, w => wpList P ops Q (ops.toList.drop k) a w
  | e, a, w => Q e a w
theorem wp_preQ {P : Program} {ops : Array Oper} {k : Nat} {Q : Exit → Act → World → Prop} {o : Oper} {a : Act} {w : World} {K K' : Act → World → Prop} (hK : ∀ a w, K' a w → K a w) (h : o.wp P a w K' (preQ P ops k Q)) : o.wp P a w K Q := by
  unfold Oper.wp at *
  generalize (execOp a.eval o).run P w = r at *
  cases r with
  | ok n w' =>
    cases n <;> simp only [Oper.upon] at h ⊢
    case value u => exact hK _ _ h
    case skip => exact hK _ _ h
    case defer d => exact hK _ _ h
    case enter f args =>
      refine Calls.mono h fun e w'' he => ?_
      cases e with
      | returned u => exact hK _ _ he
      | panicked c => exact he
      | outgrown => exact he
    case row row args => exact Rows.mono h fun u w'' he => hK _ _ he
  | halt x w' =>
    cases x <;> simp only [Oper.upon] at h ⊢
    case panic u => exact h
theorem extract_getD {listed : Array Bool} {k i : Nat} {d : Bool} (hi : i < k) (hk : k ≤ listed.size) : (listed.extract 0 k).getD i d = listed.getD i d := by
  have h1 : i < (listed.extract 0 k).size := by simp; omega
  have h2 : i < listed.size := by omega
  simp only [Array.getD, h1, h2, dite_true, Array.getInternal_eq_getElem, Array.getElem_extract, Nat.zero_add]
theorem wpAny_prefix {P : Program} {ops : Array Oper} {Q : Exit → Act → World → Prop} {k : Nat} (hk : k < ops.size) (hs : Region.sinkB .any ops k = true) (hc : Region.chainB .any ops k = true)
    (hq : Region.seqB .any ops (ops.size - k) k (doneL k (ops.size - k)) = true) (hb : backB ops k = true) (hg : ∀ i, i < k → ∀ o, ops[i]? = some o → o.guard = none) :
    ∀ (c : Nat) (listed : Array Bool) (a : Act) (w : World), unl k listed = c → HeadInv .any ops k listed → wpAny P .any (ops.extract 0 k) (preQ P ops k Q) c (listed.extract 0 k) a w → wpAny P .any ops Q (c + (ops.size - k)) listed a w := by
  intro c
  induction c with
  | zero =>
    intro listed a w hu inv h
    have hall : ∀ i, i < k → listed.getD i true = true := by
      intro i hi
      unfold unl at hu
      rw [List.countP_eq_zero] at hu
      simpa using hu i (List.mem_range.2 hi)
    have hL : listed = doneL k (ops.size - k) := by
      apply Array.ext
      · rw [inv.size]; simp [doneL]; omega
      · intro i h1 h2
        have h3 : listed[i] = listed.getD i true := by simp [h1]
        rw [h3]
        by_cases hi : i < k
        · rw [hall i hi]; simp [doneL, List.getElem_append, hi]
        · rw [inv.tail i (by omega) (by rw [← inv.size]; exact h1)]; simp [doneL, List.getElem_append, hi]
    rw [Nat.zero_add]
    have hln : ops.size - k = (ops.toList.drop k).length := by simp
    rw [hln]
    exact wpAny_of_seq (ops.toList.drop k) k listed a w (fun j => by rw [List.getElem?_drop, Array.getElem?_toList]) (by rw [hL, ← hln]; exact hq) h.2
  | succ c ih =>
    intro listed a w hu inv h
    rw [show c + 1 + (ops.size - k) = (c + (ops.size - k)) + 1 by omega]
    have hex : ∃ i, i < k ∧ listed.getD i true = false := by
      have : 0 < unl k listed := by omega
      unfold unl at this
      rw [List.countP_pos_iff] at this
      obtain ⟨i, h1, h2⟩ := this
      exact ⟨i, List.mem_range.1 h1, by simpa using h2⟩
    have hmin : ∀ m, ∀ i, i ≤ m → i < k → listed.getD i true = false → ∃ j, j ∈ Region.ready .any ops listed := by
      intro m
      induction m with
      | zero =>
        intro i hi hlt hun
        obtain rfl : i = 0 := by omega
        have hk' := List.all_eq_true.1 hb 0 (List.mem_range.2 hlt)
        split at hk'
        · rename_i o ho
          refine ⟨0, mem_ready.2 ⟨hun, o, ho, fun e he hbb => ?_⟩⟩
          have := Array.all_eq_true'.1 hk' e he
          simp [hbb] at this
        · cases hk'
      | succ m ihm =>
        intro i hi hlt hun
        have hk' := List.all_eq_true.1 hb i (List.mem_range.2 hlt)
        split at hk'
        · rename_i o ho
          by_cases hx : ∃ j, j < i ∧ listed.getD j true = false
          · obtain ⟨j, hj, hju⟩ := hx
            exact ihm j (by omega) (by omega) hju
          · refine ⟨i, mem_ready.2 ⟨hun, o, ho, fun e he hbb => ?_⟩⟩
            have := Array.all_eq_true'.1 hk' e he
            simp only [hbb, Bool.not_true, Bool.false_or, decide_eq_true_eq] at this
            cases hle : listed.getD e.on false with
            | true => rfl
            | false => exact absurd ⟨e.on, this, getD_in (by rw [inv.size]; omega) hle⟩ hx
        · cases hk'
    obtain ⟨i0, hi0, hu0⟩ := hex
    have hsz := inv.size
    refine ⟨fun h0 => ?_, fun i hi => ?_⟩
    · obtain ⟨j, hj⟩ := hmin i0 i0 (Nat.le_refl _) hi0 hu0
      rw [h0] at hj; cases hj
    obtain ⟨hiu, oper, hoper, hafter⟩ := mem_ready.1 hi
    have hin : i < k := by
      rcases Nat.lt_or_ge i k with h' | h'
      · exact h'
      · exact absurd hi (tail_waits hs hc hk inv _ i0 rfl hi0 hu0 i h')
    have hoper' : (ops.extract 0 k)[i]? = some oper := by rw [Array.getElem?_extract]; simp [hin, hoper]; omega
    have hi' : i ∈ Region.ready .any (ops.extract 0 k) (listed.extract 0 k) := by
      refine mem_ready.2 ⟨by rw [extract_getD hin (by omega)]; exact hiu, oper, hoper', fun e he hbb => ?_⟩
      have hk' := List.all_eq_true.1 hb i (List.mem_range.2 hin)
      rw [hoper] at hk'
      have := Array.all_eq_true'.1 hk' e he
      simp only [hbb, Bool.not_true, Bool.false_or, decide_eq_true_eq] at this
      rw [extract_getD (by omega) (by omega)]
      exact hafter e he hbb
    have hw := h.2 i hi'
    have hgo := hg i hin oper hoper
    have hset : (listed.extract 0 k).setIfInBounds i true = (listed.setIfInBounds i true).extract 0 k := by
      apply Array.ext
      · simp
      · intro j h1 h2
        have a1 : j < k := by simp at h1; omega
        rw [Array.getElem_setIfInBounds (by simp at h1 ⊢; omega), Array.getElem_extract, Array.getElem_extract, Array.getElem_setIfInBounds (by simp at h1; omega)]
        simp only [Nat.zero_add]
    have hK : ∀ a w, wpAny P .any (ops.extract 0 k) (preQ P ops k Q) c ((listed.extract 0 k).setIfInBounds i true) a w → wpAny P .any ops Q (c + (ops.size - k)) (listed.setIfInBounds i true) a w := fun a w h' =>
      ih _ a w (by have := unl_set hin hiu; omega) (inv.set hi hin) (by rw [hset] at h'; exact h')
    unfold wpOp at hw ⊢
    simp only [hoper, hoper'] at hw ⊢
    have w1 : Region.wanted oper (yielded ops a.tmps) = true := by simp [Region.wanted, hgo]
    have w2 : Region.wanted oper (yielded (ops.extract 0 k) a.tmps) = true := by simp [Region.wanted, hgo]
    rw [if_pos w2] at hw
    rw [if_pos w1]
    rcases hw with hw | ⟨h1, h2⟩
    · exact .inl (wp_preQ hK hw)
    · exact .inr ⟨h1, h2⟩
theorem wpOp_plain {P : Program} {ops : Array Oper} {Q : Exit → Act → World → Prop} {i : Nat} {o : Oper} {K : Act → World → Prop} {a : Act} {w : World} (hi : ops[i]? = some o) (hg : o.guard = none) (h : o.wp P a w K Q) : wpOp P ops Q i K a w := by
  unfold wpOp
  simp only [hi]
  have : Region.wanted o (yielded ops a.tmps) = true := by simp [Region.wanted, hg]
  rw [if_pos this]
  exact .inl h
def prefB (ops : Array Oper) (k : Nat) : Bool := decide (k < ops.size) && Region.sinkB .any ops k && Region.chainB .any ops k && Region.seqB .any ops (ops.size - k) k (doneL k (ops.size - k)) && backB ops k &&
  (List.range k).all fun i => match ops[i]? with | some o => o.guard.isNone | none => true
theorem wp_region_prefix {P : Program} {id : Nat} {l : List Oper} {Q : Exit → Act → World → Prop} {S : World → Prop} {a : Act} {w : World} (k : Nat) (hm : P.follows .mixedOrders = true) (hB : prefB l.toArray k = true)
    (h : wpAnyH P .any (l.take k).toArray (preQ P l.toArray k Q) S k (Array.replicate k false) a { w with drawn := w.drawn + 1 }) : (Code.region id l.toArray true).wp P Q a w := by
  simp only [prefB, Bool.and_eq_true, decide_eq_true_eq] at hB
  obtain ⟨⟨⟨⟨⟨hk, hs⟩, hc⟩, hq⟩, hb⟩, hg⟩ := hB
  refine wp_region_any hm ?_
  have e : l.toArray.extract 0 k = (l.take k).toArray := by simp [List.extract_toArray, List.extract_eq_take_drop]
  have e2 : (Array.replicate l.toArray.size false).extract 0 k = Array.replicate k false := by
    apply Array.ext
    · simp at hk ⊢; omega
    · intro i h1 h2; simp
  have := wpAny_prefix (Q := Q) hk hs hc hq hb (fun i hi o ho => by
    have := List.all_eq_true.1 hg i (List.mem_range.2 hi)
    rw [ho] at this
    simpa using this) k (Array.replicate l.toArray.size false) a { w with drawn := w.drawn + 1 } (by
      unfold unl
      rw [List.countP_eq_length.2, List.length_range]
      intro i hi
      have hi := List.mem_range.1 hi
      have : i < (Array.replicate l.toArray.size false).size := by rw [Array.size_replicate]; omega
      simp [Array.getD]
      simp at hk; omega) ⟨by simp, fun j oj _ hl => (by rw [getD_replicate_false] at hl; cases hl), fun t _ ht => getD_in (by simpa using ht) (getD_replicate_false _ _)⟩ (by rw [e, e2]; exact wpAny_of_held _ _ _ _ h)
  rwa [show k + (l.toArray.size - k) = l.toArray.size by omega] at this
end Vf
end Go.Proofs.YthdefengmkcacaaDoor
