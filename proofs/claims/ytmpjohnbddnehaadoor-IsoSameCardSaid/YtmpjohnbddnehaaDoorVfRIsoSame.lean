/- The law IsoSame answers true whatever the input, and each argument reads afterwards as it read before. No condition beyond the row's own. -/
import Derived.Test.YtmpjohnbddnehaaDoorVfLawsIU
import Derived.Test.YtmpjohnbddnehaaDoorVfRowBase
import Derived.Test.YtmpjohnbddnehaaDoorVfRowThing
import Derived.Test.YtmpjohnbddnehaaDoorCards
import Derived.Test.YtmpjohnbddnehaaDoorTie
import Derived.LaidOnce
import Derived.SevenTiedAt
namespace Go.Proofs.YtmpjohnbddnehaaDoor.isoSame
open Go.ChangeShapes Go.WideShapes Go.ChangeAt Go.RowKit
open Go.ChangeMaps (open_string shut_string)
set_option linter.unusedVariables false
def tabs : List (String × DataW Unit) := [("unicode/utf8.acceptRanges", Rows.laid_unicode_utf8_acceptRanges), ("unicode/utf8.first", Rows.laid_unicode_utf8_first)]
set_option maxRecDepth 100000 in
theorem lifted (os : Os) (started : os.Started) (H : Type) (enc : TypeId × Value → H) :
    ReturnsInHanded {} Tryd.checked os 7 .any (fun w args => (Rows.isoSameSpec.pre enc Tryd.prog Tryd.f7 [] false w args ∧ laidMetH Tryd.prog tabs w) ∧ sizedMet enc Tryd.prog Tryd.f7 (OpenSpec.ofChange Rows.isoSameSpec) false w args)
      (Rows.isoSameSpec.post enc Tryd.prog Tryd.f7 false true false false) := by
  refine Vf.returnsInHanded_and_shaped (C := Tryd.checked) (X := fun w _ => laidMetH Tryd.prog tabs w) (fun _ _ _ hh h => h.of_heap hh) Vf.own started (by kernel_rfl) Tryd.func7
    (ChangeSpec.witness_shaped (enc := enc) (C := Tryd.checked) (os := os) (X := fun w _ => laidMetH Tryd.prog tabs w) false (World.laidAll Tryd.prog os tabs) #[.slice none 0 0, .slice none 0 0, .bool false] 8 (World.laidAll_os _ _ _)
      (World.shaped_of_ZipB (by kernel_rfl) (by kernel_rfl)) (by kernel_rfl) (by kernel_rfl) (by kernel_rfl)
      (by rw [MakeChecks.laidMetH_plain _ _ _ (by kernel_rfl)]; exact laidMet_laidAll _ (by kernel_rfl) (by kernel_rfl))) ?_
  intro W base args ds gs before hval0 hW hL hsh
  have hval : ∀ (j : Nat) t v, Tryd.f7.params[j]? = some t → args[j]? = some v → Value.okWide Tryd.prog W .any base t v := hval0
  have hW' := hW
  obtain ⟨p, q, hA0, hV, rfl, hfz, hnd⟩ := hW
  have hA : DataW.TrodAll enc Tryd.prog W 0 (fun _ => true) true Tryd.f7.params.toList args.toList ds p := hA0
  rw [Tryd.params7] at hA hval
  obtain ⟨v0, vs0, d0, ds0, p0, q0, hargs, rfl, rfl, h0, r0⟩ := trodAll_cons hA
  obtain ⟨v1, vs1, d1, ds1, p1, q1, rfl, rfl, rfl, h1, r1⟩ := trodAll_cons r0
  obtain ⟨v2, vs2, d2, ds2, p2, q2, rfl, rfl, rfl, h2, r2⟩ := trodAll_cons r1
  obtain ⟨rfl, rfl, rfl⟩ := trodAll_nil r2
  obtain rfl : args = #[v0, v1, v2] := by cases args; simp_all
  obtain ⟨rfl, rfl⟩ := trodVars_none hV
  obtain ⟨a0, len0, cap0, rfl⟩ := okWide_slice Tryd.underlying43 (hval 0 43 v0 rfl rfl)
  have k0 := h0
  have lt0 : ∀ x ∈ p0, x.block < W.heap.size := by obtain ⟨m, hm⟩ := k0; exact DataW.trod_lt m _ _ _ hm
  obtain ⟨s0, hs0, hrel0⟩ : ∃ s : List Vf.LT, s.length = len0 ∧ Vf.Rel W (fun _ => False) (.row 5 (s.map Vf.LT.av)) (.slice a0 len0 cap0) := by
    obtain ⟨fuel, hf⟩ := h0
    exact Vf.rel_of_things Tryd.underlying43 (by simpa [Value.cells] using hf)
  obtain ⟨a1, len1, cap1, rfl⟩ := okWide_slice Tryd.underlying43 (hval 1 43 v1 rfl rfl)
  have k1 := h1
  have lt1 : ∀ x ∈ p1, x.block < W.heap.size := by obtain ⟨m, hm⟩ := k1; exact DataW.trod_lt m _ _ _ hm
  obtain ⟨s1, hs1, hrel1⟩ : ∃ s : List Vf.LT, s.length = len1 ∧ Vf.Rel W (fun _ => False) (.row 5 (s.map Vf.LT.av)) (.slice a1 len1 cap1) := by
    obtain ⟨fuel, hf⟩ := h1
    exact Vf.rel_of_things Tryd.underlying43 (by simpa [Value.cells] using hf)
  obtain ⟨a2, rfl, rfl, rfl⟩ := open_bool Tryd.underlying4 (hval 2 4 v2 rfl rfl) h2
  rw [MakeChecks.laidMetH_plain _ _ _ (by kernel_rfl)] at hL
  have hG := Vf.gok_of_laid hL hsh (.tail _ (.head _)) (.head _)
  clear hA0 hval0
  refine (Vf.calls_of_D (f := 7) (by kernel_rfl) (Vf.D_IsoSame s0 s1 a2) W [.slice a0 len0 cap0, .slice a1 len1 cap1, .bool a2] hG (.cons _ _ _ _ (hrel0) (.cons _ _ _ _ (hrel1) (.cons _ _ _ _ (.bool _) .nil)))).mono fun e W' ⟨u, he, hag, hr⟩ => ?_
  subst he
  have bel := Vf.Agree.below hag
  cases hr
  exact ⟨_, rfl, _, _, _, [], _, [], hW', trodAll_mk1 (shut_bool Tryd.underlying4 _), (trodAll_cons_mk (Below.trod Vf.laidOut (by kernel_rfl) (of_decide_eq_true (by kernel_rfl)) k0 bel lt0) (trodAll_cons_mk (Below.trod Vf.laidOut (by kernel_rfl) (of_decide_eq_true (by kernel_rfl)) k1 bel lt1) (trodAll_cons_mk (shut_bool Tryd.underlying4 _) trodAll_mk0))), rfl, bel.frame _, fun h => by cases h⟩

theorem over : Rows.isoSameRow.holds Tryd.pinned (OpenSpec.ofChange Rows.isoSameSpec) :=
  OpenClaim.holds_of_wide 7 Tryd.f7 rfl rfl rfl rfl rfl rfl rfl ⟨rfl, rfl, rfl, rfl, rfl⟩ rfl rfl rfl rfl rfl (by kernel_rfl) Tryd.func7 (by kernel_rfl)
    (of_decide_eq_true (by kernel_rfl)) (by unfold Func.isWrapper; first | (rw [if_pos (by decide +kernel)]; kernel_rfl) | (rw [if_neg (by decide +kernel)]; exact ⟨rfl, rfl⟩))
    (fun os started H enc _ => lifted os started H enc)
theorem card : Rows.IsoSameCardSaid :=
  Claim7.holds_tied_plain_at .later [] [.data, .pinned] true (true, "93720f291da6f137a7c92a73f2500cf25d60113bfe44248cb0cc8baaebb5b976") false
    over (fun _ h => by cases h) (by kernel_rfl) (fun _ h => by cases h) isoSame_row_tie rfl ⟨rfl, rfl⟩ (by kernel_rfl) rfl
    (fun f fn hf hfn => by
      obtain rfl : f = 7 := Option.some.inj ((show Tryd.prog.funcNamed "scholium/scholiumlaw18.IsoSame" = some 7 by kernel_rfl).symm.trans hf) |>.symm
      obtain rfl : fn = Tryd.f7 := (Option.some.inj (Tryd.func7.symm.trans hfn)).symm
      exact ⟨by kernel_rfl, fun j t ht => by
        rw [Tryd.params7] at ht
        have hm : t ∈ [43, 43, 4] := by simpa using Array.mem_of_getElem? ht
        have hall : ([43, 43, 4].all fun u => !Tryd.prog.wantsStandIn u) = true := by kernel_rfl
        exact (show Tryd.prog.wantsStandIn t = false by simpa using List.all_eq_true.1 hall t hm)⟩)
    (by kernel_rfl)
end Go.Proofs.YtmpjohnbddnehaaDoor.isoSame
namespace Go.Proofs.YtmpjohnbddnehaaDoor
/-- The statement, under a short name. -/
theorem isoSame_holds : Rows.IsoSameCardSaid := isoSame.card
#print axioms isoSame_holds
end Go.Proofs.YtmpjohnbddnehaaDoor
