/- The law FoldBodies answers true whatever the input, and each argument reads afterwards as it read before. No condition beyond the row's own. -/
import Derived.Test.YtpjpmfchcijikaaDoorVfFoldD
import Derived.Test.YtpjpmfchcijikaaDoorVfRowBase
import Derived.Test.YtpjpmfchcijikaaDoorVfRowHead
import Derived.Test.YtpjpmfchcijikaaDoorCards
import Derived.Test.YtpjpmfchcijikaaDoorTie
import Derived.LaidOnce
import Derived.SevenTiedAt
namespace Go.Proofs.YtpjpmfchcijikaaDoor.foldBodies
open Go.ChangeShapes Go.WideShapes Go.ChangeAt Go.RowKit
open Go.ChangeMaps (open_string shut_string)
set_option linter.unusedVariables false
set_option maxRecDepth 100000 in
theorem lifted (os : Os) (started : os.Started) (H : Type) (enc : TypeId × Value → H) :
    ReturnsInHanded {} Tryd.checked os 4 .any (fun w args => (Rows.foldBodiesSpec.pre enc Tryd.prog Tryd.f4 [] false w args ∧ laidMetH Tryd.prog Vf.tabs w) ∧ sizedMet enc Tryd.prog Tryd.f4 (OpenSpec.ofChange Rows.foldBodiesSpec) false w args)
      (Rows.foldBodiesSpec.post enc Tryd.prog Tryd.f4 false true false false) := by
  refine returnsInHanded_of_change_and (C := Tryd.checked) (X := fun w _ => laidMetH Tryd.prog Vf.tabs w) (fun _ _ _ hh h => h.of_heap hh) Vf.own started (by kernel_rfl) Tryd.func4
    (ChangeSpec.witness_shaped (enc := enc) (C := Tryd.checked) (os := os) (X := fun w _ => laidMetH Tryd.prog Vf.tabs w) false (World.laidAll Tryd.prog os Vf.tabs) #[.string .empty, .int .i64 0, .int .i64 0, .agg #[.bool false, .bool false, .bool false, .int .i64 0]] 8 (World.laidAll_os _ _ _)
      (World.shaped_of_ZipB (by kernel_rfl) (by kernel_rfl)) (by kernel_rfl) (by kernel_rfl) (by kernel_rfl)
      (by rw [MakeChecks.laidMetH_plain _ _ _ (by kernel_rfl)]; exact laidMet_laidAll _ (by kernel_rfl) (by kernel_rfl))) ?_
  intro W base args ds gs before hval0 hW _ _ hL _
  have hval : ∀ (j : Nat) t v, Tryd.f4.params[j]? = some t → args[j]? = some v → Value.okWide Tryd.prog W .any base t v := hval0
  have hW' := hW
  obtain ⟨p, q, hA0, hV, rfl, hfz, hnd⟩ := hW
  have hA : DataW.TrodAll enc Tryd.prog W 0 (fun _ => true) true Tryd.f4.params.toList args.toList ds p := hA0
  rw [Tryd.params4] at hA hval
  obtain ⟨v0, vs0, d0, ds0, p0, q0, hargs, rfl, rfl, h0, r0⟩ := trodAll_cons hA
  obtain ⟨v1, vs1, d1, ds1, p1, q1, rfl, rfl, rfl, h1, r1⟩ := trodAll_cons r0
  obtain ⟨v2, vs2, d2, ds2, p2, q2, rfl, rfl, rfl, h2, r2⟩ := trodAll_cons r1
  obtain ⟨v3, vs3, d3, ds3, p3, q3, rfl, rfl, rfl, h3, r3⟩ := trodAll_cons r2
  obtain ⟨rfl, rfl, rfl⟩ := trodAll_nil r3
  obtain rfl : args = #[v0, v1, v2, v3] := by cases args; simp_all
  obtain ⟨rfl, rfl⟩ := trodVars_none hV
  obtain ⟨a0, rfl, rfl, rfl, w0⟩ := open_string Tryd.underlying9 (hval 0 9 v0 rfl rfl) h0
  obtain ⟨a1, rfl, rfl, rfl, w1⟩ := open_int Tryd.underlying3 (hval 1 3 v1 rfl rfl) h1
  obtain ⟨a2, rfl, rfl, rfl, w2⟩ := open_int Tryd.underlying3 (hval 2 3 v2 rfl rfl) h2
  obtain ⟨c3, rfl, hc3⟩ := okWide_struct Tryd.underlying32 (hval 3 32 v3 rfl rfl)
  have k3 := h3
  have lt3 : ∀ x ∈ p3, x.block < W.heap.size := by obtain ⟨m, hm⟩ := k3; exact DataW.trod_lt m _ _ _ hm
  obtain ⟨F3, S3, K3, d3, hd3⟩ : ∃ (F S K : Bool) (d : Int), c3 = #[.bool F, .bool S, .bool K, .int .i64 d] := by
    obtain ⟨fuel, hf⟩ := h3
    obtain ⟨F, S, K, d, e⟩ := Vf.header_of hf
    exact ⟨F, S, K, d, Array.toList_inj.1 e⟩
  subst hd3
  rw [MakeChecks.laidMetH_plain _ _ _ (by kernel_rfl)] at hL
  have hG := Vf.gok_of_laid hL
  clear hA0 hval0
  refine (Vf.calls_of_D (f := 4) (by kernel_rfl) (Vf.D_FoldBodies a0.data.toList a1 a2 F3 S3 K3 d3) W [.string a0, .int .i64 a1, .int .i64 a2, .agg #[.bool F3, .bool S3, .bool K3, .int .i64 d3]] hG (.cons _ _ _ _ (.str _) (.cons _ _ _ _ (.int _ _) (.cons _ _ _ _ (.int _ _) (.cons _ _ _ _ (.agg _ [_, _, _, _] (.cons _ _ _ _ (.bool _) (.cons _ _ _ _ (.bool _) (.cons _ _ _ _ (.bool _) (.cons _ _ _ _ (.int _ _) .nil))))) .nil))))).mono fun e W' ⟨u, he, hag, hr⟩ => ?_
  subst he
  have bel := Vf.Agree.below hag
  cases hr
  exact ⟨_, rfl, _, _, _, [], _, [], hW', trodAll_mk1 (shut_bool Tryd.underlying4 _), (trodAll_cons_mk (shut_string Tryd.underlying9 w0) (trodAll_cons_mk (shut_int Tryd.underlying3 w1) (trodAll_cons_mk (shut_int Tryd.underlying3 w2) (trodAll_cons_mk (Below.trod Vf.laidOut (by kernel_rfl) (of_decide_eq_true (by kernel_rfl)) k3 bel lt3) trodAll_mk0)))), rfl, bel.frame _, fun h => by cases h⟩

theorem over : Rows.foldBodiesRow.holds Tryd.pinned (OpenSpec.ofChange Rows.foldBodiesSpec) :=
  OpenClaim.holds_of_wide 4 Tryd.f4 rfl rfl rfl rfl rfl rfl rfl ⟨rfl, rfl, rfl, rfl, rfl⟩ rfl rfl rfl rfl rfl (by kernel_rfl) Tryd.func4 (by kernel_rfl)
    (of_decide_eq_true (by kernel_rfl)) (by unfold Func.isWrapper; first | (rw [if_pos (by decide +kernel)]; kernel_rfl) | (rw [if_neg (by decide +kernel)]; exact ⟨rfl, rfl⟩))
    (fun os started H enc _ => lifted os started H enc)
theorem card : Rows.FoldBodiesCardSaid :=
  Claim7.holds_tied_plain_at .later [] [.data, .pinned] true (true, "1d9a582eff7dfb86a5c3169cf54d06e22624961b1a1103bbf18e1bda6bd54c75") false
    over (fun _ h => by cases h) (by kernel_rfl) (fun _ h => by cases h) foldBodies_row_tie rfl ⟨rfl, rfl⟩ (by kernel_rfl) rfl
    (fun f fn hf hfn => by
      obtain rfl : f = 4 := Option.some.inj ((show Tryd.prog.funcNamed "scholium/scholiumlaw07.FoldBodies" = some 4 by kernel_rfl).symm.trans hf) |>.symm
      obtain rfl : fn = Tryd.f4 := (Option.some.inj (Tryd.func4.symm.trans hfn)).symm
      exact ⟨by kernel_rfl, fun j t ht => by
        rw [Tryd.params4] at ht
        have hm : t ∈ [9, 3, 3, 32] := by simpa using Array.mem_of_getElem? ht
        have hall : ([9, 3, 3, 32].all fun u => !Tryd.prog.wantsStandIn u) = true := by kernel_rfl
        exact (show Tryd.prog.wantsStandIn t = false by simpa using List.all_eq_true.1 hall t hm)⟩)
    (by kernel_rfl)
end Go.Proofs.YtpjpmfchcijikaaDoor.foldBodies
namespace Go.Proofs.YtpjpmfchcijikaaDoor
/-- The statement, under a short name. -/
theorem foldBodies_holds : Rows.FoldBodiesCardSaid := foldBodies.card
#print axioms foldBodies_holds
end Go.Proofs.YtpjpmfchcijikaaDoor
