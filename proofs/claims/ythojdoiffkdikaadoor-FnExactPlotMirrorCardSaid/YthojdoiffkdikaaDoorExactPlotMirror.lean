/- Whatever the text: the program's PlotMirror returns what the reference's returns, at the memory and schedule of the row; the row lists two library tables, which the card ties to the text. -/
import Derived.Test.YthojdoiffkdikaaDoorPlotMir
import Derived.Test.YthojdoiffkdikaaDoorDoor
namespace Go.Proofs.YthojdoiffkdikaaDoor
open Go.ChangeShapes Go.WideShapes Go.ChangeAt Go.RowKit Go.PlotT

set_option maxRecDepth 100000 in
set_option maxHeartbeats 1000000 in
theorem exactPlotMirror_walk (s : ByteArray) (m : Int) (w : World) (hm : w.cell? ⟨0, 0, none⟩ = some (.int .i64 m)) :
    Calls Tryd.prog 4 #[.string s] w fun e w' => e = .returned (.bool true) ∧ Below w.heap.size w w' := by
  by_cases hs : s.size ≤ 1048576
  · have hlt := block_lt_of_cell hm
    have HM := Lib.hid hm
    clear hm
    go_enter Tryd.func4, Tryd.ntmps4
    go_wp2_with (first
      | (go_at_call 9; go_must (refine (specPlotMirror_any s hs _).mono ?_; intro e w1 hpost; obtain ⟨rfl, hb⟩ := (show _ ∧ _ from hpost); have HM1 := Lib.hid ((hb.cell (p := ⟨0, 0, none⟩) hlt).trans HM.out); have HB := Lib.hid hb; have hsz := hb.size; clear hb hpost))
      | (go_at_call 10; go_must (refine (plotMirror_any s m _ HM1.out).mono ?_; intro e w2 hpost; obtain ⟨rfl, hb⟩ := (show _ ∧ _ from hpost); have HB2 := Lib.hid (HB.out.trans (hb.mono hsz)); clear hb hpost)))
    go_returns
    exact ⟨rfl, HB2.out⟩
  · have hs2 : 1048576 < (s.size : Int) := by omega
    clear hm
    go_enter Tryd.func4, Tryd.ntmps4
    go_wp2_with fail
    go_returns
    exact ⟨rfl, Below.refl _ _⟩

set_option maxRecDepth 100000 in
theorem exactPlotMirror_lifted (os : Os) (started : os.Started) (H : Type) (enc : TypeId × Value → H) :
    ReturnsInHanded {} Tryd.checked os 4 .any (fun w args => (Rows.fnExactPlotMirrorSpec.pre enc Tryd.prog Tryd.f4 Rows.fnExactPlotMirrorRow.domain false w args ∧ laidMetH Tryd.prog Rows.fnExactPlotMirrorRow.laid w) ∧ sizedMet enc Tryd.prog Tryd.f4 (OpenSpec.ofChange Rows.fnExactPlotMirrorSpec) false w args)
      (Rows.fnExactPlotMirrorSpec.post enc Tryd.prog Tryd.f4 false true false false) := by
  refine returnsInHanded_door (C := Tryd.checked) (X := fun w _ => laidMetH Tryd.prog Rows.fnExactPlotMirrorRow.laid w) (fun _ _ _ hh h => h.of_heap hh) ownD started (by kernel_rfl) Tryd.func4
    (ChangeSpec.witness_shaped (enc := enc) (C := Tryd.checked) (os := os) (X := fun w _ => laidMetH Tryd.prog Rows.fnExactPlotMirrorRow.laid w) false (World.laidAll Tryd.prog os Rows.fnExactPlotMirrorRow.laid) #[.string ⟨#[]⟩] 8 (World.laidAll_os _ _ _)
      (World.shaped_of_ZipB (by kernel_rfl) (by kernel_rfl)) (by kernel_rfl) (by kernel_rfl) (by kernel_rfl)
      (by rw [MakeChecks.laidMetH_plain _ _ _ (by kernel_rfl)]; exact laidMet_laidAll _ (by kernel_rfl) (by kernel_rfl))) ?_
  intro W base args ds gs before hval0 hW _ hsh
  have hval : ∀ (j : Nat) t v, Tryd.f4.params[j]? = some t → args[j]? = some v → Value.okWide Tryd.prog W .any base t v := hval0
  have hW' := hW
  obtain ⟨p, q, hA0, hV, rfl, hfz, hnd⟩ := hW
  have hA : DataW.TrodAll enc Tryd.prog W 0 (fun _ => true) true Tryd.f4.params.toList args.toList ds p := hA0
  rw [Tryd.params4] at hA hval
  obtain ⟨v0, d0, rfl, rfl, h0⟩ := trodAll_one hA
  obtain ⟨rfl, rfl⟩ := trodVars_none hV
  obtain ⟨s, rfl, rfl, rfl, ws⟩ := Go.ChangeMaps.open_string Tryd.underlying9 (hval 0 9 v0 rfl rfl) h0
  clear hA0 hval0
  obtain ⟨m, hm⟩ := Tryd.laysM146.s1_3 W hsh
  refine (exactPlotMirror_walk s m W hm).mono fun e W' ⟨he, bel⟩ => ?_
  subst he
  exact ⟨_, rfl, _, _, _, [], _, [], hW', trodAll_mk1 (shut_bool Tryd.underlying4 _), trodAll_mk1 (Go.ChangeMaps.shut_string Tryd.underlying9 ws), rfl, bel.frame _, fun h => by cases h⟩

theorem exactPlotMirror_row : Rows.FnExactPlotMirrorSaid :=
  OpenClaim.holds_of_wide 4 Tryd.f4 rfl rfl rfl rfl rfl rfl rfl ⟨rfl, rfl, rfl, rfl, rfl⟩ rfl rfl rfl rfl rfl (by kernel_rfl) Tryd.func4 (by kernel_rfl)
    (of_decide_eq_true (by kernel_rfl)) (by unfold Func.isWrapper; first | (rw [if_pos (by decide +kernel)]; kernel_rfl) | (rw [if_neg (by decide +kernel)]; exact ⟨rfl, rfl⟩))
    (fun os started H enc _ => exactPlotMirror_lifted os started H enc)
theorem fnExactPlotMirror_holds : Rows.FnExactPlotMirrorCardSaid :=
  Claim7.holds_tied_plain_at .later [] [.data, .pinned] true (true, "b300960e0bc46f6cc6f39be4764f703dee7e95c36c54d33a056955e885a5cf2a") true exactPlotMirror_row (fun _ h => by cases h) (by kernel_rfl) (fun _ h => by cases h) fnExactPlotMirror_row_tie rfl ⟨rfl, rfl⟩ (by kernel_rfl) rfl
    (fun f fn hf hfn => by
      obtain rfl : f = 4 := Option.some.inj ((show Tryd.prog.funcNamed "loop.example/turningwheels/laws.FnExactPlotMirror" = some 4 by kernel_rfl).symm.trans hf) |>.symm
      obtain rfl : fn = Tryd.f4 := (Option.some.inj (Tryd.func4.symm.trans hfn)).symm
      exact ⟨by kernel_rfl, fun j t ht => by
        rw [Tryd.params4] at ht
        have hm : t ∈ [9] := by simpa using Array.mem_of_getElem? ht
        have hall : ([9].all fun u => !Tryd.prog.wantsStandIn u) = true := by kernel_rfl
        exact (show Tryd.prog.wantsStandIn t = false by simpa using List.all_eq_true.1 hall t hm)⟩)
    (by kernel_rfl)
#print axioms fnExactPlotMirror_holds
end Go.Proofs.YthojdoiffkdikaaDoor
