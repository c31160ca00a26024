/- Whatever the text: the program's PlotFold returns what the reference's returns, at the memory and schedule of the row; the row lists five library tables, which the card ties to the text. -/
import Derived.Test.YthojdoiffkdikaaDoorPlotN
import Derived.Test.YthojdoiffkdikaaDoorDoor
namespace Go.Proofs.YthojdoiffkdikaaDoor
open Go.ChangeShapes Go.WideShapes Go.ChangeAt Go.RowKit Go.PlotT

set_option maxRecDepth 100000 in
set_option maxHeartbeats 1000000 in
theorem exactPlotFold_walk (s : ByteArray) (m : Int) (w : World) (hm : w.cell? ⟨0, 0, none⟩ = some (.int .i64 m)) :
    Calls Tryd.prog 3 #[.string s] w fun e w' => e = .returned (.bool true) ∧ Below w.heap.size w w' := by
  by_cases hs : s.size ≤ 1048576
  · have hlt := block_lt_of_cell hm
    have HM := Lib.hid hm
    clear hm
    go_enter Tryd.func3, Tryd.ntmps3
    go_wp2_with (first
      | (go_at_call 7; go_must (refine (specPlotFold_any s hs _).mono ?_; intro e w1 hpost; obtain ⟨rfl, hb⟩ := (show _ ∧ _ from hpost); have HM1 := Lib.hid ((hb.cell (p := ⟨0, 0, none⟩) hlt).trans HM.out); have HB := Lib.hid hb; have hsz := hb.size; clear hb hpost))
      | (go_at_call 8; go_must (refine (plotFold_any s m _ HM1.out).mono ?_; intro e w2 hpost; obtain ⟨rfl, hb⟩ := (show _ ∧ _ from hpost); have HB2 := Lib.hid (HB.out.trans (hb.mono hsz)); clear hb hpost)))
    go_returns
    exact ⟨rfl, HB2.out⟩
  · have hs2 : 1048576 < (s.size : Int) := by omega
    clear hm
    go_enter Tryd.func3, Tryd.ntmps3
    go_wp2_with fail
    go_returns
    exact ⟨rfl, Below.refl _ _⟩

set_option maxRecDepth 100000 in
theorem exactPlotFold_lifted (os : Os) (started : os.Started) (H : Type) (enc : TypeId × Value → H) :
    ReturnsInHanded {} Tryd.checked os 3 .any (fun w args => (Rows.fnExactPlotFoldSpec.pre enc Tryd.prog Tryd.f3 Rows.fnExactPlotFoldRow.domain false w args ∧ laidMetH Tryd.prog Rows.fnExactPlotFoldRow.laid w) ∧ sizedMet enc Tryd.prog Tryd.f3 (OpenSpec.ofChange Rows.fnExactPlotFoldSpec) false w args)
      (Rows.fnExactPlotFoldSpec.post enc Tryd.prog Tryd.f3 false true false false) := by
  refine returnsInHanded_door (C := Tryd.checked) (X := fun w _ => laidMetH Tryd.prog Rows.fnExactPlotFoldRow.laid w) (fun _ _ _ hh h => h.of_heap hh) ownD started (by kernel_rfl) Tryd.func3
    (ChangeSpec.witness_shaped (enc := enc) (C := Tryd.checked) (os := os) (X := fun w _ => laidMetH Tryd.prog Rows.fnExactPlotFoldRow.laid w) false (World.laidAll Tryd.prog os Rows.fnExactPlotFoldRow.laid) #[.string ⟨#[]⟩] 8 (World.laidAll_os _ _ _)
      (World.shaped_of_ZipB (by kernel_rfl) (by kernel_rfl)) (by kernel_rfl) (by kernel_rfl) (by kernel_rfl)
      (by rw [MakeChecks.laidMetH_plain _ _ _ (by kernel_rfl)]; exact laidMet_laidAll _ (by kernel_rfl) (by kernel_rfl))) ?_
  intro W base args ds gs before hval0 hW _ hsh
  have hval : ∀ (j : Nat) t v, Tryd.f3.params[j]? = some t → args[j]? = some v → Value.okWide Tryd.prog W .any base t v := hval0
  have hW' := hW
  obtain ⟨p, q, hA0, hV, rfl, hfz, hnd⟩ := hW
  have hA : DataW.TrodAll enc Tryd.prog W 0 (fun _ => true) true Tryd.f3.params.toList args.toList ds p := hA0
  rw [Tryd.params3] at hA hval
  obtain ⟨v0, d0, rfl, rfl, h0⟩ := trodAll_one hA
  obtain ⟨rfl, rfl⟩ := trodVars_none hV
  obtain ⟨s, rfl, rfl, rfl, ws⟩ := Go.ChangeMaps.open_string Tryd.underlying9 (hval 0 9 v0 rfl rfl) h0
  clear hA0 hval0
  obtain ⟨m, hm⟩ := Tryd.laysM146.s1_3 W hsh
  refine (exactPlotFold_walk s m W hm).mono fun e W' ⟨he, bel⟩ => ?_
  subst he
  exact ⟨_, rfl, _, _, _, [], _, [], hW', trodAll_mk1 (shut_bool Tryd.underlying4 _), trodAll_mk1 (Go.ChangeMaps.shut_string Tryd.underlying9 ws), rfl, bel.frame _, fun h => by cases h⟩

theorem exactPlotFold_row : Rows.FnExactPlotFoldSaid :=
  OpenClaim.holds_of_wide 3 Tryd.f3 rfl rfl rfl rfl rfl rfl rfl ⟨rfl, rfl, rfl, rfl, rfl⟩ rfl rfl rfl rfl rfl (by kernel_rfl) Tryd.func3 (by kernel_rfl)
    (of_decide_eq_true (by kernel_rfl)) (by unfold Func.isWrapper; first | (rw [if_pos (by decide +kernel)]; kernel_rfl) | (rw [if_neg (by decide +kernel)]; exact ⟨rfl, rfl⟩))
    (fun os started H enc _ => exactPlotFold_lifted os started H enc)
theorem fnExactPlotFold_holds : Rows.FnExactPlotFoldCardSaid :=
  Claim7.holds_tied_plain_at .later [] [.data, .data, .data, .data, .pinned] true (true, "b300960e0bc46f6cc6f39be4764f703dee7e95c36c54d33a056955e885a5cf2a") true exactPlotFold_row (fun _ h => by cases h) (by kernel_rfl) (fun _ h => by cases h) fnExactPlotFold_row_tie rfl ⟨rfl, rfl⟩ (by kernel_rfl) rfl
    (fun f fn hf hfn => by
      obtain rfl : f = 3 := Option.some.inj ((show Tryd.prog.funcNamed "loop.example/turningwheels/laws.FnExactPlotFold" = some 3 by kernel_rfl).symm.trans hf) |>.symm
      obtain rfl : fn = Tryd.f3 := (Option.some.inj (Tryd.func3.symm.trans hfn)).symm
      exact ⟨by kernel_rfl, fun j t ht => by
        rw [Tryd.params3] at ht
        have hm : t ∈ [9] := by simpa using Array.mem_of_getElem? ht
        have hall : ([9].all fun u => !Tryd.prog.wantsStandIn u) = true := by kernel_rfl
        exact (show Tryd.prog.wantsStandIn t = false by simpa using List.all_eq_true.1 hall t hm)⟩)
    (by kernel_rfl)
#print axioms fnExactPlotFold_holds
end Go.Proofs.YthojdoiffkdikaaDoor
