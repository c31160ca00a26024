/- laws.FnExactDesignText returns true, whatever it is called with: the walk. -/
import Derived.Test.YthojdoiffkdikaaDoorTab
import Derived.Test.YthojdoiffkdikaaDoorRowOf
import Derived.Test.YthojdoiffkdikaaDoorWheelD
namespace Go.Proofs.YthojdoiffkdikaaDoor
open Go.ChangeShapes Go.WideShapes Go.ChangeAt Go.RowKit

theorem HasW.made' {w : World} {xs : List W9} {T : TypeId} {os : Array Obj} {d b : Nat} (hb : b = w.heap.size) : HasW (Go.Proofs.YthojdoiffkdikaaDoor.more (w.alloc (.cells (rowsW xs) T)) os d) (some ⟨b, 0, none⟩) xs := by
  subst hb; exact HasW.made w xs T os d
set_option maxRecDepth 100000 in
set_option maxHeartbeats 4000000 in
theorem fnExactDesignText_any (a : Option Addr) (cap : Nat) (xs : List W9) (W : World) (hx : HasWC W W.heap.size a xs) (hc : xs.length ≤ cap) (hm : xs.length ≤ 9223372036854775807) (ht : Tab10 W) :
    Calls Tryd.prog 6 #[.slice a xs.length cap] W fun e w' => e = .returned (.bool true) ∧ Below W.heap.size W w' := by
  by_cases hn : xs.length ≤ 1048576
  · have HX := Lib.hid hx
    have HT := Lib.hid ht
    obtain ⟨S, hS⟩ : ∃ S : ByteArray, (⟨((textR xs).getD []).toArray⟩ : ByteArray) = S := ⟨_, rfl⟩
    obtain ⟨B, hB⟩ : ∃ B : Bool, (textR xs).isSome = B := ⟨_, rfl⟩
    have HS := Lib.hid hS
    have HBB := Lib.hid hB
    clear hx ht hS hB
    go_enter Tryd.func6, Tryd.ntmps6
    go_wp2_with fail
    refine (szWheelS_any _ _ _ _ (by omega) (by omega) hm _).mono ?_
    rw [if_neg (by omega)]
    rintro e w' ⟨rfl, rfl⟩
    go_wp2_with fail
    refine (toWheelS_any a cap xs _ W W.heap.size HX.out (by repeat' (first | (with_reducible assumption) | (with_reducible exact Below.refl _ _) | (with_reducible refine Below.alloc ?_ ?_ _) | (with_reducible refine below_more ?_ ?_ _ _) | (with_reducible refine below_rd ?_ ?_ _ _) | (with_reducible refine Below.drew ?_) | (first | omega | (simp; omega) | (simp; done)))) (by (first | omega | (simp; omega) | (simp; done))) hn hc).mono ?_
    rintro e w' ⟨rfl, os1, d1, rfl⟩
    go_wp2_with fail
    refine (specDesignText_any _ _ xs _ (HasW.made' (by (first | omega | (simp; omega) | (simp; done)))) hn).mono ?_
    rintro e w' ⟨rfl, hb⟩; obtain ⟨os2, d2, rfl⟩ := more_of_below hb; clear hb
    rw [HS.out, HBB.out]
    go_wp2_with fail
    refine (toWheelS_any a cap xs _ W W.heap.size HX.out (by repeat' (first | (with_reducible assumption) | (with_reducible exact Below.refl _ _) | (with_reducible refine Below.alloc ?_ ?_ _) | (with_reducible refine below_more ?_ ?_ _ _) | (with_reducible refine below_rd ?_ ?_ _ _) | (with_reducible refine Below.drew ?_) | (first | omega | (simp; omega) | (simp; done)))) (by (first | omega | (simp; omega) | (simp; done))) hn hc).mono ?_
    rintro e w' ⟨rfl, os3, d3, rfl⟩
    go_wp2_with fail
    refine (designText_any _ _ xs _ (HasW.made' (by (first | omega | (simp; omega) | (simp; done)))) hn (HT.out.below (by repeat' (first | (with_reducible assumption) | (with_reducible exact Below.refl _ _) | (with_reducible refine Below.alloc ?_ ?_ _) | (with_reducible refine below_more ?_ ?_ _ _) | (with_reducible refine below_rd ?_ ?_ _ _) | (with_reducible refine Below.drew ?_) | (first | omega | (simp; omega) | (simp; done)))))).mono ?_
    rintro e w' ⟨rfl, hb⟩; obtain ⟨os4, d4, rfl⟩ := more_of_below hb; clear hb
    rw [HS.out, HBB.out]
    go_wp2_with fail
    refine (toWheelS_any a cap xs _ W W.heap.size HX.out (by repeat' (first | (with_reducible assumption) | (with_reducible exact Below.refl _ _) | (with_reducible refine Below.alloc ?_ ?_ _) | (with_reducible refine below_more ?_ ?_ _ _) | (with_reducible refine below_rd ?_ ?_ _ _) | (with_reducible refine Below.drew ?_) | (first | omega | (simp; omega) | (simp; done)))) (by (first | omega | (simp; omega) | (simp; done))) hn hc).mono ?_
    rintro e w' ⟨rfl, os6, d6, rfl⟩
    go_wp2_with fail
    refine (eqWheelS_same _ _ _ _ xs _ (HasW.more (HasW.alloc (HasW.made' (by (first | omega | (simp; omega) | (simp; done)))) _) _ _) (HasW.made' (by (first | omega | (simp; omega) | (simp; done)))) hn).mono ?_
    rintro e w' ⟨rfl, hb⟩; obtain ⟨os7, d7, rfl⟩ := more_of_below hb; clear hb
    go_wp2
    go_ret
    exact ⟨rfl, by repeat' (first | (with_reducible exact Below.refl _ _) | (with_reducible assumption) | (with_reducible refine Below.alloc ?_ ?_ _) | (with_reducible refine below_more ?_ ?_ _ _) | (with_reducible refine below_rd ?_ ?_ _ _) | (with_reducible refine Below.drew ?_) | (with_reducible refine Below.setCell ?_ ?_ _) | go_size)⟩
  · go_enter Tryd.func6, Tryd.ntmps6
    go_wp2_with fail
    refine (szWheelS_any _ _ _ _ (by omega) (by omega) hm _).mono ?_
    rw [if_pos (by omega)]
    rintro e w' ⟨rfl, rfl⟩
    go_wp2
    go_ret
    exact ⟨rfl, by repeat' (first | (with_reducible exact Below.refl _ _) | (with_reducible assumption) | (with_reducible refine Below.alloc ?_ ?_ _) | (with_reducible refine below_more ?_ ?_ _ _) | (with_reducible refine below_rd ?_ ?_ _ _) | (with_reducible refine Below.drew ?_) | (with_reducible refine Below.setCell ?_ ?_ _) | go_size)⟩
set_option maxRecDepth 100000 in
theorem exactDesignText_lifted (os : Os) (started : os.Started) (H : Type) (enc : TypeId × Value → H) :
    ReturnsInHanded {} Tryd.checked os 6 .any (fun w args => (Rows.fnExactDesignTextSpec.pre enc Tryd.prog Tryd.f6 Rows.fnExactDesignTextRow.domain false w args ∧ laidMetH Tryd.prog Rows.fnExactDesignTextRow.laid w) ∧ sizedMet enc Tryd.prog Tryd.f6 (OpenSpec.ofChange Rows.fnExactDesignTextSpec) false w args)
      (Rows.fnExactDesignTextSpec.post enc Tryd.prog Tryd.f6 false true false false) := by
  refine returnsInHanded_door (C := Tryd.checked) (X := fun w _ => laidMetH Tryd.prog Rows.fnExactDesignTextRow.laid w) (fun _ _ _ hh h => h.of_heap hh) ownD started (by kernel_rfl) Tryd.func6
    (ChangeSpec.witness_shaped (enc := enc) (C := Tryd.checked) (os := os) (X := fun w _ => laidMetH Tryd.prog Rows.fnExactDesignTextRow.laid w) false (World.laidAll Tryd.prog os Rows.fnExactDesignTextRow.laid) #[.slice none 0 0] 8 (World.laidAll_os _ _ _)
      (World.shaped_of_ZipB (by kernel_rfl) (by kernel_rfl)) (by kernel_rfl) (by kernel_rfl) (by kernel_rfl)
      (by rw [MakeChecks.laidMetH_plain _ _ _ (by kernel_rfl)]; exact laidMet_laidAll _ (by kernel_rfl) (by kernel_rfl))) ?_
  intro W base args ds gs before hval0 hW hL _
  have hval : ∀ (j : Nat) t v, Tryd.f6.params[j]? = some t → args[j]? = some v → Value.okWide Tryd.prog W .any base t v := hval0
  have hW' := hW
  obtain ⟨p, q, hA0, hV, rfl, hfz, hnd⟩ := hW
  have hA : DataW.TrodAll enc Tryd.prog W 0 (fun _ => true) true Tryd.f6.params.toList args.toList ds p := hA0
  rw [Tryd.params6] at hA hval
  obtain ⟨v0, vs0, d0, ds0, p0, q0, hargs, rfl, rfl, h0, r0⟩ := trodAll_cons hA
  obtain ⟨rfl, rfl, rfl⟩ := trodAll_nil r0
  obtain rfl : args = #[v0] := by cases args; simp_all
  obtain ⟨rfl, rfl⟩ := trodVars_none hV
  have k0 := h0
  have lt0 : ∀ x ∈ p0, x.block < W.heap.size := by obtain ⟨m, hm⟩ := k0; exact DataW.trod_lt m _ _ _ hm
  obtain ⟨a, acap, axs, rfl, ahc, ahx, ahm⟩ : ∃ (a : Option Addr) (cap : Nat) (xs : List W9), v0 = .slice a xs.length cap ∧ xs.length ≤ cap ∧ HasWC W W.heap.size a xs ∧ xs.length ≤ 9223372036854775807 := open_wheels (hval 0 28 v0 rfl rfl) h0
  clear hA0 hval0
  have htab : Tab10 W := tab10_of hL (by kernel_rfl) (by kernel_rfl)
  refine (fnExactDesignText_any a acap axs W ahx ahc ahm htab).mono fun e W' ⟨he, bel⟩ => ?_
  subst he
  exact ⟨_, rfl, _, _, _, [], _, [], hW', trodAll_mk1 (shut_bool Tryd.underlying4 _), (trodAll_cons_mk (Below.trod laidOutD (by kernel_rfl) (of_decide_eq_true (by kernel_rfl)) k0 bel lt0) trodAll_mk0), rfl, bel.frame _, fun h => by cases h⟩

theorem exactDesignText_row : Rows.FnExactDesignTextSaid :=
  OpenClaim.holds_of_wide 6 Tryd.f6 rfl rfl rfl rfl rfl rfl rfl ⟨rfl, rfl, rfl, rfl, rfl⟩ rfl rfl rfl rfl rfl (by kernel_rfl) Tryd.func6 (by kernel_rfl)
    (of_decide_eq_true (by kernel_rfl)) (by unfold Func.isWrapper; first | (rw [if_pos (by decide +kernel)]; kernel_rfl) | (rw [if_neg (by decide +kernel)]; exact ⟨rfl, rfl⟩))
    (fun os started H enc _ => exactDesignText_lifted os started H enc)
theorem fnExactDesignText_holds : Rows.FnExactDesignTextCardSaid :=
  Claim7.holds_tied_plain_at .later [] [.data, .data, .data] true (true, "b300960e0bc46f6cc6f39be4764f703dee7e95c36c54d33a056955e885a5cf2a") true exactDesignText_row (fun _ h => by cases h) (by kernel_rfl) (fun _ h => by cases h) fnExactDesignText_row_tie rfl ⟨rfl, rfl⟩ (by kernel_rfl) rfl
    (fun f fn hf hfn => by
      obtain rfl : f = 6 := Option.some.inj ((show Tryd.prog.funcNamed "loop.example/turningwheels/laws.FnExactDesignText" = some 6 by kernel_rfl).symm.trans hf) |>.symm
      obtain rfl : fn = Tryd.f6 := (Option.some.inj (Tryd.func6.symm.trans hfn)).symm
      exact ⟨by kernel_rfl, fun j t ht => by
        rw [Tryd.params6] at ht
        have hm : t ∈ [28] := by simpa using Array.mem_of_getElem? ht
        have hall : ([28].all fun u => !Tryd.prog.wantsStandIn u) = true := by kernel_rfl
        exact (show Tryd.prog.wantsStandIn t = false by simpa using List.all_eq_true.1 hall t hm)⟩)
    (by kernel_rfl)
#print axioms fnExactDesignText_holds
end Go.Proofs.YthojdoiffkdikaaDoor
