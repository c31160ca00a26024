/- Whatever the text: the program's DesignRead returns what the reference's returns, and memory that it shares with no other result; the row lists library tables and errors, which the card ties to the text. -/
import Derived.Test.YthojdoiffkdikaaGreatDoorRdE
import Derived.Test.YthojdoiffkdikaaGreatDoorTabE
namespace Go.Proofs.YthojdoiffkdikaaGreatDoor
open Go.ChangeShapes Go.WideShapes Go.ChangeAt Go.RowKit Go.PlotT

set_option maxRecDepth 100000 in
set_option maxHeartbeats 4000000 in
theorem exactDesignRead_walk (s : ByteArray) (w : World) (hE : Env w) :
    Calls Tryz.prog 4 #[.string s] w fun e w' => e = .returned (.bool true) ∧ Below w.heap.size w w' := by
  by_cases hs : s.size ≤ 1048576
  · obtain ⟨r, hr⟩ : ∃ r, readS s.data.toList = r := ⟨_, rfl⟩
    have hr2 : readI s.data.toList = r := by rw [read_same, hr]
    have hn : (r.getD []).length ≤ 12 := by
      cases r with
      | none => simp
      | some t => exact (dvOk_mem (tidyR_ok (readS_tidy hr).1)).1
    have HS := Lib.hid (fun W => specDesignRead_any s W)
    have HI := Lib.hid (fun W hW => designRead_any s W hW)
    rw [hr] at HS
    rw [hr2] at HI
    have HE := Lib.hid hE
    clear hr hr2 hE
    obtain ⟨bo, hbo⟩ : ∃ b, r.isSome = b := ⟨_, rfl⟩
    have HBO := Lib.hid hbo
    clear hbo
    generalize hxs : r.getD [] = xs at hn
    have HXS := Lib.hid hxs
    clear hxs
    go_enter Tryz.func4, Tryz.ntmps4
    go_wp2_with fail
    refine (HS.out _).mono ?_
    rintro e w1 ⟨v0, rfl, ho0, hb1⟩
    rw [HBO.out]
    rw [HXS.out] at ho0
    obtain ⟨a0, k0, rfl, hp0⟩ := ho0.hasW
    have HO0 := Lib.hid ho0
    have HP0 := Lib.hid hp0
    have HB1 := Lib.hid hb1
    clear ho0 hp0 hb1
    go_wp2_with fail
    refine (HI.out _ (HE.out.below HB1.out)).mono ?_
    rintro e w2 ⟨v1, rfl, ho1, hb2⟩
    rw [HBO.out]
    rw [HXS.out] at ho1
    obtain ⟨a1, k1, rfl, -, hp1⟩ := ho1.hasW
    have HO1 := Lib.hid ho1
    have HP1 := Lib.hid hp1
    have HQ0 := Lib.hid (HP0.out.on hb2)
    have HOQ0 := Lib.hid (HO0.out.keep hb2)
    have HB2 := Lib.hid (HB1.out.trans (hb2.mono HB1.out.size))
    have HS1 := Lib.hid hb2.size
    clear ho1 hp1 hb2
    go_wp2_with fail
    refine (eqWheelS_same a1 a0 k1 k0 xs _ HP1.out HQ0.out (by omega)).mono ?_
    rintro e w3 ⟨rfl, hb3⟩
    have HO3 := Lib.hid (HO1.out.keep hb3)
    have HP3 := Lib.hid (HOQ0.out.keep hb3)
    have HB3 := Lib.hid (HB2.out.trans (hb3.mono HB2.out.size))
    clear hb3
    cases bo
    all_goals
      go_wp2_with fail
      refine (markWheelL_any HO3.out (by omega) 1 (by omega) (by omega)).mono ?_
      rintro e w4 ⟨rfl, hg4, hh4⟩
      have HH4 := Lib.hid hh4
      have HB4 := Lib.hid (HB3.out.grown hg4 HB3.out.size (fun k hk => by have := (HO3.out.lt k hk).1; have := HB1.out.size; omega))
      have HP4 := Lib.hid (HP3.out.mark hg4 (fun k h1 h2 => by have := (World.ownsRow.lt HO0.out k h1).2; have := (HO3.out.lt k h2).1; omega))
      clear hg4 hh4
      go_wp2_with fail
      refine (heldWheelS_any HH4.out (by omega) (by omega) (by omega)).mono ?_
      rintro e w' ⟨rfl, rfl⟩
      have hk : ¬ (1 + (xs.length : Int) * ((9 : Nat) : Int) < 0) := by omega
      go_wp2_with fail
      refine (HI.out _ (HE.out.below HB4.out)).mono ?_
      rintro e w5 ⟨v2, rfl, ho2, hb5⟩
      rw [HBO.out]
      rw [HXS.out] at ho2
      obtain ⟨a2, k2, rfl, -, hp2⟩ := ho2.hasW
      obtain ⟨a3, k3, e3, hp3⟩ := (HP4.out.keep hb5).hasW
      cases e3
      have HP5 := Lib.hid hp2
      have HQ5 := Lib.hid hp3
      have HG5 := Lib.hid hb5
      have HB5 := Lib.hid (HB4.out.trans (hb5.mono HB4.out.size))
      clear ho2 hp2 hp3 hb5
      go_wp2_with fail
      refine (eqWheelS_same a2 a0 k2 k0 xs _ HP5.out HQ5.out (by omega)).mono ?_
      rintro e w6 ⟨rfl, hb6⟩
      have HH6 := Lib.hid (HH4.out.kept (grown_below (HG5.out.trans (hb6.mono HG5.out.size))) (fun g _ e => by cases e))
      have HB6 := Lib.hid (HB5.out.trans (hb6.mono HB5.out.size))
      clear hb6
      go_wp2_with fail
      refine (heldWheelS_any HH6.out (by omega) (by omega) (by omega)).mono ?_
      rintro e w' ⟨rfl, rfl⟩
      go_wp2_with fail
      go_returns
      exact ⟨rfl, HB6.out⟩
  · have hs2 : 1048576 < (s.size : Int) := by omega
    clear hE
    go_enter Tryz.func4, Tryz.ntmps4
    go_wp2_with fail
    go_returns
    exact ⟨rfl, Below.refl _ _⟩
set_option maxRecDepth 100000 in
theorem exactDesignRead_lifted (os : Os) (started : os.Started) (H : Type) (enc : TypeId × Value → H) :
    ReturnsInHanded {} Tryz.checked os 4 .any (fun w args => (Rows.fnExactDesignReadSpec.pre enc Tryz.prog Tryz.f4 Rows.fnExactDesignReadRow.domain false w args ∧ laidMetH Tryz.prog Rows.fnExactDesignReadRow.laid w) ∧ sizedMet enc Tryz.prog Tryz.f4 (OpenSpec.ofChange Rows.fnExactDesignReadSpec) false w args)
      (Rows.fnExactDesignReadSpec.post enc Tryz.prog Tryz.f4 false true false false) := by
  refine returnsInHanded_door (C := Tryz.checked) (X := fun w _ => laidMetH Tryz.prog Rows.fnExactDesignReadRow.laid w) (fun _ _ _ hh h => h.of_heap hh) ownD started (by kernel_rfl) Tryz.func4
    (ChangeSpec.witness_shaped (enc := enc) (C := Tryz.checked) (os := os) (X := fun w _ => laidMetH Tryz.prog Rows.fnExactDesignReadRow.laid w) false (World.laidAll Tryz.prog os Rows.fnExactDesignReadRow.laid) #[.string ⟨#[]⟩] 8 (World.laidAll_os _ _ _)
      (World.shaped_of_ZipB (by kernel_rfl) (by kernel_rfl)) (by kernel_rfl) (by kernel_rfl) (by kernel_rfl)
      (by rw [MakeChecks.laidMetH_plain _ _ _ (by kernel_rfl)]; exact laidMet_laidAll _ (by kernel_rfl) (by kernel_rfl))) ?_
  intro W base args ds gs before hval0 hW hL hsh
  have hval : ∀ (j : Nat) t v, Tryz.f4.params[j]? = some t → args[j]? = some v → Value.okWide Tryz.prog W .any base t v := hval0
  have hW' := hW
  obtain ⟨p, q, hA0, hV, rfl, hfz, hnd⟩ := hW
  have hA : DataW.TrodAll enc Tryz.prog W 0 (fun _ => true) true Tryz.f4.params.toList args.toList ds p := hA0
  rw [Tryz.params4] at hA hval
  obtain ⟨v0, d0, rfl, rfl, h0⟩ := trodAll_one hA
  obtain ⟨rfl, rfl⟩ := trodVars_none hV
  obtain ⟨s, rfl, rfl, rfl, ws⟩ := Go.ChangeMaps.open_string Tryz.underlying9 (hval 0 9 v0 rfl rfl) h0
  clear hA0 hval0
  have hE : Env W := env_of hL hsh (by kernel_rfl) (by kernel_rfl) (by kernel_rfl) (by kernel_rfl)
  refine (exactDesignRead_walk s W hE).mono fun e W' ⟨he, bel⟩ => ?_
  subst he
  exact ⟨_, rfl, _, _, _, [], _, [], hW', trodAll_mk1 (shut_bool Tryz.underlying4 _), trodAll_mk1 (Go.ChangeMaps.shut_string Tryz.underlying9 ws), rfl, bel.frame _, fun h => by cases h⟩

theorem exactDesignRead_row : Rows.FnExactDesignReadSaid :=
  OpenClaim.holds_of_wide 4 Tryz.f4 rfl rfl rfl rfl rfl rfl rfl ⟨rfl, rfl, rfl, rfl, rfl⟩ rfl rfl rfl rfl rfl (by kernel_rfl) Tryz.func4 (by kernel_rfl)
    (of_decide_eq_true (by kernel_rfl)) (by unfold Func.isWrapper; first | (rw [if_pos (by decide +kernel)]; kernel_rfl) | (rw [if_neg (by decide +kernel)]; exact ⟨rfl, rfl⟩))
    (fun os started H enc _ => exactDesignRead_lifted os started H enc)
theorem fnExactDesignRead_holds : Rows.FnExactDesignReadCardSaid :=
  Claim7.holds_tied_plain_at .later [] [.data, .data, .data, .data, .sentinel, .sentinel, .pinned] true (true, "761d8c259546a308853614d76677a012036ed64c89e294ac619c299f77744eb8") true exactDesignRead_row (fun _ h => by cases h) (by kernel_rfl) (fun _ h => by cases h) fnExactDesignRead_row_tie rfl ⟨rfl, rfl⟩ (by kernel_rfl) rfl
    (fun f fn hf hfn => by
      obtain rfl : f = 4 := Option.some.inj ((show Tryz.prog.funcNamed "loop.example/turningwheels/laws.FnExactDesignRead" = some 4 by kernel_rfl).symm.trans hf) |>.symm
      obtain rfl : fn = Tryz.f4 := (Option.some.inj (Tryz.func4.symm.trans hfn)).symm
      exact ⟨by kernel_rfl, fun j t ht => by
        rw [Tryz.params4] at ht
        have hm : t ∈ [9] := by simpa using Array.mem_of_getElem? ht
        have hall : ([9].all fun u => !Tryz.prog.wantsStandIn u) = true := by kernel_rfl
        exact (show Tryz.prog.wantsStandIn t = false by simpa using List.all_eq_true.1 hall t hm)⟩)
    (by kernel_rfl)
#print axioms fnExactDesignRead_holds
end Go.Proofs.YthojdoiffkdikaaGreatDoor
