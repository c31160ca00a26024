/- Laws on texts of designs: the walks of laws.FnText and laws.FnRead. -/
import Derived.Test.YthojdoiffkdikaaGreatDoorDrwE
import Derived.Test.YthojdoiffkdikaaGreatDoorSameW
namespace Go.Proofs.YthojdoiffkdikaaGreatDoor
open Go.RowKit Go.Shelf Go.PlotT

set_option maxRecDepth 100000 in
set_option maxHeartbeats 8000000 in
theorem text_walk (a : Option Addr) (len cap : Nat) (W : World) (hv : HasB W W.heap.size a len) (hc : len ≤ cap) (hE : Env W) :
    Calls Tryz.prog 5 #[.slice a len cap] W fun e w' => e = .returned (.bool true) ∧ Below W.heap.size W w' := by
  by_cases hl : len ≤ 1048576
  · have HV := Lib.hid hv
    have HE := Lib.hid hE
    clear hv hE
    go_enter Tryz.func5, Tryz.ntmps5
    go_wp2_with fail
    refine (drawDesignText_some _ _ _ _ hl hc HV.out).mono ?_
    rintro e w1 ⟨xs, gx, cp, rfl, h12, ho, hb1⟩
    have HB1 := Lib.hid hb1
    have HO1 := Lib.hid ho
    have HE1 := Lib.hid (HE.out.below hb1)
    clear ho hb1
    cases ht : tidyR xs with
    | none =>
      have HT := Lib.hid (show textR xs = none by unfold textR; rw [ht]; rfl)
      clear ht
      go_wp2_with fail
      refine (designText_any _ _ xs _ HO1.out.has (by omega) HE1.out.tab).mono ?_
      rw [HT.out]
      rintro e w2 ⟨rfl, hb2⟩
      have HB2 := Lib.hid (HB1.out.trans (hb2.mono HB1.out.size))
      have HO2 := Lib.hid (HO1.out.keep hb2)
      clear hb2
      dsimp only [Option.isSome_none]
      obtain ⟨S, hS⟩ : ∃ S : ByteArray, (⟨((none : Option Tx).getD []).toArray⟩ : ByteArray) = S := ⟨_, rfl⟩
      rw [hS]
      go_wp2_with fail
      refine (specDesignText_any _ _ xs _ HO2.out.has (by omega)).mono ?_
      rw [HT.out]
      rintro e w3 ⟨rfl, hb3⟩
      have HB3 := Lib.hid (HB2.out.trans (hb3.mono HB2.out.size))
      clear hb3
      dsimp only [Option.isSome_none]
      rw [hS]
      clear hS
      go_wp2_with fail
      go_returns
      exact ⟨rfl, HB3.out⟩
    | some t =>
      have HT := Lib.hid (show textR xs = some (dt t) by unfold textR; rw [ht]; rfl)
      have HTD := Lib.hid ht
      obtain ⟨-, hs2⟩ := dt_tidy ht
      have HRI := Lib.hid (readI_dt ht (by omega))
      have ht12 : t.length ≤ 12 := (dvOk_mem (tidyR_ok ht)).1
      clear ht
      go_wp2_with fail
      refine (designText_any _ _ xs _ HO1.out.has (by omega) HE1.out.tab).mono ?_
      rw [HT.out]
      rintro e w2 ⟨rfl, hb2⟩
      have HB2 := Lib.hid (HB1.out.trans (hb2.mono HB1.out.size))
      have HO2 := Lib.hid (HO1.out.keep hb2)
      have HE2 := Lib.hid (HE1.out.below hb2)
      clear hb2
      dsimp only [Option.isSome_some, Option.getD_some]
      obtain ⟨S, hS⟩ : ∃ S : ByteArray, (⟨(dt t).toArray⟩ : ByteArray) = S := ⟨_, rfl⟩
      have HSD := Lib.hid (show S.data.toList = dt t by rw [← hS])
      have hz : S.size ≤ 1400 := by rw [← hS]; exact hs2
      rw [hS]
      go_wp2_with fail
      refine (specDesignText_any _ _ xs _ HO2.out.has (by omega)).mono ?_
      rw [HT.out]
      rintro e w3 ⟨rfl, hb3⟩
      have HB3 := Lib.hid (HB2.out.trans (hb3.mono HB2.out.size))
      have HO3 := Lib.hid (HO2.out.keep hb3)
      have HE3 := Lib.hid (HE2.out.below hb3)
      clear hb3
      dsimp only [Option.isSome_some, Option.getD_some]
      rw [hS]
      clear hS hs2
      go_wp2_with fail
      refine (designRead_any S _ HE3.out).mono ?_
      rw [HSD.out, HRI.out]
      rintro e w4 ⟨v4, rfl, ho4, hb4⟩
      dsimp only [Option.isSome_some, Option.getD_some] at ho4 ⊢
      obtain ⟨a4, k4, rfl, -, hp4⟩ := ho4.hasW
      have HP4 := Lib.hid hp4
      have HB4 := Lib.hid (HB3.out.trans (hb4.mono HB3.out.size))
      have HO4 := Lib.hid (HO3.out.keep hb4)
      clear ho4 hp4 hb4
      go_wp2_with fail
      refine (designTidy_any _ _ xs _ HO4.out.has (by omega)).mono ?_
      rw [HTD.out]
      rintro e w5 ⟨v5, rfl, ho5, hb5⟩
      dsimp only [Option.isSome_some, Option.getD_some] at ho5 ⊢
      obtain ⟨a5, k5, rfl, -, hp5⟩ := ho5.hasW
      have HP5 := Lib.hid hp5
      have HQ5 := Lib.hid (HP4.out.on hb5)
      have HB5 := Lib.hid (HB4.out.trans (hb5.mono HB4.out.size))
      clear ho5 hp5 hb5
      have hzi : ¬ (1500 : Int) < (S.size : Int) := by omega
      go_wp2_with fail
      refine (sameW_same _ _ _ _ t _ HQ5.out HP5.out (by omega)).mono ?_
      rintro e w6 ⟨rfl, hb6⟩
      have HB6 := Lib.hid (HB5.out.trans (hb6.mono HB5.out.size))
      clear hb6
      go_wp2_with fail
      go_returns
      exact ⟨rfl, HB6.out⟩
  · have hl2 : 1048576 < (len : Int) := by omega
    clear hv hE
    go_enter Tryz.func5, Tryz.ntmps5
    go_wp2_with fail
    go_returns
    exact ⟨rfl, Below.refl _ _⟩
set_option maxRecDepth 100000 in
set_option maxHeartbeats 8000000 in
theorem read_walk (a : Option Addr) (len cap : Nat) (W : World) (hv : HasB W W.heap.size a len) (hc : len ≤ cap) (hE : Env W) :
    Calls Tryz.prog 6 #[.slice a len cap] W fun e w' => e = .returned (.bool true) ∧ Below W.heap.size W w' := by
  by_cases hl : len ≤ 1048576
  · have HV := Lib.hid hv
    have HE := Lib.hid hE
    clear hv hE
    go_enter Tryz.func6, Tryz.ntmps6
    go_wp2_with fail
    refine (drawDesignRead_some _ _ _ _ hl hc HV.out).mono ?_
    rintro e w1 ⟨S, rfl, hz, hb1⟩
    have HB1 := Lib.hid hb1
    have HE1 := Lib.hid (HE.out.below hb1)
    clear hb1
    obtain ⟨r, hr⟩ : ∃ r, readI S.data.toList = r := ⟨_, rfl⟩
    have hr2 : readS S.data.toList = r := by rw [← read_same, hr]
    have HRI := Lib.hid hr
    have HRS := Lib.hid hr2
    cases r with
    | none =>
      clear hr hr2
      go_wp2_with fail
      refine (designRead_any S _ HE1.out).mono ?_
      rw [HRI.out]
      rintro e w2 ⟨v2, rfl, ho2, hb2⟩
      dsimp only [Option.isSome_none, Option.getD_none] at ho2 ⊢
      obtain ⟨a2, k2, rfl, -, hp2⟩ := ho2.hasW
      have HP2 := Lib.hid hp2
      have HB2 := Lib.hid (HB1.out.trans (hb2.mono HB1.out.size))
      clear ho2 hp2 hb2
      go_wp2_with fail
      refine (specDesignRead_any S _).mono ?_
      rw [HRS.out]
      rintro e w3 ⟨v3, rfl, ho3, hb3⟩
      dsimp only [Option.isSome_none, Option.getD_none] at ho3 ⊢
      obtain ⟨a3, k3, rfl, hp3⟩ := ho3.hasW
      have HP3 := Lib.hid hp3
      have HQ3 := Lib.hid (HP2.out.on hb3)
      have HB3 := Lib.hid (HB2.out.trans (hb3.mono HB2.out.size))
      clear ho3 hp3 hb3
      go_wp2_with fail
      refine (sameW_same _ _ _ _ [] _ HQ3.out HP3.out (by simp)).mono ?_
      rintro e w4 ⟨rfl, hb4⟩
      have HB4 := Lib.hid (HB3.out.trans (hb4.mono HB3.out.size))
      have HX4 := Lib.hid (HQ3.out.on hb4)
      have HY4 := Lib.hid (HP3.out.on hb4)
      clear hb4
      go_wp2_with fail
      refine (sameW_same _ _ _ _ [] _ HX4.out HY4.out (by simp)).mono ?_
      rintro e w5 ⟨rfl, hb5⟩
      have HB5 := Lib.hid (HB4.out.trans (hb5.mono HB4.out.size))
      clear hb5
      go_wp2_with fail
      go_returns
      exact ⟨rfl, HB5.out⟩
    | some t =>
      obtain ⟨htd, hdt, -⟩ := readI_tidy hr
      have HTD := Lib.hid htd
      have HT := Lib.hid (show textR t = some (dt t) by unfold textR; rw [htd]; rfl)
      have HDT := Lib.hid (show (⟨(dt t).toArray⟩ : ByteArray) = S by rw [hdt, mk_data])
      have ht12 : t.length ≤ 12 := (dvOk_mem (tidyR_ok htd)).1
      clear hr hr2 htd hdt
      go_wp2_with fail
      refine (designRead_any S _ HE1.out).mono ?_
      rw [HRI.out]
      rintro e w2 ⟨v2, rfl, ho2, hb2⟩
      dsimp only [Option.isSome_some, Option.getD_some] at ho2 ⊢
      obtain ⟨a2, k2, rfl, -, hp2⟩ := ho2.hasW
      have HP2 := Lib.hid hp2
      have HB2 := Lib.hid (HB1.out.trans (hb2.mono HB1.out.size))
      have HE2 := Lib.hid (HE1.out.below hb2)
      clear ho2 hp2 hb2
      go_wp2_with fail
      refine (specDesignRead_any S _).mono ?_
      rw [HRS.out]
      rintro e w3 ⟨v3, rfl, ho3, hb3⟩
      dsimp only [Option.isSome_some, Option.getD_some] at ho3 ⊢
      obtain ⟨a3, k3, rfl, hp3⟩ := ho3.hasW
      have HP3 := Lib.hid hp3
      have HQ3 := Lib.hid (HP2.out.on hb3)
      have HB3 := Lib.hid (HB2.out.trans (hb3.mono HB2.out.size))
      have HE3 := Lib.hid (HE2.out.below hb3)
      clear ho3 hp3 hb3
      go_wp2_with fail
      refine (sameW_same _ _ _ _ t _ HQ3.out HP3.out (by omega)).mono ?_
      rintro e w4 ⟨rfl, hb4⟩
      have HB4 := Lib.hid (HB3.out.trans (hb4.mono HB3.out.size))
      have HX4 := Lib.hid (HQ3.out.on hb4)
      have HE4 := Lib.hid (HE3.out.below hb4)
      clear hb4
      go_wp2_with fail
      refine (designText_any _ _ t _ HX4.out (by omega) HE4.out.tab).mono ?_
      rw [HT.out]
      rintro e w5 ⟨rfl, hb5⟩
      have HB5 := Lib.hid (HB4.out.trans (hb5.mono HB4.out.size))
      have HX5 := Lib.hid (HX4.out.on hb5)
      clear hb5
      dsimp only [Option.isSome_some, Option.getD_some]
      rw [HDT.out]
      go_wp2_with fail
      refine (designTidy_any _ _ t _ HX5.out (by omega)).mono ?_
      rw [HTD.out]
      rintro e w6 ⟨v6, rfl, ho6, hb6⟩
      dsimp only [Option.isSome_some, Option.getD_some] at ho6 ⊢
      obtain ⟨a6, k6, rfl, -, hp6⟩ := ho6.hasW
      have HP6 := Lib.hid hp6
      have HX6 := Lib.hid (HX5.out.on hb6)
      have HB6 := Lib.hid (HB5.out.trans (hb6.mono HB5.out.size))
      clear ho6 hp6 hb6
      go_wp2_with fail
      refine (sameW_same _ _ _ _ t _ HP6.out HX6.out (by omega)).mono ?_
      rintro e w7 ⟨rfl, hb7⟩
      have HB7 := Lib.hid (HB6.out.trans (hb7.mono HB6.out.size))
      clear hb7
      go_wp2_with fail
      go_returns
      exact ⟨rfl, HB7.out⟩
  · have hl2 : 1048576 < (len : Int) := by omega
    clear hv hE
    go_enter Tryz.func6, Tryz.ntmps6
    go_wp2_with fail
    go_returns
    exact ⟨rfl, Below.refl _ _⟩
end Go.Proofs.YthojdoiffkdikaaGreatDoor
