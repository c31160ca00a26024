/- PolyWinding of the program at whatever list; of the reference. -/
import Derived.Test.YtklmlodapinflaaPolyX
import Derived.Deep.RegionHeld3
import Derived.Deep.DeepCutAuto
namespace Go.Proofs.Ytklmlodapinflaa
open Go.RowKit Go.Shelf

theorem ptAt_new1 (w : World) (x : C8) (n : Nat) (hn : n = w.heap.size) : PtAt (w.alloc (.cells (row x) 25)) n 0 x := by subst hn; exact PtAt.new _ _ _
theorem ptAt_new2 (w : World) (x : C8) (n : Nat) (os : Array Obj) (d : Nat) (hn : n = w.heap.size) : PtAt (more (w.alloc (.cells (row x) 25)) os d) n 0 x := by subst hn; exact (PtAt.new w x 25).more (by simp) _ _
/-- PolyWinding: whether it is told, and what. -/
def pwOk (xs : List C8) (c : C8) : Bool := plOk xs && okM c 100 && !onA xs c
def pwR (xs : List C8) (c : C8) : Int := if pwOk xs c = true then wdL c (sidesUpto xs xs.length) else 0
set_option maxRecDepth 100000 in
set_option maxHeartbeats 8000000 in
theorem specPolyWinding_yes (b cap n : Nat) (xs : List C8) (c : C8) (hxn : xs.length = n) (hok : plOk xs = true) (hokc : okM c 100 = true) (hno : onA xs c = false) (w : World) (hb : b < w.heap.size) (hc : ∀ i, i < n → PtAt w b (i * 8) (xs.getD i C8.zero)) (hSd : ∀ k, k < n → SdSm (sideOf xs k)) (hlen : n ≤ 48) :
    Calls Try.prog 39 #[.slice (some ⟨b, 0, none⟩) n cap, cv c] w fun e w' => e = .returned (.tuple #[.int .i64 (wdL c (sidesUpto xs n)), .bool true]) ∧ Below w.heap.size w w' := by
  have HC := Lib.hid hc
  have HS := Lib.hid hSd
  have HN := Lib.hid hxn
  have HCL := Lib.hid (okM_lim hokc)
  have HP : Hid (HasP w (some ⟨b, 0, none⟩) xs) := Or.inr ⟨b, rfl, hb, fun i hi => hc i (by omega)⟩
  have HV : Hid (∀ w', HasP w' (some ⟨b, 0, none⟩) xs → Calls Try.prog 78 #[.slice (some ⟨b, 0, none⟩) n cap] w' fun e w'' => e = .returned (.bool true) ∧ Below w'.heap.size w' w'') := fun w' h' => by
    have := specPolyValid_any (some ⟨b, 0, none⟩) cap xs w' h' (by omega)
    rw [hok, hxn] at this; exact this
  have HVO : Hid (∀ w', HasP w' (some ⟨b, 0, none⟩) xs → Calls Try.prog 37 #[.slice (some ⟨b, 0, none⟩) n cap, cv c] w' fun e w'' => e = .returned (.bool false) ∧ Below w'.heap.size w' w'') := fun w' h' => by
    have := specPolyOn_any (some ⟨b, 0, none⟩) cap xs c w' h' (by omega)
    rw [show poOn xs c = false by rw [poOn, hno, Bool.and_false], hxn] at this; exact this
  have HVC : Hid (∀ w', Calls Try.prog 63 #[cv c, .int .i64 100] w' fun e w'' => e = .returned (.bool true) ∧ Below w'.heap.size w' w'') := fun w' => by
    have := l8Small_any c 100 (by omega) (by omega) w'
    rw [hokc] at this; exact this
  clear hc hSd hxn hok hokc hno
  go_enter Try.func39, Try.ntmps39
  go_wp2_with (first
    | (go_at_call 78; refine (HV.out _ (HP.out.alloc _)).mono ?_; rintro e w' ⟨rfl, hb⟩; obtain ⟨os, d, rfl⟩ := more_of_below hb; clear hb)
    | (go_at_call 63; refine (HVC.out _).mono ?_; rintro e w' ⟨rfl, hb⟩; obtain ⟨os, d, rfl⟩ := more_of_below hb; clear hb)
    | (go_at_call 37; refine (HVO.out _ ((HP.out.alloc _).more _ _)).mono ?_; rintro e w' ⟨rfl, hb⟩; obtain ⟨os, d, rfl⟩ := more_of_below hb; clear hb))
  go_loopw [6, 7] (fun s6 s7 wr => ∃ k : Nat, k ≤ n ∧ s7 = .int .i64 k ∧ s6 = .int .i64 (wdL c (sidesUpto xs k)) ∧ ∃ os d, wr = more (w.alloc (.cells (row c) 25)) os d) (fun _ s7 _ => n - (intOf s7).toNat)
  case atStart => exact ⟨0, by omega, rfl, rfl, _, _, rfl⟩
  case round =>
    obtain ⟨k, hk, rfl, rfl, os, d, rfl⟩ := hrel
    by_cases hlt : k < n
    · obtain ⟨m', hm'⟩ : ∃ m', (k + 1) % n = m' := ⟨_, rfl⟩
      have hm : m' < n := by rw [← hm']; exact Nat.mod_lt _ (by omega)
      have hmI : ((k : Int) + 1) % (n : Int) = (m' : Int) := by rw [← hm']; exact_mod_cast rfl
      obtain ⟨x, hx⟩ : ∃ x, xs.getD k C8.zero = x := ⟨_, rfl⟩
      obtain ⟨y, hy⟩ : ∃ y, xs.getD m' C8.zero = y := ⟨_, rfl⟩
      have hside : sideOf xs k = (x, y) := by rw [sideOf, HN.out, hm', hx, hy]
      have HSK := Lib.hid (HS.out k hlt)
      rw [hside] at HSK
      have HX := Lib.hid (show PtAt (w.alloc (.cells (row c) 25)) b (k * 8) x by rw [← hx]; exact ptAt_alloc (HC.out k hlt) hb _)
      have HY := Lib.hid (show PtAt (w.alloc (.cells (row c) 25)) b (m' * 8) y by rw [← hy]; exact ptAt_alloc (HC.out m' hm) hb _)
      have hbW : b < (w.alloc (.cells (row c) 25)).heap.size := by simp; omega
      have ht : ((k : Int) + 1).tmod (n : Int) = (m' : Int) := by
        rw [Int.tmod_eq_emod_of_nonneg (by omega)]; exact hmI
      have hn00 : ¬ (n : Int) = 0 := by omega
      have hn0 : ¬ n = 0 := by omega
      have hm0 : (0 : Int) ≤ (m' : Int) := by omega
      have hmn : (m' : Int) < (n : Int) := by omega
      have hwm : IntKind.i64.wrap (m' : Int) = (m' : Int) := by rw [IntKind.wrap_i64]; omega
      have hwk : IntKind.i64.wrap ((k : Int) + 1) = (k : Int) + 1 := by rw [IntKind.wrap_i64]; omega
      obtain ⟨u, hu⟩ : ∃ u, C8.sub x c = u := ⟨_, rfl⟩
      obtain ⟨v, hv⟩ : ∃ v, C8.sub y c = v := ⟨_, rfl⟩
      have lx := C8.lim_mono HSK.out.1 (show (100 : Int) ≤ 1000 by omega)
      have ly := C8.lim_mono HSK.out.2 (show (100 : Int) ≤ 1000 by omega)
      have lc := C8.lim_mono HCL.out (show (100 : Int) ≤ 1000 by omega)
      have KX := Lib.hid ((sumW_sub lx lc).trans hu)
      have KY := Lib.hid ((sumW_sub ly lc).trans hv)
      have lu : C8.lim 200 u := by rw [← hu]; exact lim_sub HSK.out.1 HCL.out
      have lv : C8.lim 200 v := by rw [← hv]; exact lim_sub HSK.out.2 HCL.out
      have LU := Lib.hid (C8.lim_mono lu (show (200 : Int) ≤ 1000 by omega))
      have LV := Lib.hid (C8.lim_mono lv (show (200 : Int) ≤ 1000 by omega))
      have MU := Lib.hid (C8.lim_mono lu (show (200 : Int) ≤ 1000000000 by omega))
      have MV := Lib.hid (C8.lim_mono lv (show (200 : Int) ≤ 1000000000 by omega))
      have HO1 := Lib.hid (show okS u.im.a u.im.b u.im.c u.im.d = true from im_ok lu)
      have HO2 := Lib.hid (show okS v.im.a v.im.b v.im.c v.im.d = true from im_ok lv)
      have HO3 := Lib.hid (show okS (crs u v).a (crs u v).b (crs u v).c (crs u v).d = true from crs_ok lu lv)
      obtain ⟨f, hf⟩ : ∃ f, sgn u.im = f := ⟨_, rfl⟩
      obtain ⟨t, ht'⟩ : ∃ t, sgn v.im = t := ⟨_, rfl⟩
      obtain ⟨s, hs⟩ : ∃ s, sgn (crs u v) = s := ⟨_, rfl⟩
      have HS1 := Lib.hid (show sgS u.im.a u.im.b u.im.c u.im.d = f from hf)
      have HS2 := Lib.hid (show sgS v.im.a v.im.b v.im.c v.im.d = t from ht')
      have HS3 := Lib.hid (show sgS (crs u v).a (crs u v).b (crs u v).c (crs u v).d = s from hs)
      have HU := Lib.hid (show wdL c (sidesUpto xs (k + 1)) = wdL c (sidesUpto xs k) + (if f ≤ 0 ∧ 0 < t ∧ 0 < s then 1 else if 0 < f ∧ t ≤ 0 ∧ s < 0 then -1 else 0) by
        rw [sidesUpto_succ, wdL_snoc, hside]; unfold dlt; simp only [hu, hv, hf, ht', hs])
      have hwd := wdL_bd c k (sidesUpto xs k) (sidesUpto_length xs k)
      obtain ⟨z, hz⟩ : ∃ z, wdL c (sidesUpto xs k) = z := ⟨_, rfl⟩
      rw [hz] at HU hwd ⊢
      clear hm' hx hy hside hu hv lx ly lc lu lv hf ht' hs hz
      have HC0 := Lib.hid (show PtAt (w.alloc (.cells (row c) 25)) w.heap.size 0 c from PtAt.new w c 25)
      have hcW : w.heap.size < (w.alloc (.cells (row c) 25)).heap.size := by simp
      obtain ⟨V, hV⟩ : ∃ V, w.alloc (.cells (row c) 25) = V := ⟨_, rfl⟩
      rw [hV] at HX HY HC0 hbW hcW ⊢
      have HVV := Lib.hid hV
      clear hV
      have HXc := HX.out.cells
      have HYc := HY.out.cells
      have HCc := HC0.out.cells
      go_wp2_with fail
      go_cut [8] from 26 to 83 (fun s8 wx => ∃ g : Nat, s8 = .pointer (some ⟨g, 0, none⟩) ∧ IsMore V wx ∧ Hid (g < wx.heap.size ∧ PtAt wx g 0 u))
      case first =>
        go_region_held3 (fun w' => w'.cell? ⟨b, k * 8, none⟩ = some (.int .i64 x.c0) ∧ w'.cell? ⟨b, k * 8 + 1, none⟩ = some (.int .i64 x.c1) ∧ w'.cell? ⟨b, k * 8 + 2, none⟩ = some (.int .i64 x.c2) ∧ w'.cell? ⟨b, k * 8 + 3, none⟩ = some (.int .i64 x.c3) ∧ w'.cell? ⟨b, k * 8 + 4, none⟩ = some (.int .i64 x.c4) ∧ w'.cell? ⟨b, k * 8 + 5, none⟩ = some (.int .i64 x.c5) ∧ w'.cell? ⟨b, k * 8 + 6, none⟩ = some (.int .i64 x.c6) ∧ w'.cell? ⟨b, k * 8 + 7, none⟩ = some (.int .i64 x.c7) ∧ w'.cell? ⟨w.heap.size, 0, none⟩ = some (.int .i64 c.c0) ∧ w'.cell? ⟨w.heap.size, 1, none⟩ = some (.int .i64 c.c1) ∧ w'.cell? ⟨w.heap.size, 2, none⟩ = some (.int .i64 c.c2) ∧ w'.cell? ⟨w.heap.size, 3, none⟩ = some (.int .i64 c.c3) ∧ w'.cell? ⟨w.heap.size, 4, none⟩ = some (.int .i64 c.c4) ∧ w'.cell? ⟨w.heap.size, 5, none⟩ = some (.int .i64 c.c5) ∧ w'.cell? ⟨w.heap.size, 6, none⟩ = some (.int .i64 c.c6) ∧ w'.cell? ⟨w.heap.size, 7, none⟩ = some (.int .i64 c.c7)) (simp [go_sem, *])
         ((go_at_call 85; refine (l2Sum_any _ _ _ _).mono ?_; rintro e w' ⟨rfl, hb⟩; obtain ⟨os, d, rfl⟩ := more_of_below hb; clear hb))
        all_goals
          try go_wp2_with fail
          go_meet
          refine ⟨_, rfl, by repeat' (first | (with_reducible exact IsMore.refl _) | (with_reducible refine IsMore.alloc ?_ _) | (with_reducible refine IsMore.more ?_ _ _) | (with_reducible refine IsMore.drew ?_)), Lib.hid ⟨by simp; try omega, ?_⟩⟩
          rw [KX.out]
          first
          | exact ptAt_new1 _ u _ (by simp; try omega)
          | exact ptAt_new2 _ u _ _ _ (by simp; try omega)
      case rest =>
        obtain ⟨g, rfl, ⟨os1, d1, rfl⟩, HG⟩ := hcut
        obtain ⟨V1, hV1⟩ : ∃ V1, more V os1 d1 = V1 := ⟨_, rfl⟩
        rw [hV1] at HG ⊢
        have HV1 := Lib.hid hV1
        have HY1 := Lib.hid (show PtAt V1 b (m' * 8) y by rw [← hV1]; exact HY.out.more hbW _ _)
        have HC1 := Lib.hid (show PtAt V1 w.heap.size 0 c by rw [← hV1]; exact HC0.out.more hcW _ _)
        have hbW1 : b < V1.heap.size := by rw [← hV1, size_more]; omega
        have hcW1 : w.heap.size < V1.heap.size := by rw [← hV1, size_more]; omega
        have hYc := HY1.out.cells
        have hCc := HC1.out.cells
        clear hV1 HXc HYc HCc
        go_wp2_with fail
        go_cut [9] from 26 to 83 (fun s9 wx => ∃ g' : Nat, s9 = .pointer (some ⟨g', 0, none⟩) ∧ IsMore V1 wx ∧ Hid (g' < wx.heap.size ∧ PtAt wx g' 0 v))
        case first =>
          go_region_held3 (fun w' => w'.cell? ⟨b, m' * 8, none⟩ = some (.int .i64 y.c0) ∧ w'.cell? ⟨b, m' * 8 + 1, none⟩ = some (.int .i64 y.c1) ∧ w'.cell? ⟨b, m' * 8 + 2, none⟩ = some (.int .i64 y.c2) ∧ w'.cell? ⟨b, m' * 8 + 3, none⟩ = some (.int .i64 y.c3) ∧ w'.cell? ⟨b, m' * 8 + 4, none⟩ = some (.int .i64 y.c4) ∧ w'.cell? ⟨b, m' * 8 + 5, none⟩ = some (.int .i64 y.c5) ∧ w'.cell? ⟨b, m' * 8 + 6, none⟩ = some (.int .i64 y.c6) ∧ w'.cell? ⟨b, m' * 8 + 7, none⟩ = some (.int .i64 y.c7) ∧ w'.cell? ⟨w.heap.size, 0, none⟩ = some (.int .i64 c.c0) ∧ w'.cell? ⟨w.heap.size, 1, none⟩ = some (.int .i64 c.c1) ∧ w'.cell? ⟨w.heap.size, 2, none⟩ = some (.int .i64 c.c2) ∧ w'.cell? ⟨w.heap.size, 3, none⟩ = some (.int .i64 c.c3) ∧ w'.cell? ⟨w.heap.size, 4, none⟩ = some (.int .i64 c.c4) ∧ w'.cell? ⟨w.heap.size, 5, none⟩ = some (.int .i64 c.c5) ∧ w'.cell? ⟨w.heap.size, 6, none⟩ = some (.int .i64 c.c6) ∧ w'.cell? ⟨w.heap.size, 7, none⟩ = some (.int .i64 c.c7)) (simp [go_sem, *])
           ((go_at_call 85; refine (l2Sum_any _ _ _ _).mono ?_; rintro e w' ⟨rfl, hb⟩; obtain ⟨os, d, rfl⟩ := more_of_below hb; clear hb))
          all_goals
            try go_wp2_with fail
            go_meet
            refine ⟨_, rfl, by repeat' (first | (with_reducible exact IsMore.refl _) | (with_reducible refine IsMore.alloc ?_ _) | (with_reducible refine IsMore.more ?_ _ _) | (with_reducible refine IsMore.drew ?_)), Lib.hid ⟨by simp; try omega, ?_⟩⟩
            rw [KY.out]
            first
            | exact ptAt_new1 _ v _ (by simp; try omega)
            | exact ptAt_new2 _ v _ _ _ (by simp; try omega)
        case rest =>
          obtain ⟨g', rfl, ⟨os2, d2, rfl⟩, HG'⟩ := hcut
          have HG1 := Lib.hid (HG.out.2.more HG.out.1 os2 d2)
          obtain ⟨V2, hV2⟩ : ∃ V2, more V1 os2 d2 = V2 := ⟨_, rfl⟩
          have hgW : g < V2.heap.size := by rw [← hV2, size_more]; have := HG.out.1; omega
          rw [hV2] at HG' HG1 ⊢
          have HV2 := Lib.hid hV2
          have hgW' : g' < V2.heap.size := HG'.out.1
          have hgc := HG1.out.cells
          have hgc' := HG'.out.2.cells
          clear hV2 hYc hCc
          go_wp2_with fail
          (go_at_call 59; refine (l3Im_any _ MU.out _).mono ?_; rintro e w' ⟨rfl, hb⟩; obtain ⟨os1, d1, rfl⟩ := more_of_below hb; clear hb)
          go_wp2_with fail
          (go_at_call 86; refine (l3Sign_any _ _ _ _ _ HO1.out).mono ?_; rw [HS1.out]; rintro e w' ⟨rfl, hb⟩; obtain ⟨os, d, rfl⟩ := more_of_below hb; clear hb)
          go_wp2_with fail
          (go_at_call 59; refine (l3Im_any _ MV.out _).mono ?_; rintro e w' ⟨rfl, hb⟩; obtain ⟨os2, d2, rfl⟩ := more_of_below hb; clear hb)
          go_wp2_with fail
          (go_at_call 86; refine (l3Sign_any _ _ _ _ _ HO2.out).mono ?_; rw [HS2.out]; rintro e w' ⟨rfl, hb⟩; obtain ⟨os, d, rfl⟩ := more_of_below hb; clear hb)
          go_wp2_with fail
          (go_at_call 64; refine (l8Cross_any _ _ LU.out LV.out _).mono ?_; rintro e w' ⟨rfl, hb⟩; obtain ⟨os3, d3, rfl⟩ := more_of_below hb; clear hb)
          go_wp2_with fail
          (go_at_call 86; refine (l3Sign_any _ _ _ _ _ HO3.out).mono ?_; rw [HS3.out]; rintro e w' ⟨rfl, hb⟩; obtain ⟨os, d, rfl⟩ := more_of_below hb; clear hb)
          by_cases h1 : f ≤ 0
          · by_cases h2 : 0 < t
            · by_cases h3 : 0 < s
              · have hfin := HU.out
                rw [if_pos (by omega)] at hfin
                go_wp2_with fail
                all_goals
                  (first
                   | (refine ⟨⟨k + 1, by omega, rfl, ?_, ?_⟩, ?_⟩
                      · refine congrArg (Value.int IntKind.i64) ?_; omega
                      · exact ⟨_, _, by rw [← HV2.out, ← HV1.out, more_more, more_more]⟩
                      · simp [intOf]; omega)
                   | (exfalso; rename_i hx; simp at hx; omega)
                   | (exfalso; rename_i hx hx2; simp at hx hx2; omega))
              · have hfin := HU.out
                rw [if_neg (by omega), if_neg (by omega)] at hfin
                go_wp2_with fail
                all_goals
                  (first
                   | (refine ⟨⟨k + 1, by omega, rfl, ?_, ?_⟩, ?_⟩
                      · refine congrArg (Value.int IntKind.i64) ?_; omega
                      · exact ⟨_, _, by rw [← HV2.out, ← HV1.out, more_more, more_more]⟩
                      · simp [intOf]; omega)
                   | (exfalso; rename_i hx; simp at hx; omega))
            · have hfin := HU.out
              rw [if_neg (by omega), if_neg (by omega)] at hfin
              go_wp2_with fail
              all_goals
                (first
                 | (refine ⟨⟨k + 1, by omega, rfl, ?_, ?_⟩, ?_⟩
                    · refine congrArg (Value.int IntKind.i64) ?_; omega
                    · exact ⟨_, _, by rw [← HV2.out, ← HV1.out, more_more, more_more]⟩
                    · simp [intOf]; omega)
                 | (exfalso; rename_i hx; simp at hx; omega))
          · by_cases h2 : 0 < t
            · have hfin := HU.out
              rw [if_neg (by omega), if_neg (by omega)] at hfin
              go_wp2_with fail
              all_goals
                (first
                 | (refine ⟨⟨k + 1, by omega, rfl, ?_, ?_⟩, ?_⟩
                    · refine congrArg (Value.int IntKind.i64) ?_; omega
                    · exact ⟨_, _, by rw [← HV2.out, ← HV1.out, more_more, more_more]⟩
                    · simp [intOf]; omega)
                 | (exfalso; rename_i hx; simp at hx; omega))
            · by_cases h3 : s < 0
              · have hfin := HU.out
                rw [if_neg (by omega), if_pos (by omega)] at hfin
                go_wp2_with fail
                all_goals
                  (first
                   | (refine ⟨⟨k + 1, by omega, rfl, ?_, ?_⟩, ?_⟩
                      · refine congrArg (Value.int IntKind.i64) ?_; omega
                      · exact ⟨_, _, by rw [← HV2.out, ← HV1.out, more_more, more_more]⟩
                      · simp [intOf]; omega)
                   | (exfalso; rename_i hx; simp at hx; omega))
              · have hfin := HU.out
                rw [if_neg (by omega), if_neg (by omega)] at hfin
                go_wp2_with fail
                all_goals
                  (first
                   | (refine ⟨⟨k + 1, by omega, rfl, ?_, ?_⟩, ?_⟩
                      · refine congrArg (Value.int IntKind.i64) ?_; omega
                      · exact ⟨_, _, by rw [← HV2.out, ← HV1.out, more_more, more_more]⟩
                      · simp [intOf]; omega)
                   | (exfalso; rename_i hx; simp at hx; omega))
    · obtain rfl : k = n := by omega
      go_wp2
      go_returns
      exact ⟨rfl, by repeat' (first | (with_reducible exact Below.refl _ _) | (with_reducible assumption) | (with_reducible refine Below.alloc ?_ ?_ _) | (with_reducible refine below_more ?_ ?_ _ _) | (with_reducible refine below_rd ?_ ?_ _ _) | (with_reducible refine Below.drew ?_) | (with_reducible refine Below.setCell ?_ ?_ _) | go_size)⟩
theorem specPolyOn_t (a : Option Addr) (cap : Nat) (xs : List C8) (c : C8) (w : World) (h : HasP w a xs) (hn : xs.length ≤ 1048576) (h1 : plOk xs = true) (h2 : okM c 100 = true) (h3 : onA xs c = true) :
    Calls Try.prog 37 #[.slice a xs.length cap, cv c] w fun e w' => e = .returned (.bool true) ∧ Below w.heap.size w w' := by
  have := specPolyOn_any a cap xs c w h hn
  rw [show poOn xs c = true by rw [poOn, h1, h2, h3]; rfl] at this
  exact this
theorem onI_t (a : Option Addr) (cap : Nat) (xs : List C8) (c : C8) (w : World) (h : HasP w a xs) (hn : xs.length ≤ 1048576) (h1 : plOk xs = true) (h2 : okM c 100 = true) (h3 : onA xs c = true) :
    Calls Try.prog 84 #[.slice a xs.length cap, cv c] w fun e w' => e = .returned (.bool true) ∧ Below w.heap.size w w' := by
  obtain ⟨k1, k2, -⟩ := plOk_get h1
  rcases h with rfl | ⟨b, rfl, hb, hp⟩
  · simp at k1
  · have := callsIn_wide.1 (on_in b cap xs c (okM_lim h2) (plOk_small h1) k2 w hb hp)
    rw [h3] at this; exact this
/-- PolyWinding: its no. -/
theorem specPolyWinding_no (a : Option Addr) (cap : Nat) (xs : List C8) (c : C8) (w : World) (h : HasP w a xs) (hn : xs.length ≤ 1048576) (hno : plOk xs = false ∨ (plOk xs = true ∧ (okM c 100 = false ∨ (okM c 100 = true ∧ onA xs c = true)))) :
    Calls Try.prog 39 #[.slice a xs.length cap, cv c] w fun e w' => e = .returned (.tuple #[.int .i64 0, .bool false]) ∧ Below w.heap.size w w' := by
  have HW := Lib.hid h
  rcases hno with h1 | ⟨h1, h2 | ⟨h2, h3⟩⟩
  · go_enter Try.func39, Try.ntmps39
    go_wp2_with (go_at_call 78; refine (specPolyValid_any _ _ _ _ (HW.out.alloc _) hn).mono ?_; rintro e w' ⟨rfl, hb⟩; obtain ⟨os, d, rfl⟩ := more_of_below hb; clear hb)
    go_returns
    exact ⟨rfl, by repeat' (first | (with_reducible exact Below.refl _ _) | (with_reducible assumption) | (with_reducible refine Below.alloc ?_ ?_ _) | (with_reducible refine below_more ?_ ?_ _ _) | (with_reducible refine below_rd ?_ ?_ _ _) | (with_reducible refine Below.drew ?_) | (with_reducible refine Below.setCell ?_ ?_ _) | go_size)⟩
  · go_enter Try.func39, Try.ntmps39
    go_wp2_with (first
      | (go_at_call 78; refine (specPolyValid_any _ _ _ _ (HW.out.alloc _) hn).mono ?_; rintro e w' ⟨rfl, hb⟩; obtain ⟨os, d, rfl⟩ := more_of_below hb; clear hb)
      | (go_at_call 63; refine (l8Small_any _ 100 (by omega) (by omega) _).mono ?_; rintro e w' ⟨rfl, hb⟩; obtain ⟨os, d, rfl⟩ := more_of_below hb; clear hb))
    go_returns
    exact ⟨rfl, by repeat' (first | (with_reducible exact Below.refl _ _) | (with_reducible assumption) | (with_reducible refine Below.alloc ?_ ?_ _) | (with_reducible refine below_more ?_ ?_ _ _) | (with_reducible refine below_rd ?_ ?_ _ _) | (with_reducible refine Below.drew ?_) | (with_reducible refine Below.setCell ?_ ?_ _) | go_size)⟩
  · have HO : Hid (∀ w', Below w.heap.size w w' → Calls Try.prog 37 #[.slice a xs.length cap, cv c] w' fun e w'' => e = .returned (.bool true) ∧ Below w'.heap.size w' w'') := fun w' h' => specPolyOn_t a cap xs c w' (h.below h' rfl) hn h1 h2 h3
    go_enter Try.func39, Try.ntmps39
    go_wp2_with (first
      | (go_at_call 78; refine (specPolyValid_any _ _ _ _ (HW.out.alloc _) hn).mono ?_; rintro e w' ⟨rfl, hb⟩; obtain ⟨os, d, rfl⟩ := more_of_below hb; clear hb)
      | (go_at_call 63; refine (l8Small_any _ 100 (by omega) (by omega) _).mono ?_; rintro e w' ⟨rfl, hb⟩; obtain ⟨os, d, rfl⟩ := more_of_below hb; clear hb)
      | (go_at_call 37; refine (HO.out _ (by repeat' (first | (with_reducible exact Below.refl _ _) | (with_reducible assumption) | (with_reducible refine Below.alloc ?_ ?_ _) | (with_reducible refine below_more ?_ ?_ _ _) | (with_reducible refine below_rd ?_ ?_ _ _) | (with_reducible refine Below.drew ?_) | (with_reducible refine Below.setCell ?_ ?_ _) | go_size))).mono ?_; rintro e w' ⟨rfl, hb⟩; obtain ⟨os, d, rfl⟩ := more_of_below hb; clear hb))
    go_returns
    exact ⟨rfl, by repeat' (first | (with_reducible exact Below.refl _ _) | (with_reducible assumption) | (with_reducible refine Below.alloc ?_ ?_ _) | (with_reducible refine below_more ?_ ?_ _ _) | (with_reducible refine below_rd ?_ ?_ _ _) | (with_reducible refine Below.drew ?_) | (with_reducible refine Below.setCell ?_ ?_ _) | go_size)⟩
theorem polyWinding_no (a : Option Addr) (cap : Nat) (xs : List C8) (c : C8) (w : World) (h : HasP w a xs) (hn : xs.length ≤ 1048576) (hno : plOk xs = false ∨ (plOk xs = true ∧ (okM c 100 = false ∨ (okM c 100 = true ∧ onA xs c = true)))) :
    Calls Try.prog 40 #[.slice a xs.length cap, cv c] w fun e w' => e = .returned (.tuple #[.int .i64 0, .bool false]) ∧ Below w.heap.size w w' := by
  have HW := Lib.hid h
  rcases hno with h1 | ⟨h1, h2 | ⟨h2, h3⟩⟩
  · go_enter Try.func40, Try.ntmps40
    go_wp2_with (go_at_call 80; refine (polyValid_any _ _ _ _ (HW.out.alloc _) hn).mono ?_; rintro e w' ⟨rfl, hb⟩; obtain ⟨os, d, rfl⟩ := more_of_below hb; clear hb)
    go_returns
    exact ⟨rfl, by repeat' (first | (with_reducible exact Below.refl _ _) | (with_reducible assumption) | (with_reducible refine Below.alloc ?_ ?_ _) | (with_reducible refine below_more ?_ ?_ _ _) | (with_reducible refine below_rd ?_ ?_ _ _) | (with_reducible refine Below.drew ?_) | (with_reducible refine Below.setCell ?_ ?_ _) | go_size)⟩
  · go_enter Try.func40, Try.ntmps40
    go_wp2_with (first
      | (go_at_call 80; refine (polyValid_any _ _ _ _ (HW.out.alloc _) hn).mono ?_; rintro e w' ⟨rfl, hb⟩; obtain ⟨os, d, rfl⟩ := more_of_below hb; clear hb)
      | (go_at_call 66; refine (smallM_any _ 100 (by omega) (by omega) _).mono ?_; rintro e w' ⟨rfl, hb⟩; obtain ⟨os, d, rfl⟩ := more_of_below hb; clear hb))
    go_returns
    exact ⟨rfl, by repeat' (first | (with_reducible exact Below.refl _ _) | (with_reducible assumption) | (with_reducible refine Below.alloc ?_ ?_ _) | (with_reducible refine below_more ?_ ?_ _ _) | (with_reducible refine below_rd ?_ ?_ _ _) | (with_reducible refine Below.drew ?_) | (with_reducible refine Below.setCell ?_ ?_ _) | go_size)⟩
  · have HO : Hid (∀ w', Below w.heap.size w w' → Calls Try.prog 84 #[.slice a xs.length cap, cv c] w' fun e w'' => e = .returned (.bool true) ∧ Below w'.heap.size w' w'') := fun w' h' => onI_t a cap xs c w' (h.below h' rfl) hn h1 h2 h3
    go_enter Try.func40, Try.ntmps40
    go_wp2_with (first
      | (go_at_call 80; refine (polyValid_any _ _ _ _ (HW.out.alloc _) hn).mono ?_; rintro e w' ⟨rfl, hb⟩; obtain ⟨os, d, rfl⟩ := more_of_below hb; clear hb)
      | (go_at_call 66; refine (smallM_any _ 100 (by omega) (by omega) _).mono ?_; rintro e w' ⟨rfl, hb⟩; obtain ⟨os, d, rfl⟩ := more_of_below hb; clear hb)
      | (go_at_call 84; refine (HO.out _ (by repeat' (first | (with_reducible exact Below.refl _ _) | (with_reducible assumption) | (with_reducible refine Below.alloc ?_ ?_ _) | (with_reducible refine below_more ?_ ?_ _ _) | (with_reducible refine below_rd ?_ ?_ _ _) | (with_reducible refine Below.drew ?_) | (with_reducible refine Below.setCell ?_ ?_ _) | go_size))).mono ?_; rintro e w' ⟨rfl, hb⟩; obtain ⟨os, d, rfl⟩ := more_of_below hb; clear hb))
    go_returns
    exact ⟨rfl, by repeat' (first | (with_reducible exact Below.refl _ _) | (with_reducible assumption) | (with_reducible refine Below.alloc ?_ ?_ _) | (with_reducible refine below_more ?_ ?_ _ _) | (with_reducible refine below_rd ?_ ?_ _ _) | (with_reducible refine Below.drew ?_) | (with_reducible refine Below.setCell ?_ ?_ _) | go_size)⟩

theorem specPolyWinding_any (a : Option Addr) (cap : Nat) (xs : List C8) (c : C8) (w : World) (h : HasP w a xs) (hn : xs.length ≤ 1048576) :
    Calls Try.prog 39 #[.slice a xs.length cap, cv c] w fun e w' => e = .returned (.tuple #[.int .i64 (pwR xs c), .bool (pwOk xs c)]) ∧ Below w.heap.size w w' := by
  have hno : pwOk xs c = false → pwR xs c = 0 := fun e => by rw [pwR, if_neg (by rw [e]; simp)]
  rcases Bool.eq_false_or_eq_true (plOk xs) with hv | hv
  · rcases Bool.eq_false_or_eq_true (okM c 100) with hv2 | hv2
    · rcases Bool.eq_false_or_eq_true (onA xs c) with hv3 | hv3
      · have e : pwOk xs c = false := by rw [pwOk, hv, hv2, hv3]; rfl
        rw [hno e, e]
        exact specPolyWinding_no a cap xs c w h hn (Or.inr ⟨hv, Or.inr ⟨hv2, hv3⟩⟩)
      · obtain ⟨h1, h2, -⟩ := plOk_get hv
        have e : pwOk xs c = true := by rw [pwOk, hv, hv2, hv3]; rfl
        rw [pwR, if_pos e, e]
        rcases h with rfl | ⟨b, rfl, hb, hp⟩
        · simp at h1
        · exact specPolyWinding_yes b cap xs.length xs c rfl hv hv2 hv3 w hb hp (plOk_small hv) h2
    · have e : pwOk xs c = false := by rw [pwOk, hv, hv2]; rfl
      rw [hno e, e]
      exact specPolyWinding_no a cap xs c w h hn (Or.inr ⟨hv, Or.inl hv2⟩)
  · have e : pwOk xs c = false := by rw [pwOk, hv]; rfl
    rw [hno e, e]
    exact specPolyWinding_no a cap xs c w h hn (Or.inl hv)
theorem polyWinding_any (a : Option Addr) (cap : Nat) (xs : List C8) (c : C8) (w : World) (h : HasP w a xs) (hn : xs.length ≤ 1048576) :
    Calls Try.prog 40 #[.slice a xs.length cap, cv c] w fun e w' => e = .returned (.tuple #[.int .i64 (pwR xs c), .bool (pwOk xs c)]) ∧ Below w.heap.size w w' := by
  have hno : pwOk xs c = false → pwR xs c = 0 := fun e => by rw [pwR, if_neg (by rw [e]; simp)]
  rcases Bool.eq_false_or_eq_true (plOk xs) with hv | hv
  · rcases Bool.eq_false_or_eq_true (okM c 100) with hv2 | hv2
    · rcases Bool.eq_false_or_eq_true (onA xs c) with hv3 | hv3
      · have e : pwOk xs c = false := by rw [pwOk, hv, hv2, hv3]; rfl
        rw [hno e, e]
        exact polyWinding_no a cap xs c w h hn (Or.inr ⟨hv, Or.inr ⟨hv2, hv3⟩⟩)
      · obtain ⟨h1, h2, -⟩ := plOk_get hv
        have e : pwOk xs c = true := by rw [pwOk, hv, hv2, hv3]; rfl
        rw [pwR, if_pos e, e]
        rcases h with rfl | ⟨b, rfl, hb, hp⟩
        · simp at h1
        · exact callsIn_wide.1 (polyWinding_in b cap xs c hv hv2 hv3 (plOk_small hv) h2 w hb hp)
    · have e : pwOk xs c = false := by rw [pwOk, hv, hv2]; rfl
      rw [hno e, e]
      exact polyWinding_no a cap xs c w h hn (Or.inr ⟨hv, Or.inl hv2⟩)
  · have e : pwOk xs c = false := by rw [pwOk, hv]; rfl
    rw [hno e, e]
    exact polyWinding_no a cap xs c w h hn (Or.inl hv)

end Go.Proofs.Ytklmlodapinflaa
