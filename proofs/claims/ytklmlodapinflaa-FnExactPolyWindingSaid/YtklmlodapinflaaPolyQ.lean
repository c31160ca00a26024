/- PolyOn of the program and of the reference. -/
import Derived.Test.YtklmlodapinflaaPolyO
namespace Go.Proofs.Ytklmlodapinflaa
open Go.RowKit Go.Shelf

set_option maxRecDepth 100000 in
set_option maxHeartbeats 4000000 in
theorem l8On_any (a b c : C8) (ha : C8.lim 100 a) (hb : C8.lim 100 b) (hc : C8.lim 100 c) (w : World) :
    Calls Try.prog 83 #[cv a, cv b, cv c] w fun e w' => e = .returned (.bool (onB c (a, b))) ∧ Below w.heap.size w w' := by
  have la := C8.lim_mono ha (show (100 : Int) ≤ 1000 by omega)
  have lb := C8.lim_mono hb (show (100 : Int) ≤ 1000 by omega)
  have lc := C8.lim_mono hc (show (100 : Int) ≤ 1000 by omega)
  obtain ⟨x, hx⟩ : ∃ x, C8.sub a c = x := ⟨_, rfl⟩
  obtain ⟨y, hy⟩ : ∃ y, C8.sub b c = y := ⟨_, rfl⟩
  have l2x : C8.lim 200 x := by rw [← hx]; exact lim_sub ha hc
  have l2y : C8.lim 200 y := by rw [← hy]; exact lim_sub hb hc
  have KX := Lib.hid ((sumW_sub la lc).trans hx)
  have KY := Lib.hid ((sumW_sub lb lc).trans hy)
  have lx := C8.lim_mono l2x (show (200 : Int) ≤ 1000 by omega)
  have ly := C8.lim_mono l2y (show (200 : Int) ≤ 1000 by omega)
  obtain ⟨k1, k2, k3⟩ := crs_lim lx ly
  have LX := Lib.hid lx
  have LY := Lib.hid ly
  have K1 := Lib.hid k1
  have K2 := Lib.hid ((C8.mulToW_succ x.mir y 7).trans k2)
  have K3 := Lib.hid k3
  have HO1 := Lib.hid (show okS (crs x y).a (crs x y).b (crs x y).c (crs x y).d = true from crs_ok l2x l2y)
  have HO2 := Lib.hid (show okS (alg x y).a (alg x y).b (alg x y).c (alg x y).d = true from alg_ok l2x l2y)
  obtain ⟨s1, hs1⟩ : ∃ s1, sgS (crs x y).a (crs x y).b (crs x y).c (crs x y).d = s1 := ⟨_, rfl⟩
  obtain ⟨s2, hs2⟩ : ∃ s2, sgS (alg x y).a (alg x y).b (alg x y).c (alg x y).d = s2 := ⟨_, rfl⟩
  have HS1 := Lib.hid hs1
  have HS2 := Lib.hid hs2
  have HON : onB c (a, b) = (decide (s1 = 0) && decide (s2 ≤ 0)) := by
    unfold onB sgn
    simp only [hx, hy, hs1, hs2]
  rw [HON]
  clear HON hx hy hs1 hs2 la lb lc lx ly k1 k2 k3 l2x l2y ha hb hc
  go_enter Try.func83, Try.ntmps83
  go_wp2_with fail
  (go_at_call 85; refine (l2Sum_any _ _ _ _).mono ?_; rw [KX.out]; rintro e w' ⟨rfl, hb⟩; obtain ⟨os, d, rfl⟩ := more_of_below hb; clear hb)
  go_wp2_with fail
  (go_at_call 85; refine (l2Sum_any _ _ _ _).mono ?_; rw [KY.out]; rintro e w' ⟨rfl, hb⟩; obtain ⟨os2, d2, rfl⟩ := more_of_below hb; clear hb)
  have hPX : PtAt ((more ((more (((w.alloc (.cells (row a) 25)).alloc (.cells (row b) 25)).alloc (.cells (row c) 25)) os d).alloc (.cells (row x) 25)) os2 d2).alloc (.cells (row y) 25)) (w.heap.size + 1 + 1 + 1 + os.size) 0 x := ptAt_alloc (PtAt.more (by simpa using PtAt.new (more (((w.alloc (.cells (row a) 25)).alloc (.cells (row b) 25)).alloc (.cells (row c) 25)) os d) x 25) (by simp) os2 d2) (by simp; omega) _
  have hPY : PtAt ((more ((more (((w.alloc (.cells (row a) 25)).alloc (.cells (row b) 25)).alloc (.cells (row c) 25)) os d).alloc (.cells (row x) 25)) os2 d2).alloc (.cells (row y) 25)) (w.heap.size + 1 + 1 + 1 + os.size + 1 + os2.size) 0 y := by simpa using PtAt.new (more ((more (((w.alloc (.cells (row a) 25)).alloc (.cells (row b) 25)).alloc (.cells (row c) 25)) os d).alloc (.cells (row x) 25)) os2 d2) y 25
  have hBW : Below w.heap.size w ((more ((more (((w.alloc (.cells (row a) 25)).alloc (.cells (row b) 25)).alloc (.cells (row c) 25)) os d).alloc (.cells (row x) 25)) os2 d2).alloc (.cells (row y) 25)) := by repeat' (first | (with_reducible exact Below.refl _ _) | (with_reducible assumption) | (with_reducible refine Below.alloc ?_ ?_ _) | (with_reducible refine below_more ?_ ?_ _ _) | (with_reducible refine below_rd ?_ ?_ _ _) | (with_reducible refine Below.drew ?_) | (with_reducible refine Below.setCell ?_ ?_ _) | go_size)
  have hsz : ((more ((more (((w.alloc (.cells (row a) 25)).alloc (.cells (row b) 25)).alloc (.cells (row c) 25)) os d).alloc (.cells (row x) 25)) os2 d2).alloc (.cells (row y) 25)).heap.size = w.heap.size + 1 + 1 + 1 + os.size + 1 + os2.size + 1 := by simp
  go_wp2_with fail
  obtain ⟨WX, hWX⟩ : ∃ WX, ((more ((more (((w.alloc (.cells (row a) 25)).alloc (.cells (row b) 25)).alloc (.cells (row c) 25)) os d).alloc (.cells (row x) 25)) os2 d2).alloc (.cells (row y) 25)) = WX := ⟨_, rfl⟩
  rw [hWX] at hPX hPY hBW hsz ⊢
  obtain ⟨B7, hB7⟩ : ∃ B7, w.heap.size + 1 + 1 + 1 + os.size = B7 := ⟨_, rfl⟩
  rw [hB7] at hPX hPY hsz ⊢
  obtain ⟨B8, hB8⟩ : ∃ B8, B7 + 1 + os2.size = B8 := ⟨_, rfl⟩
  rw [hB8] at hPY hsz ⊢
  have l7 : B7 < WX.heap.size := by omega
  have l8 : B8 < WX.heap.size := by omega
  have hsw : w.heap.size ≤ WX.heap.size := by omega
  clear hWX hB7 hB8
  have HPX := Lib.hid hPX
  have HPY := Lib.hid hPY
  clear hPX hPY
  by_cases h1 : s1 = 0
  · subst h1
    by_cases h2 : s2 ≤ 0
    · refine (wpIn_wide (n := 0)).1 ?_
      refine region_fixedIn (lets_wide 0) (fun w' => ∃ os' d', w' = more WX os' d') (by kernel_rfl) 15 [cv x, cv y, sS (crs x y), .int .i64 0, .bool true, .bool true, cv x, cv x.mir, cv y, cv (C8.mul x.mir y), sS (alg x y), .int .i64 s2, .bool true, .bool true, .bool true] (by simp) (by kernel_rfl) (by kernel_rfl) ⟨#[], _, drew_self _⟩ ?_ ?_
      · simp only [List.take_succ_cons, List.take_zero, puts, Act.put, List.setIfInBounds_toArray, List.set_cons_zero, List.set_cons_succ]
        refine ⟨?_, ?_, ?_, ?_, ?_, ?_, ?_, ?_, ?_, ?_, ?_, ?_, ?_, ?_, ?_, trivial⟩
        · refine Or.inl ⟨by kernel_rfl, ?_⟩
          rintro w' ⟨os', d', rfl⟩ KK hKK
          refine wp_load_mid 25 (.tmp 7) rfl B7 0 rfl (row x).toList _ (HPX.out.more l7 os' d') Try.underlying25 rfl infoC8 ?_
          simp only [Act.put, Array.toArray_toList, List.setIfInBounds_toArray, List.set_cons_zero, List.set_cons_succ]
          with_reducible exact hKK.out _ ⟨_, _, rfl⟩
        · refine Or.inl ⟨by kernel_rfl, ?_⟩
          rintro w' ⟨os', d', rfl⟩ KK hKK
          refine wp_load_mid 25 (.tmp 8) rfl B8 0 rfl (row y).toList _ (HPY.out.more l8 os' d') Try.underlying25 rfl infoC8 ?_
          simp only [Act.put, Array.toArray_toList, List.setIfInBounds_toArray, List.set_cons_zero, List.set_cons_succ]
          with_reducible exact hKK.out _ ⟨_, _, rfl⟩
        · refine Or.inl ⟨by kernel_rfl, ?_⟩
          rintro w' ⟨os', d', rfl⟩ KK hKK
          go_simp
          go_at_call 64
          refine (l8Cross_any _ _ LX.out LY.out _).mono ?_
          rintro e w' ⟨rfl, hb⟩; obtain ⟨os, d, rfl⟩ := more_of_below hb; clear hb
          go_simp
          with_reducible exact hKK.out _ ⟨_, _, rfl⟩
        · refine Or.inl ⟨by kernel_rfl, ?_⟩
          rintro w' ⟨os', d', rfl⟩ KK hKK
          go_simp
          go_at_call 86
          refine (l3Sign_any _ _ _ _ _ HO1.out).mono ?_
          rw [HS1.out]
          rintro e w' ⟨rfl, hb⟩; obtain ⟨os, d, rfl⟩ := more_of_below hb; clear hb
          go_simp
          with_reducible exact hKK.out _ ⟨_, _, rfl⟩
        · refine Or.inl ⟨by kernel_rfl, ?_⟩
          rintro w' ⟨os', d', rfl⟩ KK hKK
          go_simp
          try go_wp2_with fail
          with_reducible exact hKK.out _ ⟨_, _, rfl⟩
        · refine Or.inl ⟨by kernel_rfl, ?_⟩
          rintro w' ⟨os', d', rfl⟩ KK hKK
          go_simp
          try go_wp2_with fail
          with_reducible exact hKK.out _ ⟨_, _, rfl⟩
        · refine Or.inl ⟨by kernel_rfl, ?_⟩
          rintro w' ⟨os', d', rfl⟩ KK hKK
          refine wp_load_mid 25 (.tmp 7) rfl B7 0 rfl (row x).toList _ (HPX.out.more l7 os' d') Try.underlying25 rfl infoC8 ?_
          simp only [Act.put, Array.toArray_toList, List.setIfInBounds_toArray, List.set_cons_zero, List.set_cons_succ]
          with_reducible exact hKK.out _ ⟨_, _, rfl⟩
        · refine Or.inl ⟨by kernel_rfl, ?_⟩
          rintro w' ⟨os', d', rfl⟩ KK hKK
          go_simp
          go_at_call 109
          refine (l2Mirror_any _ _).mono ?_
          rw [K1.out]
          rintro e w' ⟨rfl, hb⟩; obtain ⟨os, d, rfl⟩ := more_of_below hb; clear hb
          go_simp
          with_reducible exact hKK.out _ ⟨_, _, rfl⟩
        · refine Or.inl ⟨by kernel_rfl, ?_⟩
          rintro w' ⟨os', d', rfl⟩ KK hKK
          refine wp_load_mid 25 (.tmp 8) rfl B8 0 rfl (row y).toList _ (HPY.out.more l8 os' d') Try.underlying25 rfl infoC8 ?_
          simp only [Act.put, Array.toArray_toList, List.setIfInBounds_toArray, List.set_cons_zero, List.set_cons_succ]
          with_reducible exact hKK.out _ ⟨_, _, rfl⟩
        · refine Or.inl ⟨by kernel_rfl, ?_⟩
          rintro w' ⟨os', d', rfl⟩ KK hKK
          go_simp
          go_at_call 108
          refine (l2Times_any _ _ _).mono ?_
          rw [K2.out]
          rintro e w' ⟨rfl, hb⟩; obtain ⟨os, d, rfl⟩ := more_of_below hb; clear hb
          go_simp
          with_reducible exact hKK.out _ ⟨_, _, rfl⟩
        · refine Or.inl ⟨by kernel_rfl, ?_⟩
          rintro w' ⟨os', d', rfl⟩ KK hKK
          go_simp
          go_at_call 70
          refine (l3Re_any _ K3.out _).mono ?_
          rw [show (C8.mul x.mir y).re = alg x y from rfl]
          rintro e w' ⟨rfl, hb⟩; obtain ⟨os, d, rfl⟩ := more_of_below hb; clear hb
          go_simp
          with_reducible exact hKK.out _ ⟨_, _, rfl⟩
        · refine Or.inl ⟨by kernel_rfl, ?_⟩
          rintro w' ⟨os', d', rfl⟩ KK hKK
          go_simp
          go_at_call 86
          refine (l3Sign_any _ _ _ _ _ HO2.out).mono ?_
          rw [HS2.out]
          rintro e w' ⟨rfl, hb⟩; obtain ⟨os, d, rfl⟩ := more_of_below hb; clear hb
          go_simp
          with_reducible exact hKK.out _ ⟨_, _, rfl⟩
        · refine Or.inl ⟨by kernel_rfl, ?_⟩
          rintro w' ⟨os', d', rfl⟩ KK hKK
          go_simp
          try go_wp2_with fail
          with_reducible exact hKK.out _ ⟨_, _, rfl⟩
        · refine Or.inl ⟨by kernel_rfl, ?_⟩
          rintro w' ⟨os', d', rfl⟩ KK hKK
          go_simp
          try go_wp2_with fail
          with_reducible exact hKK.out _ ⟨_, _, rfl⟩
        · refine Or.inl ⟨by kernel_rfl, ?_⟩
          rintro w' ⟨os', d', rfl⟩ KK hKK
          go_simp
          try go_wp2_with fail
          with_reducible exact hKK.out _ ⟨_, _, rfl⟩
      · rintro w' ⟨os', d', rfl⟩
        simp only [List.take_succ_cons, List.take_zero, puts, Act.put, List.setIfInBounds_toArray, List.set_cons_zero, List.set_cons_succ, List.drop_succ_cons, List.drop_zero]
        gi_wp2
        go_wp2_with fail
        go_ret
        exact ⟨by simp, below_more hBW hsw _ _⟩
    · have h2b := decide_eq_false h2
      refine (wpIn_wide (n := 0)).1 ?_
      refine region_fixedIn (lets_wide 0) (fun w' => ∃ os' d', w' = more WX os' d') (by kernel_rfl) 15 [cv x, cv y, sS (crs x y), .int .i64 0, .bool true, .bool true, cv x, cv x.mir, cv y, cv (C8.mul x.mir y), sS (alg x y), .int .i64 s2, .bool false, .bool false, .bool false] (by simp) (by kernel_rfl) (by kernel_rfl) ⟨#[], _, drew_self _⟩ ?_ ?_
      · simp only [List.take_succ_cons, List.take_zero, puts, Act.put, List.setIfInBounds_toArray, List.set_cons_zero, List.set_cons_succ]
        refine ⟨?_, ?_, ?_, ?_, ?_, ?_, ?_, ?_, ?_, ?_, ?_, ?_, ?_, ?_, ?_, trivial⟩
        · refine Or.inl ⟨by kernel_rfl, ?_⟩
          rintro w' ⟨os', d', rfl⟩ KK hKK
          refine wp_load_mid 25 (.tmp 7) rfl B7 0 rfl (row x).toList _ (HPX.out.more l7 os' d') Try.underlying25 rfl infoC8 ?_
          simp only [Act.put, Array.toArray_toList, List.setIfInBounds_toArray, List.set_cons_zero, List.set_cons_succ]
          with_reducible exact hKK.out _ ⟨_, _, rfl⟩
        · refine Or.inl ⟨by kernel_rfl, ?_⟩
          rintro w' ⟨os', d', rfl⟩ KK hKK
          refine wp_load_mid 25 (.tmp 8) rfl B8 0 rfl (row y).toList _ (HPY.out.more l8 os' d') Try.underlying25 rfl infoC8 ?_
          simp only [Act.put, Array.toArray_toList, List.setIfInBounds_toArray, List.set_cons_zero, List.set_cons_succ]
          with_reducible exact hKK.out _ ⟨_, _, rfl⟩
        · refine Or.inl ⟨by kernel_rfl, ?_⟩
          rintro w' ⟨os', d', rfl⟩ KK hKK
          go_simp
          go_at_call 64
          refine (l8Cross_any _ _ LX.out LY.out _).mono ?_
          rintro e w' ⟨rfl, hb⟩; obtain ⟨os, d, rfl⟩ := more_of_below hb; clear hb
          go_simp
          with_reducible exact hKK.out _ ⟨_, _, rfl⟩
        · refine Or.inl ⟨by kernel_rfl, ?_⟩
          rintro w' ⟨os', d', rfl⟩ KK hKK
          go_simp
          go_at_call 86
          refine (l3Sign_any _ _ _ _ _ HO1.out).mono ?_
          rw [HS1.out]
          rintro e w' ⟨rfl, hb⟩; obtain ⟨os, d, rfl⟩ := more_of_below hb; clear hb
          go_simp
          with_reducible exact hKK.out _ ⟨_, _, rfl⟩
        · refine Or.inl ⟨by kernel_rfl, ?_⟩
          rintro w' ⟨os', d', rfl⟩ KK hKK
          go_simp
          try go_wp2_with fail
          with_reducible exact hKK.out _ ⟨_, _, rfl⟩
        · refine Or.inl ⟨by kernel_rfl, ?_⟩
          rintro w' ⟨os', d', rfl⟩ KK hKK
          go_simp
          try go_wp2_with fail
          with_reducible exact hKK.out _ ⟨_, _, rfl⟩
        · refine Or.inl ⟨by kernel_rfl, ?_⟩
          rintro w' ⟨os', d', rfl⟩ KK hKK
          refine wp_load_mid 25 (.tmp 7) rfl B7 0 rfl (row x).toList _ (HPX.out.more l7 os' d') Try.underlying25 rfl infoC8 ?_
          simp only [Act.put, Array.toArray_toList, List.setIfInBounds_toArray, List.set_cons_zero, List.set_cons_succ]
          with_reducible exact hKK.out _ ⟨_, _, rfl⟩
        · refine Or.inl ⟨by kernel_rfl, ?_⟩
          rintro w' ⟨os', d', rfl⟩ KK hKK
          go_simp
          go_at_call 109
          refine (l2Mirror_any _ _).mono ?_
          rw [K1.out]
          rintro e w' ⟨rfl, hb⟩; obtain ⟨os, d, rfl⟩ := more_of_below hb; clear hb
          go_simp
          with_reducible exact hKK.out _ ⟨_, _, rfl⟩
        · refine Or.inl ⟨by kernel_rfl, ?_⟩
          rintro w' ⟨os', d', rfl⟩ KK hKK
          refine wp_load_mid 25 (.tmp 8) rfl B8 0 rfl (row y).toList _ (HPY.out.more l8 os' d') Try.underlying25 rfl infoC8 ?_
          simp only [Act.put, Array.toArray_toList, List.setIfInBounds_toArray, List.set_cons_zero, List.set_cons_succ]
          with_reducible exact hKK.out _ ⟨_, _, rfl⟩
        · refine Or.inl ⟨by kernel_rfl, ?_⟩
          rintro w' ⟨os', d', rfl⟩ KK hKK
          go_simp
          go_at_call 108
          refine (l2Times_any _ _ _).mono ?_
          rw [K2.out]
          rintro e w' ⟨rfl, hb⟩; obtain ⟨os, d, rfl⟩ := more_of_below hb; clear hb
          go_simp
          with_reducible exact hKK.out _ ⟨_, _, rfl⟩
        · refine Or.inl ⟨by kernel_rfl, ?_⟩
          rintro w' ⟨os', d', rfl⟩ KK hKK
          go_simp
          go_at_call 70
          refine (l3Re_any _ K3.out _).mono ?_
          rw [show (C8.mul x.mir y).re = alg x y from rfl]
          rintro e w' ⟨rfl, hb⟩; obtain ⟨os, d, rfl⟩ := more_of_below hb; clear hb
          go_simp
          with_reducible exact hKK.out _ ⟨_, _, rfl⟩
        · refine Or.inl ⟨by kernel_rfl, ?_⟩
          rintro w' ⟨os', d', rfl⟩ KK hKK
          go_simp
          go_at_call 86
          refine (l3Sign_any _ _ _ _ _ HO2.out).mono ?_
          rw [HS2.out]
          rintro e w' ⟨rfl, hb⟩; obtain ⟨os, d, rfl⟩ := more_of_below hb; clear hb
          go_simp
          with_reducible exact hKK.out _ ⟨_, _, rfl⟩
        · refine Or.inl ⟨by kernel_rfl, ?_⟩
          rintro w' ⟨os', d', rfl⟩ KK hKK
          go_simp
          try go_wp2_with fail
          with_reducible exact hKK.out _ ⟨_, _, rfl⟩
        · refine Or.inl ⟨by kernel_rfl, ?_⟩
          rintro w' ⟨os', d', rfl⟩ KK hKK
          go_simp
          try go_wp2_with fail
          with_reducible exact hKK.out _ ⟨_, _, rfl⟩
        · refine Or.inl ⟨by kernel_rfl, ?_⟩
          rintro w' ⟨os', d', rfl⟩ KK hKK
          go_simp
          try go_wp2_with fail
          with_reducible exact hKK.out _ ⟨_, _, rfl⟩
      · rintro w' ⟨os', d', rfl⟩
        simp only [List.take_succ_cons, List.take_zero, puts, Act.put, List.setIfInBounds_toArray, List.set_cons_zero, List.set_cons_succ, List.drop_succ_cons, List.drop_zero]
        gi_wp2
        go_wp2_with fail
        go_ret
        exact ⟨by simp, below_more hBW hsw _ _⟩
  · have h1b : (s1 == 0) = false := by rw [beq_eq_false_iff_ne]; exact h1
    refine (wpIn_wide (n := 0)).1 ?_
    refine region_fixedIn (lets_wide 0) (fun w' => ∃ os' d', w' = more WX os' d') (by kernel_rfl) 15 [cv x, cv y, sS (crs x y), .int .i64 s1, .bool false, .bool false, undef, undef, undef, undef, undef, undef, undef, .bool false, .bool false] (by simp) (by kernel_rfl) (by kernel_rfl) ⟨#[], _, drew_self _⟩ ?_ ?_
    · simp only [List.take_succ_cons, List.take_zero, puts, Act.put, List.setIfInBounds_toArray, List.set_cons_zero, List.set_cons_succ]
      refine ⟨?_, ?_, ?_, ?_, ?_, ?_, ?_, ?_, ?_, ?_, ?_, ?_, ?_, ?_, ?_, trivial⟩
      · refine Or.inl ⟨by kernel_rfl, ?_⟩
        rintro w' ⟨os', d', rfl⟩ KK hKK
        refine wp_load_mid 25 (.tmp 7) rfl B7 0 rfl (row x).toList _ (HPX.out.more l7 os' d') Try.underlying25 rfl infoC8 ?_
        simp only [Act.put, Array.toArray_toList, List.setIfInBounds_toArray, List.set_cons_zero, List.set_cons_succ]
        with_reducible exact hKK.out _ ⟨_, _, rfl⟩
      · refine Or.inl ⟨by kernel_rfl, ?_⟩
        rintro w' ⟨os', d', rfl⟩ KK hKK
        refine wp_load_mid 25 (.tmp 8) rfl B8 0 rfl (row y).toList _ (HPY.out.more l8 os' d') Try.underlying25 rfl infoC8 ?_
        simp only [Act.put, Array.toArray_toList, List.setIfInBounds_toArray, List.set_cons_zero, List.set_cons_succ]
        with_reducible exact hKK.out _ ⟨_, _, rfl⟩
      · refine Or.inl ⟨by kernel_rfl, ?_⟩
        rintro w' ⟨os', d', rfl⟩ KK hKK
        go_simp
        go_at_call 64
        refine (l8Cross_any _ _ LX.out LY.out _).mono ?_
        rintro e w' ⟨rfl, hb⟩; obtain ⟨os, d, rfl⟩ := more_of_below hb; clear hb
        go_simp
        with_reducible exact hKK.out _ ⟨_, _, rfl⟩
      · refine Or.inl ⟨by kernel_rfl, ?_⟩
        rintro w' ⟨os', d', rfl⟩ KK hKK
        go_simp
        go_at_call 86
        refine (l3Sign_any _ _ _ _ _ HO1.out).mono ?_
        rw [HS1.out]
        rintro e w' ⟨rfl, hb⟩; obtain ⟨os, d, rfl⟩ := more_of_below hb; clear hb
        go_simp
        with_reducible exact hKK.out _ ⟨_, _, rfl⟩
      · refine Or.inl ⟨by kernel_rfl, ?_⟩
        rintro w' ⟨os', d', rfl⟩ KK hKK
        go_simp
        try go_wp2_with fail
        with_reducible exact hKK.out _ ⟨_, _, rfl⟩
      · refine Or.inl ⟨by kernel_rfl, ?_⟩
        rintro w' ⟨os', d', rfl⟩ KK hKK
        go_simp
        try go_wp2_with fail
        with_reducible exact hKK.out _ ⟨_, _, rfl⟩
      · exact Or.inr ⟨by kernel_rfl, fun d hd => by cases hd; rfl⟩
      · exact Or.inr ⟨by kernel_rfl, fun d hd => by cases hd; rfl⟩
      · exact Or.inr ⟨by kernel_rfl, fun d hd => by cases hd; rfl⟩
      · exact Or.inr ⟨by kernel_rfl, fun d hd => by cases hd; rfl⟩
      · exact Or.inr ⟨by kernel_rfl, fun d hd => by cases hd; rfl⟩
      · exact Or.inr ⟨by kernel_rfl, fun d hd => by cases hd; rfl⟩
      · exact Or.inr ⟨by kernel_rfl, fun d hd => by cases hd; rfl⟩
      · refine Or.inl ⟨by kernel_rfl, ?_⟩
        rintro w' ⟨os', d', rfl⟩ KK hKK
        go_simp
        try go_wp2_with fail
        with_reducible exact hKK.out _ ⟨_, _, rfl⟩
      · refine Or.inl ⟨by kernel_rfl, ?_⟩
        rintro w' ⟨os', d', rfl⟩ KK hKK
        go_simp
        try go_wp2_with fail
        with_reducible exact hKK.out _ ⟨_, _, rfl⟩
    · rintro w' ⟨os', d', rfl⟩
      simp only [List.take_succ_cons, List.take_zero, puts, Act.put, List.setIfInBounds_toArray, List.set_cons_zero, List.set_cons_succ, List.drop_succ_cons, List.drop_zero]
      gi_wp2
      go_wp2_with fail
      go_ret
      exact ⟨by simp [h1], below_more hBW hsw _ _⟩
set_option maxRecDepth 100000 in
set_option maxHeartbeats 4000000 in
theorem specPolyOn_yes (b cap n : Nat) (xs : List C8) (c : C8) (hxn : xs.length = n) (hok : plOk xs = true) (hokc : okM c 100 = true) (w : World) (hb : b < w.heap.size) (hc : ∀ i, i < n → PtAt w b (i * 8) (xs.getD i C8.zero)) (hSd : ∀ k, k < n → SdSm (sideOf xs k)) (hlen : n ≤ 48) :
    Calls Try.prog 37 #[.slice (some ⟨b, 0, none⟩) n cap, cv c] w fun e w' => e = .returned (.bool (onA xs c)) ∧ Below w.heap.size w w' := by
  have HC := Lib.hid hc
  have HS := Lib.hid hSd
  have HN := Lib.hid hxn
  have HCL := Lib.hid (okM_lim hokc)
  have HP : Hid (HasP w (some ⟨b, 0, none⟩) xs) := Or.inr ⟨b, rfl, hb, fun i hi => hc i (by omega)⟩
  have HV : Hid (∀ w', HasP w' (some ⟨b, 0, none⟩) xs → Calls Try.prog 78 #[.slice (some ⟨b, 0, none⟩) n cap] w' fun e w'' => e = .returned (.bool true) ∧ Below w'.heap.size w' w'') := fun w' h' => by
    have := specPolyValid_any (some ⟨b, 0, none⟩) cap xs w' h' (by omega)
    rw [hok, hxn] at this; exact this
  have HVC : Hid (∀ w', Calls Try.prog 63 #[cv c, .int .i64 100] w' fun e w'' => e = .returned (.bool true) ∧ Below w'.heap.size w' w'') := fun w' => by
    have := l8Small_any c 100 (by omega) (by omega) w'
    rw [hokc] at this; exact this
  clear hc hSd hxn hok hokc
  go_enter Try.func37, Try.ntmps37
  go_wp2_with (first
    | (go_at_call 78; refine (HV.out _ (HP.out.alloc _)).mono ?_; rintro e w' ⟨rfl, hb⟩; obtain ⟨os, d, rfl⟩ := more_of_below hb; clear hb)
    | (go_at_call 63; refine (HVC.out _).mono ?_; rintro e w' ⟨rfl, hb⟩; obtain ⟨os, d, rfl⟩ := more_of_below hb; clear hb))
  go_loopw [5] (fun s wr => ∃ k : Nat, k ≤ n ∧ s = .int .i64 k ∧ Hid (∀ j, j < k → onB c (sideOf xs j) = false) ∧ ∃ os d, wr = more (w.alloc (.cells (row c) 25)) os d) (fun s _ => n - (intOf s).toNat)
  case atStart => exact ⟨0, by omega, rfl, fun j hj => by omega, _, _, rfl⟩
  case round =>
    obtain ⟨k, hk, rfl, hall, os, d, rfl⟩ := hrel
    by_cases hlt : k < n
    · obtain ⟨m', hm'⟩ : ∃ m', (k + 1) % n = m' := ⟨_, rfl⟩
      have hm : m' < n := by rw [← hm']; exact Nat.mod_lt _ (by omega)
      have hmI : ((k : Int) + 1) % (n : Int) = (m' : Int) := by rw [← hm']; exact_mod_cast rfl
      obtain ⟨x, hx⟩ : ∃ x, xs.getD k C8.zero = x := ⟨_, rfl⟩
      obtain ⟨y, hy⟩ : ∃ y, xs.getD m' C8.zero = y := ⟨_, rfl⟩
      have hside : sideOf xs k = (x, y) := by rw [sideOf, HN.out, hm', hx, hy]
      have HSK := Lib.hid (HS.out k hlt)
      have HSI := Lib.hid hside
      rw [hside] at HSK
      have HX := Lib.hid (show PtAt (w.alloc (.cells (row c) 25)) b (k * 8) x by rw [← hx]; exact ptAt_alloc (HC.out k hlt) hb _)
      have HY := Lib.hid (show PtAt (w.alloc (.cells (row c) 25)) b (m' * 8) y by rw [← hy]; exact ptAt_alloc (HC.out m' hm) hb _)
      have hbW : b < (w.alloc (.cells (row c) 25)).heap.size := by simp; omega
      have ht : ((k : Int) + 1).tmod (n : Int) = (m' : Int) := by
        rw [Int.tmod_eq_emod_of_nonneg (by omega)]; exact hmI
      have hn00 : ¬ (n : Int) = 0 := by omega
      have hwk : IntKind.i64.wrap ((k : Int) + 1) = (k : Int) + 1 := by rw [IntKind.wrap_i64]; omega
      clear hm' hx hy hside
      rcases Bool.eq_false_or_eq_true (onB c (x, y)) with hv | hv
      · have HV := Lib.hid hv
        go_wp2_with fail
        refine (wpIn_wide (n := 0)).1 ?_
        refine region_fixedIn (lets_wide 0) (fun w' => ∃ os' d', w' = more (w.alloc (.cells (row c) 25)) os' d') (by kernel_rfl) 14 [.slice (some ⟨b, 0, none⟩) n cap, .int .i64 k, .pointer (some ⟨b, k * 8, none⟩), cv x, .slice (some ⟨b, 0, none⟩) n cap, .int .i64 k, .int .i64 ((k : Int) + 1), .slice (some ⟨b, 0, none⟩) n cap, .int .i64 n, .int .i64 (m' : Int), .pointer (some ⟨b, m' * 8, none⟩), cv y, cv c, .bool true] (by simp) (by kernel_rfl) (by kernel_rfl) ⟨_, _, rfl⟩ ?_ ?_
        · simp only [List.take_succ_cons, List.take_zero, puts, Act.put, List.setIfInBounds_toArray, List.set_cons_zero, List.set_cons_succ]
          refine ⟨?_, ?_, ?_, ?_, ?_, ?_, ?_, ?_, ?_, ?_, ?_, ?_, ?_, ?_, trivial⟩
          all_goals
            refine Or.inl ⟨by kernel_rfl, ?_⟩
            rintro w' ⟨os', d', rfl⟩ KK hKK
          iterate 3
            · go_simp
              try go_wp2_with fail
              with_reducible exact hKK.out _ ⟨_, _, rfl⟩
          · refine wp_load_mid 25 (.tmp 22) rfl b (k * 8) rfl (row x).toList _ (HX.out.more hbW os' d') Try.underlying25 rfl infoC8 ?_
            simp only [Act.put, Array.toArray_toList, List.setIfInBounds_toArray, List.set_cons_zero, List.set_cons_succ]
            with_reducible exact hKK.out _ ⟨_, _, rfl⟩
          iterate 7
            · go_simp
              try go_wp2_with fail
              with_reducible exact hKK.out _ ⟨_, _, rfl⟩
          · refine wp_load_mid 25 (.tmp 30) rfl b (m' * 8) rfl (row y).toList _ (HY.out.more hbW os' d') Try.underlying25 rfl infoC8 ?_
            simp only [Act.put, Array.toArray_toList, List.setIfInBounds_toArray, List.set_cons_zero, List.set_cons_succ]
            with_reducible exact hKK.out _ ⟨_, _, rfl⟩
          · go_simp
            try go_wp2_with fail
            with_reducible exact hKK.out _ ⟨_, _, rfl⟩
          · go_simp
            go_at_call 83
            refine (l8On_any _ _ _ HSK.out.1 HSK.out.2 HCL.out _).mono ?_
            rw [HV.out]
            rintro e w' ⟨rfl, hb⟩; obtain ⟨os, d, rfl⟩ := more_of_below hb; clear hb
            go_simp
            with_reducible exact hKK.out _ ⟨_, _, rfl⟩
        · rintro w' ⟨os', d', rfl⟩
          simp only [List.take_succ_cons, List.take_zero, puts, Act.put, List.setIfInBounds_toArray, List.set_cons_zero, List.set_cons_succ, List.drop_succ_cons, List.drop_zero]
          gi_wp2
          go_wp2_with fail
          go_ret
          have hon : onA xs c = true := by
            unfold onA
            rw [List.any_eq_true]
            exact ⟨(x, y), by rw [← HSI.out]; exact List.mem_map.2 ⟨k, List.mem_range.2 (by rw [HN.out]; exact hlt), rfl⟩, HV.out⟩
          exact ⟨by rw [hon]; rfl, by repeat' (first | (with_reducible exact Below.refl _ _) | (with_reducible assumption) | (with_reducible refine Below.alloc ?_ ?_ _) | (with_reducible refine below_more ?_ ?_ _ _) | (with_reducible refine below_rd ?_ ?_ _ _) | (with_reducible refine Below.drew ?_) | (with_reducible refine Below.setCell ?_ ?_ _) | go_size)⟩
      · have HV := Lib.hid hv
        go_wp2_with fail
        refine (wpIn_wide (n := 0)).1 ?_
        refine region_fixedIn (lets_wide 0) (fun w' => ∃ os' d', w' = more (w.alloc (.cells (row c) 25)) os' d') (by kernel_rfl) 14 [.slice (some ⟨b, 0, none⟩) n cap, .int .i64 k, .pointer (some ⟨b, k * 8, none⟩), cv x, .slice (some ⟨b, 0, none⟩) n cap, .int .i64 k, .int .i64 ((k : Int) + 1), .slice (some ⟨b, 0, none⟩) n cap, .int .i64 n, .int .i64 (m' : Int), .pointer (some ⟨b, m' * 8, none⟩), cv y, cv c, .bool false] (by simp) (by kernel_rfl) (by kernel_rfl) ⟨_, _, rfl⟩ ?_ ?_
        · simp only [List.take_succ_cons, List.take_zero, puts, Act.put, List.setIfInBounds_toArray, List.set_cons_zero, List.set_cons_succ]
          refine ⟨?_, ?_, ?_, ?_, ?_, ?_, ?_, ?_, ?_, ?_, ?_, ?_, ?_, ?_, trivial⟩
          all_goals
            refine Or.inl ⟨by kernel_rfl, ?_⟩
            rintro w' ⟨os', d', rfl⟩ KK hKK
          iterate 3
            · go_simp
              try go_wp2_with fail
              with_reducible exact hKK.out _ ⟨_, _, rfl⟩
          · refine wp_load_mid 25 (.tmp 22) rfl b (k * 8) rfl (row x).toList _ (HX.out.more hbW os' d') Try.underlying25 rfl infoC8 ?_
            simp only [Act.put, Array.toArray_toList, List.setIfInBounds_toArray, List.set_cons_zero, List.set_cons_succ]
            with_reducible exact hKK.out _ ⟨_, _, rfl⟩
          iterate 7
            · go_simp
              try go_wp2_with fail
              with_reducible exact hKK.out _ ⟨_, _, rfl⟩
          · refine wp_load_mid 25 (.tmp 30) rfl b (m' * 8) rfl (row y).toList _ (HY.out.more hbW os' d') Try.underlying25 rfl infoC8 ?_
            simp only [Act.put, Array.toArray_toList, List.setIfInBounds_toArray, List.set_cons_zero, List.set_cons_succ]
            with_reducible exact hKK.out _ ⟨_, _, rfl⟩
          · go_simp
            try go_wp2_with fail
            with_reducible exact hKK.out _ ⟨_, _, rfl⟩
          · go_simp
            go_at_call 83
            refine (l8On_any _ _ _ HSK.out.1 HSK.out.2 HCL.out _).mono ?_
            rw [HV.out]
            rintro e w' ⟨rfl, hb⟩; obtain ⟨os, d, rfl⟩ := more_of_below hb; clear hb
            go_simp
            with_reducible exact hKK.out _ ⟨_, _, rfl⟩
        · rintro w' ⟨os', d', rfl⟩
          simp only [List.take_succ_cons, List.take_zero, puts, Act.put, List.setIfInBounds_toArray, List.set_cons_zero, List.set_cons_succ, List.drop_succ_cons, List.drop_zero]
          gi_wp2
          go_wp2_with fail
          go_roundw
          case rel => exact ⟨k + 1, by omega, by go_num, fun j hj => by rcases Nat.lt_succ_iff_lt_or_eq.1 hj with h | rfl; exact hall.out j h; rw [HSI.out]; exact HV.out, _, _, rfl⟩
          case measure => simp [intOf]; omega
    · obtain rfl : k = n := by omega
      have HON := Lib.hid (show onA xs c = false by
        unfold onA
        rw [List.any_eq_false]
        intro y hy
        obtain ⟨j, hj, rfl⟩ := List.mem_map.1 hy
        rw [hall.out j (by have := List.mem_range.1 hj; rw [HN.out] at this; exact this)]; simp)
      go_wp2
      go_ret
      exact ⟨by rw [HON.out]; rfl, by repeat' (first | (with_reducible exact Below.refl _ _) | (with_reducible assumption) | (with_reducible refine Below.alloc ?_ ?_ _) | (with_reducible refine below_more ?_ ?_ _ _) | (with_reducible refine below_rd ?_ ?_ _ _) | (with_reducible refine Below.drew ?_) | (with_reducible refine Below.setCell ?_ ?_ _) | go_size)⟩
/-- PolyOn. -/
def poOn (xs : List C8) (c : C8) : Bool := plOk xs && okM c 100 && onA xs c
theorem specPolyOn_no (a : Option Addr) (cap : Nat) (xs : List C8) (c : C8) (w : World) (h : HasP w a xs) (hn : xs.length ≤ 1048576) (hno : plOk xs = false ∨ (plOk xs = true ∧ okM c 100 = false)) :
    Calls Try.prog 37 #[.slice a xs.length cap, cv c] w fun e w' => e = .returned (.bool false) ∧ Below w.heap.size w w' := by
  have HW := Lib.hid h
  rcases hno with h1 | ⟨h1, h2⟩
  · go_enter Try.func37, Try.ntmps37
    go_wp2_with (go_at_call 78; refine (specPolyValid_any _ _ _ _ (HW.out.alloc _) hn).mono ?_; rintro e w' ⟨rfl, hb⟩; obtain ⟨os, d, rfl⟩ := more_of_below hb; clear hb)
    go_ret
    exact ⟨rfl, by repeat' (first | (with_reducible exact Below.refl _ _) | (with_reducible assumption) | (with_reducible refine Below.alloc ?_ ?_ _) | (with_reducible refine below_more ?_ ?_ _ _) | (with_reducible refine below_rd ?_ ?_ _ _) | (with_reducible refine Below.drew ?_) | (with_reducible refine Below.setCell ?_ ?_ _) | go_size)⟩
  · go_enter Try.func37, Try.ntmps37
    go_wp2_with (first
      | (go_at_call 78; refine (specPolyValid_any _ _ _ _ (HW.out.alloc _) hn).mono ?_; rintro e w' ⟨rfl, hb⟩; obtain ⟨os, d, rfl⟩ := more_of_below hb; clear hb)
      | (go_at_call 63; refine (l8Small_any _ 100 (by omega) (by omega) _).mono ?_; rintro e w' ⟨rfl, hb⟩; obtain ⟨os, d, rfl⟩ := more_of_below hb; clear hb))
    go_ret
    exact ⟨rfl, by repeat' (first | (with_reducible exact Below.refl _ _) | (with_reducible assumption) | (with_reducible refine Below.alloc ?_ ?_ _) | (with_reducible refine below_more ?_ ?_ _ _) | (with_reducible refine below_rd ?_ ?_ _ _) | (with_reducible refine Below.drew ?_) | (with_reducible refine Below.setCell ?_ ?_ _) | go_size)⟩
theorem polyOn_no (a : Option Addr) (cap : Nat) (xs : List C8) (c : C8) (w : World) (h : HasP w a xs) (hn : xs.length ≤ 1048576) (hno : plOk xs = false ∨ (plOk xs = true ∧ okM c 100 = false)) :
    Calls Try.prog 38 #[.slice a xs.length cap, cv c] w fun e w' => e = .returned (.bool false) ∧ Below w.heap.size w w' := by
  have HW := Lib.hid h
  rcases hno with h1 | ⟨h1, h2⟩
  · go_enter Try.func38, Try.ntmps38
    go_wp2_with (go_at_call 80; refine (polyValid_any _ _ _ _ (HW.out.alloc _) hn).mono ?_; rintro e w' ⟨rfl, hb⟩; obtain ⟨os, d, rfl⟩ := more_of_below hb; clear hb)
    go_ret
    exact ⟨rfl, by repeat' (first | (with_reducible exact Below.refl _ _) | (with_reducible assumption) | (with_reducible refine Below.alloc ?_ ?_ _) | (with_reducible refine below_more ?_ ?_ _ _) | (with_reducible refine below_rd ?_ ?_ _ _) | (with_reducible refine Below.drew ?_) | (with_reducible refine Below.setCell ?_ ?_ _) | go_size)⟩
  · go_enter Try.func38, Try.ntmps38
    go_wp2_with (first
      | (go_at_call 80; refine (polyValid_any _ _ _ _ (HW.out.alloc _) hn).mono ?_; rintro e w' ⟨rfl, hb⟩; obtain ⟨os, d, rfl⟩ := more_of_below hb; clear hb)
      | (go_at_call 66; refine (smallM_any _ 100 (by omega) (by omega) _).mono ?_; rintro e w' ⟨rfl, hb⟩; obtain ⟨os, d, rfl⟩ := more_of_below hb; clear hb))
    go_ret
    exact ⟨rfl, by repeat' (first | (with_reducible exact Below.refl _ _) | (with_reducible assumption) | (with_reducible refine Below.alloc ?_ ?_ _) | (with_reducible refine below_more ?_ ?_ _ _) | (with_reducible refine below_rd ?_ ?_ _ _) | (with_reducible refine Below.drew ?_) | (with_reducible refine Below.setCell ?_ ?_ _) | go_size)⟩

theorem polyOn_yes (b cap : Nat) (xs : List C8) (c : C8) (hok : plOk xs = true) (hokc : okM c 100 = true) (w : World) (hb : b < w.heap.size) (hc : ∀ i, i < xs.length → PtAt w b (i * 8) (xs.getD i C8.zero)) (hlen : xs.length ≤ 48) :
    Calls Try.prog 38 #[.slice (some ⟨b, 0, none⟩) xs.length cap, cv c] w fun e w' => e = .returned (.bool (onA xs c)) ∧ Below w.heap.size w w' := by
  have HW : Hid (HasP w (some ⟨b, 0, none⟩) xs) := Or.inr ⟨b, rfl, hb, hc⟩
  have HO : Hid (∀ w', Below w.heap.size w w' → Calls Try.prog 84 #[.slice (some ⟨b, 0, none⟩) xs.length cap, cv c] w' fun e w'' => e = .returned (.bool (onA xs c)) ∧ Below w'.heap.size w' w'') := fun w' h' =>
    callsIn_wide.1 (on_in b cap xs c (okM_lim hokc) (plOk_small hok) hlen w' (by have := h'.size; omega) (fun i hi => ptAt_below (hc i hi) h' hb))
  go_enter Try.func38, Try.ntmps38
  go_wp2_with (first
    | (go_at_call 80; refine (polyValid_any _ _ _ _ (HW.out.alloc _) (by omega)).mono ?_; rintro e w' ⟨rfl, hb⟩; obtain ⟨os, d, rfl⟩ := more_of_below hb; clear hb)
    | (go_at_call 66; refine (smallM_any _ 100 (by omega) (by omega) _).mono ?_; rintro e w' ⟨rfl, hb⟩; obtain ⟨os, d, rfl⟩ := more_of_below hb; clear hb)
    | (go_at_call 84; refine (HO.out _ (by repeat' (first | (with_reducible exact Below.refl _ _) | (with_reducible assumption) | (with_reducible refine Below.alloc ?_ ?_ _) | (with_reducible refine below_more ?_ ?_ _ _) | (with_reducible refine below_rd ?_ ?_ _ _) | (with_reducible refine Below.drew ?_) | (with_reducible refine Below.setCell ?_ ?_ _) | go_size))).mono ?_; rintro e w' ⟨rfl, hb⟩; obtain ⟨os, d, rfl⟩ := more_of_below hb; clear hb))
  go_ret
  exact ⟨rfl, by repeat' (first | (with_reducible exact Below.refl _ _) | (with_reducible assumption) | (with_reducible refine Below.alloc ?_ ?_ _) | (with_reducible refine below_more ?_ ?_ _ _) | (with_reducible refine below_rd ?_ ?_ _ _) | (with_reducible refine Below.drew ?_) | (with_reducible refine Below.setCell ?_ ?_ _) | go_size)⟩
theorem specPolyOn_any (a : Option Addr) (cap : Nat) (xs : List C8) (c : C8) (w : World) (h : HasP w a xs) (hn : xs.length ≤ 1048576) :
    Calls Try.prog 37 #[.slice a xs.length cap, cv c] w fun e w' => e = .returned (.bool (poOn xs c)) ∧ Below w.heap.size w w' := by
  rcases Bool.eq_false_or_eq_true (plOk xs) with hv | hv
  · rcases Bool.eq_false_or_eq_true (okM c 100) with hv2 | hv2
    · obtain ⟨h1, h2, -⟩ := plOk_get hv
      rcases h with rfl | ⟨b, rfl, hb, hp⟩
      · simp at h1
      · rw [show poOn xs c = onA xs c by rw [poOn, hv, hv2]; rfl]
        exact specPolyOn_yes b cap xs.length xs c rfl hv hv2 w hb hp (plOk_small hv) h2
    · rw [show poOn xs c = false by rw [poOn, hv, hv2]; rfl]
      exact specPolyOn_no a cap xs c w h hn (Or.inr ⟨hv, hv2⟩)
  · rw [show poOn xs c = false by rw [poOn, hv]; rfl]
    exact specPolyOn_no a cap xs c w h hn (Or.inl hv)
theorem polyOn_any (a : Option Addr) (cap : Nat) (xs : List C8) (c : C8) (w : World) (h : HasP w a xs) (hn : xs.length ≤ 1048576) :
    Calls Try.prog 38 #[.slice a xs.length cap, cv c] w fun e w' => e = .returned (.bool (poOn xs c)) ∧ Below w.heap.size w w' := by
  rcases Bool.eq_false_or_eq_true (plOk xs) with hv | hv
  · rcases Bool.eq_false_or_eq_true (okM c 100) with hv2 | hv2
    · obtain ⟨h1, h2, -⟩ := plOk_get hv
      rcases h with rfl | ⟨b, rfl, hb, hp⟩
      · simp at h1
      · rw [show poOn xs c = onA xs c by rw [poOn, hv, hv2]; rfl]
        exact polyOn_yes b cap xs c hv hv2 w hb hp h2
    · rw [show poOn xs c = false by rw [poOn, hv, hv2]; rfl]
      exact polyOn_no a cap xs c w h hn (Or.inr ⟨hv, hv2⟩)
  · rw [show poOn xs c = false by rw [poOn, hv]; rfl]
    exact polyOn_no a cap xs c w h hn (Or.inl hv)

end Go.Proofs.Ytklmlodapinflaa
