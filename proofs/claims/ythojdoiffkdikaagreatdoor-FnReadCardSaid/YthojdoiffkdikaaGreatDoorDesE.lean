/- Tidy designs: the reference's way: a wheel is added where it belongs. -/
import Derived.Test.YthojdoiffkdikaaGreatDoorDesD
import Derived.BigQuiet
import Derived.Deep.RegionHeld3
namespace Go.Proofs.YthojdoiffkdikaaGreatDoor
open Go.RowKit

/-- Where a wheel belongs. -/
theorem addS_here : ∀ {xs : List W9} {x : W9} {k : Nat}, k < xs.length → (∀ j, j < k → (xs.getD j W9.zero).s < x.s) → (xs.getD k W9.zero).s = x.s → Srt xs →
    addS xs x = xs.set k ⟨(xs.getD k W9.zero).s, C8.add (xs.getD k W9.zero).r x.r⟩ ∧ sumAt xs x = C8.add (xs.getD k W9.zero).r x.r
  | [], _, _, h, _, _, _ => by simp at h
  | y :: l, x, 0, _, _, h, _ => by
    have h : y.s = x.s := h
    rw [addS, if_neg (by omega), if_pos h, sumAt, if_pos h]; exact ⟨rfl, rfl⟩
  | y :: l, x, k + 1, hk, hj, h, hs => by
    have h0 : y.s < x.s := hj 0 (by omega)
    obtain ⟨h1, h2⟩ := addS_here (xs := l) (x := x) (k := k) (by simpa using hk) (fun j hjl => hj (j + 1) (by omega)) h (List.pairwise_cons.1 hs).2
    rw [addS, if_pos h0, sumAt, if_neg (by omega), h1, h2]; exact ⟨rfl, rfl⟩
theorem addS_new : ∀ {xs : List W9} {x : W9} {k : Nat}, k ≤ xs.length → (∀ j, j < k → (xs.getD j W9.zero).s < x.s) → (k < xs.length → x.s < (xs.getD k W9.zero).s) → Srt xs →
    addS xs x = xs.take k ++ [x] ++ xs.drop k ∧ sumAt xs x = x.r
  | [], x, k, hk, _, _, _ => by
    obtain rfl : k = 0 := by simpa using hk
    exact ⟨rfl, rfl⟩
  | y :: l, x, 0, _, _, h, hs => by
    have h : x.s < y.s := h (by simp)
    have hno : ∀ z ∈ y :: l, z.s ≠ x.s := by
      intro z hz
      rcases List.mem_cons.1 hz with rfl | hz
      · omega
      · have := (List.pairwise_cons.1 hs).1 z hz; omega
    rw [addS, if_neg (by omega), if_neg (by omega), sumAt_none hno]; exact ⟨rfl, rfl⟩
  | y :: l, x, k + 1, hk, hj, h, hs => by
    have h0 : y.s < x.s := hj 0 (by omega)
    obtain ⟨h1, h2⟩ := addS_new (xs := l) (x := x) (k := k) (by simpa using hk) (fun j hjl => hj (j + 1) (by omega)) (fun hkl => h (by simpa using hkl)) (List.pairwise_cons.1 hs).2
    rw [addS, if_pos h0, sumAt, if_neg (by omega), h1, h2]; exact ⟨rfl, rfl⟩
theorem blk_alloc {w : World} {b : Nat} {o : Obj} (h : w.heap[b]? = some o) (o' : Obj) : (w.alloc o').heap[b]? = some o := by
  have hb := (Array.getElem?_eq_some_iff.1 h).1
  rw [Below.heap_alloc _ _ _ hb]; exact h
theorem blk_grown {w w' : World} {b g : Nat} {o : Obj} (hg : w.grownBy w' (some g)) (h : w.heap[b]? = some o) (hne : b ≠ g) : w'.heap[b]? = some o :=
  (hg.block b (Array.getElem?_eq_some_iff.1 h).1 (by intro e; exact hne (Option.some.inj e))).trans h
theorem box_cells {w : World} {g : Nat} {x : W9} {T : TypeId} (h : w.heap[g]? = some (.cells (rowW x) T (0, 0))) : w.cell? ⟨g, 0, none⟩ = some (.int .i64 x.s) ∧ w.cell? ⟨g, 1, none⟩ = some (.int .i64 x.r.c0) ∧ w.cell? ⟨g, 2, none⟩ = some (.int .i64 x.r.c1) ∧ w.cell? ⟨g, 3, none⟩ = some (.int .i64 x.r.c2) ∧ w.cell? ⟨g, 4, none⟩ = some (.int .i64 x.r.c3) ∧ w.cell? ⟨g, 5, none⟩ = some (.int .i64 x.r.c4) ∧ w.cell? ⟨g, 6, none⟩ = some (.int .i64 x.r.c5) ∧ w.cell? ⟨g, 7, none⟩ = some (.int .i64 x.r.c6) ∧ w.cell? ⟨g, 8, none⟩ = some (.int .i64 x.r.c7) :=
  ⟨Lib.cell_of_heap h 0, Lib.cell_of_heap h 1, Lib.cell_of_heap h 2, Lib.cell_of_heap h 3, Lib.cell_of_heap h 4, Lib.cell_of_heap h 5, Lib.cell_of_heap h 6, Lib.cell_of_heap h 7, Lib.cell_of_heap h 8⟩
theorem below_same {B : Nat} {w w' w'' : World} (h : Below B w' w'') (ho : w'.os = w.os) (ht : w'.tape = w.tape) (hu : w'.output = w.output) (hh : w'.heap = w.heap) : Below B w w'' :=
  Below.trans (show Below B w w' from ⟨ho, ht, hu, by rw [hh]; exact Nat.le_refl _, fun _ _ => by rw [hh]⟩) h
/-- What l5Add gives. -/
def AddPost (w : World) (acc : List W9) (x : W9) (e : Ending) (w' : World) : Prop := ∃ (g cap : Nat), e = .returned (.tuple #[.slice (some ⟨g, 0, none⟩) (addS acc x).length cap, .bool (okC (sumAt acc x))]) ∧ OwnsW w' w.heap.size (.slice (some ⟨g, 0, none⟩) (addS acc x).length cap) (addS acc x) ∧ Below w.heap.size w w'
set_option maxRecDepth 100000 in
set_option maxHeartbeats 4000000 in
theorem l5Add_any (g cap : Nat) (acc : List W9) (x : W9) (w : World) (hg : g < w.heap.size) (hl : Lie9 w g 0 acc) (hn : acc.length ≤ 1000) (hcap : acc.length ≤ cap) (hs : Srt acc) (hok : ∀ y ∈ acc, okC y.r = true) (hx : okC x.r = true) :
    Calls Tryz.prog 99 #[.slice (some ⟨g, 0, none⟩) acc.length cap, wv x] w (AddPost w acc x) := by
  have HL := Lib.hid hl
  have HS := Lib.hid hs
  have HOK := Lib.hid hok
  have HX := Lib.hid hx
  clear hl hs hok hx
  go_enter Tryz.func99, Tryz.ntmps99
  go_wp2_with fail
  go_loopw [6] (fun s6 wr => ∃ k : Nat, k ≤ acc.length ∧ s6 = .int .i64 k ∧ Hid (∀ j, j < k → (acc.getD j W9.zero).s < x.s) ∧ Hid (Below (w.heap.size + 1) (w.alloc (.cells (rowW x) 61)) wr)) (fun s6 _ => acc.length - (intOf s6).toNat)
  case atStart => exact ⟨0, by omega, rfl, fun j hj => by omega, Below.refl _ _⟩
  case round =>
    obtain ⟨k, hk, rfl, hlow, hbel⟩ := hrel
    have hszw := hbel.out.size
    rw [World.size_alloc] at hszw
    have hbx : wr.heap[w.heap.size]? = some (.cells (rowW x) 61 (0, 0)) := (hbel.out.block _ (by omega)).trans (heap_alloc_new _ _)
    have q0 : wr.cell? ⟨w.heap.size, 0, none⟩ = some (.int .i64 x.s) := (Lib.cell_of_heap hbx 0).trans rfl
    have HBX := Lib.hid hbx
    clear hbx
    by_cases hlt : k < acc.length
    · obtain ⟨y, hy⟩ : ∃ y, acc.getD k W9.zero = y := ⟨_, rfl⟩
      have hly : Lie9 wr g 0 acc := (HL.out.below ((Below.refl _ w).alloc (Nat.le_refl _) _) hg).below (hbel.out.mono (B' := w.heap.size) (by omega)) hg
      have hwy := hly k hlt
      rw [Nat.zero_add, hy] at hwy
      obtain ⟨c0, -⟩ := hwy.cells
      have HLY := Lib.hid hly
      have HY := Lib.hid hy
      have hki : (k : Int) < (acc.length : Int) := by omega
      have hk0 : (0 : Int) ≤ (k : Int) := by omega
      clear hwy hly hy
      by_cases hlx : y.s < x.s
      · go_wp2_with fail
        go_quiet (fail)
        have hb2 := hbel.out.trans (show Below (w.heap.size + 1) wr (wr.drewN nq) from ⟨rfl, rfl, rfl, Nat.le_refl _, fun _ _ => rfl⟩)
        have HB2 := Lib.hid hb2
        clear hb2 c0 q0 HLY HBX
        go_wp2_with fail
        go_roundw
        case rel => exact ⟨k + 1, by omega, by go_num, fun j hj => (Nat.lt_succ_iff_lt_or_eq.1 hj).elim (fun h => hlow.out j h) (fun h => by rw [h, HY.out]; exact hlx), HB2.out⟩
        case measure => simp [intOf]; omega
      · have hnlx : decide (y.s < x.s) = false := decide_eq_false hlx
        go_wp2_with fail
        go_quiet (fail)
        have hb2 := hbel.out.trans (show Below (w.heap.size + 1) wr (wr.drewN nq) from ⟨rfl, rfl, rfl, Nat.le_refl _, fun _ _ => rfl⟩)
        have c0' : (wr.drewN nq).cell? ⟨g, k * 9, none⟩ = some (.int .i64 y.s) := by rw [World.cell?_drewN]; exact c0
        have q0' : (wr.drewN nq).cell? ⟨w.heap.size, 0, none⟩ = some (.int .i64 x.s) := by rw [World.cell?_drewN]; exact q0
        have hl2 : Lie9 (wr.drewN nq) g 0 acc := HLY.out
        have hx2 : (wr.drewN nq).heap[w.heap.size]? = some (.cells (rowW x) 61 (0, 0)) := HBX.out
        clear hbel c0 q0 HLY HBX hszw
        generalize wr.drewN nq = wz at hb2 c0' q0' hl2 hx2 ⊢
        have hszz := hb2.size
        rw [World.size_alloc] at hszz
        have HB2 := Lib.hid hb2
        have HL2 := Lib.hid hl2
        have HX2 := Lib.hid hx2
        clear hb2 hl2 hx2
        by_cases heq : y.s = x.s
        · have hE : (y.s == x.s) = true := by rw [heq]; simp
          have HADD := Lib.hid (addS_here hlt hlow.out (by rw [HY.out]; exact heq) HS.out)
          have hap : 0 < acc.length := by omega
          clear hlow hnlx hlx
          go_wp2_with fail
          go_quiet (fail)
          have hb3 := HB2.out.trans (show Below (w.heap.size + 1) wz (wz.drewN nq) from ⟨rfl, rfl, rfl, Nat.le_refl _, fun _ _ => rfl⟩)
          have hl3 : Lie9 (wz.drewN nq) g 0 acc := HL2.out
          have hx3 : (wz.drewN nq).heap[w.heap.size]? = some (.cells (rowW x) 61 (0, 0)) := HX2.out
          clear c0' q0' HB2 HL2 HX2 hszz
          generalize wz.drewN nq = W2 at hb3 hl3 hx3 ⊢
          have hsz2 := hb3.size
          rw [World.size_alloc] at hsz2
          have HB3 := Lib.hid (((Below.refl w.heap.size w).alloc (Nat.le_refl _) _).trans (hb3.mono (by omega)))
          have HL3 := Lib.hid hl3
          have HX3 := Lib.hid hx3
          clear hb3 hl3 hx3
          go_wp2_with (at_builtin; go_must (refine wpList_append_whL rfl _ _ rfl w.heap.size [] acc (.slice (some ⟨W2.heap.size, 0, none⟩) 0 0) rfl (OwnsW.empty W2 (by omega)) g 0 acc.length cap acc.length (Nat.zero_add _) rfl rfl (HL3.out.below ((Below.refl _ W2).alloc (Nat.le_refl _) _) (by omega)) hap (by omega) (by rw [World.size_alloc]; omega) ?_; intro g3 c3 w3 hown3 hgrow hat hb3; rw [List.nil_append] at hown3; have hx4 := (hgrow.block w.heap.size (by rw [World.size_alloc]; omega) (by intro e; have e2 : w.heap.size = W2.heap.size := Option.some.inj e; omega)).trans ((((Below.refl _ W2).alloc (Nat.le_refl _) _).block _ (by omega)).trans HX3.out); have HX4 := Lib.hid hx4; have HO4 := Lib.hid hown3; have HB4 := Lib.hid ((HB3.out.alloc (by omega) _).trans hb3); have HL4 := Lib.hid ((HL3.out.below ((Below.refl _ W2).alloc (Nat.le_refl _) _) (by omega)).below hb3 hg); clear hx4 hown3 hgrow hat hb3))
          have hsz4 := HB4.out.size
          have hwk := HL4.out k hlt
          rw [Nat.zero_add, HY.out] at hwk
          obtain ⟨-, a0, a1, a2, a3, a4, a5, a6, a7⟩ := hwk.cells
          obtain ⟨b0, b1, b2, b3, b4, b5', b6, b7⟩ : w3.cell? ⟨w.heap.size, 1, none⟩ = some (.int .i64 x.r.c0) ∧ w3.cell? ⟨w.heap.size, 2, none⟩ = some (.int .i64 x.r.c1) ∧ w3.cell? ⟨w.heap.size, 3, none⟩ = some (.int .i64 x.r.c2) ∧ w3.cell? ⟨w.heap.size, 4, none⟩ = some (.int .i64 x.r.c3) ∧ w3.cell? ⟨w.heap.size, 5, none⟩ = some (.int .i64 x.r.c4) ∧ w3.cell? ⟨w.heap.size, 6, none⟩ = some (.int .i64 x.r.c5) ∧ w3.cell? ⟨w.heap.size, 7, none⟩ = some (.int .i64 x.r.c6) ∧ w3.cell? ⟨w.heap.size, 8, none⟩ = some (.int .i64 x.r.c7) :=
            ⟨Lib.cell_of_heap HX4.out 1, Lib.cell_of_heap HX4.out 2, Lib.cell_of_heap HX4.out 3, Lib.cell_of_heap HX4.out 4, Lib.cell_of_heap HX4.out 5, Lib.cell_of_heap HX4.out 6, Lib.cell_of_heap HX4.out 7, Lib.cell_of_heap HX4.out 8⟩
          have hwlt : w.heap.size < w3.heap.size := (Array.getElem?_eq_some_iff.1 HX4.out).1
          have hglt : g < w3.heap.size := by omega
          have hoky := HOK.out y (by rw [← HY.out]; exact getD_memW hlt)
          have HSUM := Lib.hid (show y.r.sumW 1 x.r = C8.add y.r x.r by rw [C8.sumW_eq, C8.sum_one]; exact add_ok hoky HX.out)
          clear hwk hoky hE heq
          refine region_fixedS (fun w' => ∃ os' d', w' = Go.Proofs.YthojdoiffkdikaaGreatDoor.more w3 os' d') (by kernel_rfl) 12 [.slice (some ⟨g3, 0, none⟩) acc.length c3, .int .i64 k, .slice (some ⟨g, 0, none⟩) acc.length cap, .int .i64 k, .pointer (some ⟨g, k * 9, none⟩), .pointer (some ⟨g, k * 9 + 1, none⟩), cv y.r, .pointer (some ⟨w.heap.size, 1, none⟩), cv x.r, cv (C8.add y.r x.r), .pointer (some ⟨g3, k * 9, none⟩), .pointer (some ⟨g3, k * 9 + 1, none⟩)] ⟨none, .store 59 (.tmp 52) (.tmp 50), _, _, _, none⟩ rfl rfl 59 (.tmp 52) (.tmp 50) rfl (by simp) (by kernel_rfl) (by kernel_rfl) ⟨#[], _, drew_selfW _⟩ g3 (k * 9 + 1) (row (C8.add y.r x.r)) ?_ ?_ infoC8 (rowL_one _) ?_ ?_ ?_
          · simp only [List.take_succ_cons, List.take_zero, puts, Act.put, List.setIfInBounds_toArray, List.set_cons_zero, List.set_cons_succ]
            rfl
          · simp only [List.take_succ_cons, List.take_zero, puts, Act.put, List.setIfInBounds_toArray, List.set_cons_zero, List.set_cons_succ]
            rfl
          · simp only [List.take_succ_cons, List.take_zero, puts, Act.put, List.setIfInBounds_toArray, List.set_cons_zero, List.set_cons_succ]
            refine ⟨?_, ?_, ?_, ?_, ?_, ?_, ?_, ?_, ?_, ?_, ?_, ?_, trivial⟩
            all_goals
              refine Or.inl ⟨by kernel_rfl, ?_⟩
              rintro w' ⟨os', d', rfl⟩ K2 hK
            iterate 9
              · go_simp
                with_reducible exact hK.out _ ⟨_, _, rfl⟩
            · go_simp
              go_at_call 142
              refine (l2Sum_any _ _ _ _).mono ?_
              rw [HSUM.out]
              rintro e w' ⟨rfl, hb⟩; obtain ⟨os, d, rfl⟩ := more_of_below hb; clear hb
              go_simp
              with_reducible exact hK.out _ ⟨_, _, rfl⟩
            iterate 2
              · go_simp
                with_reducible exact hK.out _ ⟨_, _, rfl⟩
          · rintro w' ⟨os', d', rfl⟩
            exact (HO4.out.more os' d').there rfl _ _ (by show k * 9 + 1 + 8 ≤ _; omega)
          · rintro w' ⟨os', d', rfl⟩
            simp only [List.take_succ_cons, List.take_zero, puts, Act.put, List.setIfInBounds_toArray, List.set_cons_zero, List.set_cons_succ]
            obtain ⟨o5, g5⟩ := (HO4.out.more os' d').rad k hlt (C8.add y.r x.r)
            rw [HY.out] at o5
            have ha := HADD.out.1
            rw [HY.out] at ha
            rw [← ha] at o5
            have hs5 := HADD.out.2
            rw [HY.out] at hs5
            have hl5 : (addS acc x).length = acc.length := by rw [ha, List.length_set]
            have b5 := below_ownedW (v := .slice (some ⟨g3, 0, none⟩) acc.length c3) (below_more HB4.out hsz4 os' d') g5 HO4.out.own_le (by rw [size_more]; omega)
            have d5 : (addS acc x).getD k W9.zero = ⟨y.s, C8.add y.r x.r⟩ := by rw [ha, List.getD_eq_getElem?_getD, List.getElem?_set, if_pos rfl, if_pos hlt]; rfl
            generalize (Go.Proofs.YthojdoiffkdikaaGreatDoor.more w3 os' d').setCells g3 (k * 9 + 1) (row (C8.add y.r x.r)).toList = W5 at o5 b5 ⊢
            obtain ⟨-, e0, e1, e2, e3, e4, e5, e6, e7⟩ := o5.cellsAt hl5 hlt d5
            obtain ⟨z, hz⟩ : ∃ z, C8.add y.r x.r = z := ⟨_, rfl⟩
            simp only [hz] at e0 e1 e2 e3 e4 e5 e6 e7 hs5
            have hg5 : g3 < W5.heap.size := (World.ownsRow.lt o5 g3 rfl).2
            have HL5 := Lib.hid hl5
            have HO5 := Lib.hid o5
            have HB5 := Lib.hid b5
            have HS5 := Lib.hid hs5
            clear o5 b5 hl5 d5 hs5 ha g5 a0 a1 a2 a3 a4 a5 a6 a7 b0 b1 b2 b3 b4 b5' b6 b7
            go_wp2_with (go_at_call 98; refine (specCValid_any _ _).mono ?_; rintro e w' ⟨rfl, hb⟩; obtain ⟨os, d, rfl⟩ := more_of_below hb; clear hb)
            go_returns
            exact ⟨g3, c3, by rw [HL5.out, HS5.out]; rfl, by rw [HL5.out]; exact HO5.out.more _ _, below_more HB5.out HB5.out.size _ _⟩
        have hE : (y.s == x.s) = false := by simp [heq]
        have hxy : x.s < y.s := by omega
        have HADD := Lib.hid (addS_new hk hlow.out (fun _ => by rw [HY.out]; exact hxy) HS.out)
        clear hlow hnlx hlx
        go_wp2_with fail
        go_quiet (fail)
        have hb3 := HB2.out.trans (show Below (w.heap.size + 1) wz (wz.drewN nq) from ⟨rfl, rfl, rfl, Nat.le_refl _, fun _ _ => rfl⟩)
        have hl3 : Lie9 (wz.drewN nq) g 0 acc := HL2.out
        have hx3 : (wz.drewN nq).heap[w.heap.size]? = some (.cells (rowW x) 61 (0, 0)) := HX2.out
        clear c0' q0' HB2 HL2 HX2 hszz heq hxy hE hki hlt HY
        generalize wz.drewN nq = W2 at hb3 hl3 hx3 ⊢
        have hsz2 := hb3.size
        rw [World.size_alloc] at hsz2
        have hki2 : (k : Int) ≤ (acc.length : Int) := by omega
        have hkc2 : (k : Int) ≤ (cap : Int) := by omega
        have hlc2 : (acc.length : Int) ≤ (cap : Int) := by omega
        have hlt2 : w.heap.size < W2.heap.size := by omega
        have HB3 := Lib.hid hb3
        have HL3 := Lib.hid hl3
        obtain ⟨r0, r1, r2, r3, r4, r5, r6, r7, r8⟩ := box_cells hx3
        clear hb3 hl3 hx3
        have HTK := Lib.hid (show (acc.take k).length = k by rw [List.length_take]; omega)
        have HDR := Lib.hid (show (acc.drop k).length = acc.length - k by rw [List.length_drop])
        have HBX := Lib.hid (fun (W : World) (h : Below (w.heap.size + 1) (w.alloc (.cells (rowW x) 61)) W) => (h.block w.heap.size (by omega)).trans (heap_alloc_new w _))
        obtain ⟨OFF, hOFF⟩ : ∃ OFF, OFF = if cap = k then 0 else k * 9 := ⟨_, rfl⟩
        have hif : (if cap = k then (some ⟨g, 0, none⟩ : Option Addr) else some ⟨g, k * 9, none⟩) = some ⟨g, OFF, none⟩ := by rw [hOFF]; split <;> rfl
        have HLD := Lib.hid (fun (W : World) (h : Below (w.heap.size + 1) (w.alloc (.cells (rowW x) 61)) W) => (show Lie9 W g OFF (acc.drop k) from by
          rw [hOFF]
          split
          · intro i hi; rw [List.length_drop] at hi; omega
          · have h5 := (HL.out.below (((Below.refl w.heap.size w).alloc (Nat.le_refl _) _).trans (h.mono (by omega))) hg).part k acc.length
            rw [List.take_of_length_le (by rw [List.length_drop]; omega), Nat.zero_add] at h5
            exact h5))
        clear hOFF
        go_wp2_with fail
        go_region_held3 (fun w' => w'.cell? ⟨w.heap.size, 0, none⟩ = some (.int .i64 x.s) ∧ w'.cell? ⟨w.heap.size, 1, none⟩ = some (.int .i64 x.r.c0) ∧ w'.cell? ⟨w.heap.size, 2, none⟩ = some (.int .i64 x.r.c1) ∧ w'.cell? ⟨w.heap.size, 3, none⟩ = some (.int .i64 x.r.c2) ∧ w'.cell? ⟨w.heap.size, 4, none⟩ = some (.int .i64 x.r.c3) ∧ w'.cell? ⟨w.heap.size, 5, none⟩ = some (.int .i64 x.r.c4) ∧ w'.cell? ⟨w.heap.size, 6, none⟩ = some (.int .i64 x.r.c5) ∧ w'.cell? ⟨w.heap.size, 7, none⟩ = some (.int .i64 x.r.c6) ∧ w'.cell? ⟨w.heap.size, 8, none⟩ = some (.int .i64 x.r.c7)) (first | (simp [go_sem, *]; done)) (first | (apply step_append_whA (B := (w.heap.size + 1)) (xs := ([] : List W9)) (ys := (acc.take k)) (g1 := W2.heap.size) (n1 := 0) (c1 := 0) (g0 := g) (off := 0) (m := k) (c := cap) (L := k); (focus (exact rfl)); (focus (exact rfl)); (focus (exact rfl)); (focus (exact OwnsW.empty W2 (by omega))); (focus (exact rfl)); (focus (omega)); (focus (exact rfl)); (focus (exact HTK.out)); (focus (have h := (HL3.out.below ((Below.refl (w.heap.size + 1) W2).alloc (by omega) (.cells #[] 61)) (by omega)).part 0 k; rw [List.drop_zero] at h; exact h)); (focus (omega)); (focus (((try simp only [World.size_alloc]); (try rw [World.size_drew]); (try simp only [World.size_alloc]); omega))); intro g4 c4 w4 hown4 hgrow4 hb4; rw [List.nil_append] at hown4; have hpre := ((Below.refl (w.heap.size + 1) W2).alloc (by omega) (.cells #[] 61)); have hbw4 := HB3.out.trans (hpre.trans (below_same hb4 rfl rfl rfl rfl)); have hr4 := box_cells (HBX.out _ hbw4); have HB4 := Lib.hid hbw4; have HO4 := Lib.hid hown4; have hlt4 : w.heap.size < w4.heap.size := (by have := hbw4.size; rw [World.size_alloc] at this; omega); obtain ⟨r0, r1, r2, r3, r4, r5, r6, r7, r8⟩ := hr4; clear hown4 hgrow4 hb4 hbw4; clear hpre) | (apply step_append_whA (B := (w.heap.size + 1)) (xs := ([] : List W9)) (ys := (acc.take k)) (g1 := W2.heap.size) (n1 := 0) (c1 := 0) (g0 := g) (off := 0) (m := k) (c := cap) (L := k); (focus (exact rfl)); (focus (exact rfl)); (focus (exact rfl)); (focus (exact (OwnsW.empty W2 (by omega)).alloc _)); (focus (exact rfl)); (focus (omega)); (focus (exact rfl)); (focus (exact HTK.out)); (focus (have h := (HL3.out.below (((Below.refl (w.heap.size + 1) W2).alloc (by omega) (.cells #[] 61)).alloc (by simp only [World.size_alloc]; omega) (.cells (rowW x) 61)) (by omega)).part 0 k; rw [List.drop_zero] at h; exact h)); (focus (omega)); (focus (((try simp only [World.size_alloc]); (try rw [World.size_drew]); (try simp only [World.size_alloc]); omega))); intro g4 c4 w4 hown4 hgrow4 hb4; rw [List.nil_append] at hown4; have hs4 : w4.heap[W2.heap.size + 1]? = some (.cells (rowW x) 61) := blk_grown hgrow4 (by have h := heap_alloc_new (W2.alloc (.cells #[] 61)) (.cells (rowW x) 61); rw [World.size_alloc] at h; exact h) (by omega); have hpre := (((Below.refl (w.heap.size + 1) W2).alloc (by omega) (.cells #[] 61)).alloc (by simp only [World.size_alloc]; omega) (.cells (rowW x) 61)); have hbw4 := HB3.out.trans (hpre.trans (below_same hb4 rfl rfl rfl rfl)); have hr4 := box_cells (HBX.out _ hbw4); have HB4 := Lib.hid hbw4; have HO4 := Lib.hid hown4; have hlt4 : w.heap.size < w4.heap.size := (by have := hbw4.size; rw [World.size_alloc] at this; omega); obtain ⟨r0, r1, r2, r3, r4, r5, r6, r7, r8⟩ := hr4; clear hown4 hgrow4 hb4 hbw4; clear hpre) | (apply step_append_whA (B := (w.heap.size + 1)) (xs := ([] : List W9)) (ys := (acc.take k)) (g1 := (W2.heap.size + 1)) (n1 := 0) (c1 := 0) (g0 := g) (off := 0) (m := k) (c := cap) (L := k); (focus (exact rfl)); (focus (exact rfl)); (focus (exact rfl)); (focus (have h := OwnsW.empty (B := w.heap.size + 1) (W2.alloc (.cells (rowW x) 61)) (by rw [World.size_alloc]; omega); rw [World.size_alloc] at h; exact h)); (focus (exact rfl)); (focus (omega)); (focus (exact rfl)); (focus (exact HTK.out)); (focus (have h := (HL3.out.below (((Below.refl (w.heap.size + 1) W2).alloc (by omega) (.cells (rowW x) 61)).alloc (by simp only [World.size_alloc]; omega) (.cells #[] 61)) (by omega)).part 0 k; rw [List.drop_zero] at h; exact h)); (focus (omega)); (focus (((try simp only [World.size_alloc]); (try rw [World.size_drew]); (try simp only [World.size_alloc]); omega))); intro g4 c4 w4 hown4 hgrow4 hb4; rw [List.nil_append] at hown4; have hs4 : w4.heap[W2.heap.size]? = some (.cells (rowW x) 61) := blk_grown hgrow4 (by exact blk_alloc (heap_alloc_new W2 (.cells (rowW x) 61)) _) (by omega); have hpre := (((Below.refl (w.heap.size + 1) W2).alloc (by omega) (.cells (rowW x) 61)).alloc (by simp only [World.size_alloc]; omega) (.cells #[] 61)); have hbw4 := HB3.out.trans (hpre.trans (below_same hb4 rfl rfl rfl rfl)); have hr4 := box_cells (HBX.out _ hbw4); have HB4 := Lib.hid hbw4; have HO4 := Lib.hid hown4; have hlt4 : w.heap.size < w4.heap.size := (by have := hbw4.size; rw [World.size_alloc] at this; omega); obtain ⟨r0, r1, r2, r3, r4, r5, r6, r7, r8⟩ := hr4; clear hown4 hgrow4 hb4 hbw4; clear hpre) | (apply step_append_whA (B := (w.heap.size + 1)) (xs := (acc.take k)) (ys := [x]) (g1 := g4) (n1 := k) (c1 := c4) (g0 := w4.heap.size) (off := 0) (m := 1) (c := 1) (L := (k + 1)); (focus (exact rfl)); (focus (exact rfl)); (focus (exact rfl)); (focus (exact HO4.out.alloc _)); (focus (exact HTK.out)); (focus (omega)); (focus (exact rfl)); (focus (exact rfl)); (focus (exact Lie9.one (heap_alloc_new w4 _))); (focus (omega)); (focus (((try simp only [World.size_alloc]); (try rw [World.size_drew]); (try simp only [World.size_alloc]); omega))); intro g5 c5 w5 hown5 hgrow5 hb5; have hbw5 := HB4.out.trans (((Below.refl (w.heap.size + 1) w4).alloc (by omega) (.cells (rowW x) 61)).trans (below_same hb5 rfl rfl rfl rfl)); have hr5 := box_cells (HBX.out _ hbw5); have HB5 := Lib.hid hbw5; have HO5 := Lib.hid hown5; have hlt5 : w.heap.size < w5.heap.size := (by have := hbw5.size; rw [World.size_alloc] at this; omega); obtain ⟨r0, r1, r2, r3, r4, r5, r6, r7, r8⟩ := hr5; clear hown5 hgrow5 hb5 hbw5) | (apply step_append_whA (B := (w.heap.size + 1)) (xs := (acc.take k)) (ys := [x]) (g1 := g4) (n1 := k) (c1 := c4) (g0 := (W2.heap.size + 1)) (off := 0) (m := 1) (c := 1) (L := (k + 1)); (focus (exact rfl)); (focus (exact rfl)); (focus (exact rfl)); (focus (exact HO4.out)); (focus (exact HTK.out)); (focus (omega)); (focus (exact rfl)); (focus (exact rfl)); (focus (exact Lie9.one hs4)); (focus (omega)); (focus (((try simp only [World.size_alloc]); (try rw [World.size_drew]); (try simp only [World.size_alloc]); omega))); intro g5 c5 w5 hown5 hgrow5 hb5; have hbw5 := HB4.out.trans ((Below.refl (w.heap.size + 1) w4).trans (below_same hb5 rfl rfl rfl rfl)); have hr5 := box_cells (HBX.out _ hbw5); have HB5 := Lib.hid hbw5; have HO5 := Lib.hid hown5; have hlt5 : w.heap.size < w5.heap.size := (by have := hbw5.size; rw [World.size_alloc] at this; omega); obtain ⟨r0, r1, r2, r3, r4, r5, r6, r7, r8⟩ := hr5; clear hown5 hgrow5 hb5 hbw5) | (apply step_append_whA (B := (w.heap.size + 1)) (xs := (acc.take k)) (ys := [x]) (g1 := g4) (n1 := k) (c1 := c4) (g0 := W2.heap.size) (off := 0) (m := 1) (c := 1) (L := (k + 1)); (focus (exact rfl)); (focus (exact rfl)); (focus (exact rfl)); (focus (exact HO4.out)); (focus (exact HTK.out)); (focus (omega)); (focus (exact rfl)); (focus (exact rfl)); (focus (exact Lie9.one hs4)); (focus (omega)); (focus (((try simp only [World.size_alloc]); (try rw [World.size_drew]); (try simp only [World.size_alloc]); omega))); intro g5 c5 w5 hown5 hgrow5 hb5; have hbw5 := HB4.out.trans ((Below.refl (w.heap.size + 1) w4).trans (below_same hb5 rfl rfl rfl rfl)); have hr5 := box_cells (HBX.out _ hbw5); have HB5 := Lib.hid hbw5; have HO5 := Lib.hid hown5; have hlt5 : w.heap.size < w5.heap.size := (by have := hbw5.size; rw [World.size_alloc] at this; omega); obtain ⟨r0, r1, r2, r3, r4, r5, r6, r7, r8⟩ := hr5; clear hown5 hgrow5 hb5 hbw5) | (apply step_append_whA (B := (w.heap.size + 1)) (xs := (acc.take k ++ [x])) (ys := (acc.drop k)) (g1 := g5) (n1 := (k + 1)) (c1 := c5) (g0 := g) (off := OFF) (m := (acc.length - k)) (c := (cap - k)) (L := (acc.length + 1)); (focus (exact rfl)); (focus (exact rfl)); (focus (exact rfl)); (focus (exact HO5.out)); (focus (rw [List.length_append, HTK.out]; rfl)); (focus (omega)); (focus (exact rfl)); (focus (exact HDR.out)); (focus (exact HLD.out _ HB5.out)); (focus (omega)); (focus (((try simp only [World.size_alloc]); (try rw [World.size_drew]); (try simp only [World.size_alloc]); omega))); intro g6 c6 w6 hown6 hgrow6 hb6; have hbw6 := HB5.out.trans (below_same hb6 rfl rfl rfl rfl); have hr6 := box_cells (HBX.out _ hbw6); have HB6 := Lib.hid hbw6; have HO6 := Lib.hid hown6; have hlt6 : w.heap.size < w6.heap.size := (by have := hbw6.size; rw [World.size_alloc] at this; omega); obtain ⟨r0, r1, r2, r3, r4, r5, r6, r7, r8⟩ := hr6; clear hown6 hgrow6 hb6 hbw6) | (go_at_call 98; refine (specCValid_any x.r _).mono ?_; rintro e w' ⟨rfl, hb⟩; obtain ⟨os, d, rfl⟩ := more_of_below hb; clear hb))
        all_goals
          go_wp2_with fail
          go_returns
          have hlen : (addS acc x).length = acc.length + 1 := by rw [HADD.out.1, List.length_append, List.length_append, HTK.out, HDR.out]; simp; omega
          refine ⟨g6, c6, ?_, ?_, below_more (((Below.refl w.heap.size w).alloc (Nat.le_refl _) _).trans (HB6.out.mono (by omega))) (by omega) _ _⟩
          · rw [hlen, HADD.out.2]; rfl
          · rw [hlen, HADD.out.1]; exact (HO6.out.mono (by omega)).more _ _
    · have hki : decide ((k : Int) < (acc.length : Int)) = false := by rw [decide_eq_false_iff_not]; omega
      have hk0 : (0 : Int) ≤ (k : Int) := by omega
      have HADD := Lib.hid (addS_new hk hlow.out (fun h => absurd h hlt) HS.out)
      have hly : Lie9 wr g 0 acc := (HL.out.below ((Below.refl _ w).alloc (Nat.le_refl _) _) hg).below (hbel.out.mono (B' := w.heap.size) (by omega)) hg
      have HLY := Lib.hid hly
      clear hly hlow
      go_wp2_with fail
      go_quiet (fail)
      have hb2 := hbel.out.trans (show Below (w.heap.size + 1) wr (wr.drewN nq) from ⟨rfl, rfl, rfl, Nat.le_refl _, fun _ _ => rfl⟩)
      have hl2 : Lie9 (wr.drewN nq) g 0 acc := HLY.out
      have hx2 : (wr.drewN nq).heap[w.heap.size]? = some (.cells (rowW x) 61 (0, 0)) := HBX.out
      clear q0 hbel HLY HBX hszw
      generalize wr.drewN nq = wz at hb2 hl2 hx2 ⊢
      have HB2 := Lib.hid hb2
      have HL2 := Lib.hid hl2
      have HX2 := Lib.hid hx2
      clear hb2 hl2 hx2
      go_wp2_with fail
      go_quiet (fail)
      have hb3 := HB2.out.trans (show Below (w.heap.size + 1) wz (wz.drewN nq) from ⟨rfl, rfl, rfl, Nat.le_refl _, fun _ _ => rfl⟩)
      have hl3 : Lie9 (wz.drewN nq) g 0 acc := HL2.out
      have hx3 : (wz.drewN nq).heap[w.heap.size]? = some (.cells (rowW x) 61 (0, 0)) := HX2.out
      clear HB2 HL2 HX2 hki hlt
      generalize wz.drewN nq = W2 at hb3 hl3 hx3 ⊢
      have hsz2 := hb3.size
      rw [World.size_alloc] at hsz2
      have hki2 : (k : Int) ≤ (acc.length : Int) := by omega
      have hkc2 : (k : Int) ≤ (cap : Int) := by omega
      have hlc2 : (acc.length : Int) ≤ (cap : Int) := by omega
      have hlt2 : w.heap.size < W2.heap.size := by omega
      have HB3 := Lib.hid hb3
      have HL3 := Lib.hid hl3
      obtain ⟨r0, r1, r2, r3, r4, r5, r6, r7, r8⟩ := box_cells hx3
      clear hb3 hl3 hx3
      have HTK := Lib.hid (show (acc.take k).length = k by rw [List.length_take]; omega)
      have HDR := Lib.hid (show (acc.drop k).length = acc.length - k by rw [List.length_drop])
      have HBX := Lib.hid (fun (W : World) (h : Below (w.heap.size + 1) (w.alloc (.cells (rowW x) 61)) W) => (h.block w.heap.size (by omega)).trans (heap_alloc_new w _))
      obtain ⟨OFF, hOFF⟩ : ∃ OFF, OFF = if cap = k then 0 else k * 9 := ⟨_, rfl⟩
      have hif : (if cap = k then (some ⟨g, 0, none⟩ : Option Addr) else some ⟨g, k * 9, none⟩) = some ⟨g, OFF, none⟩ := by rw [hOFF]; split <;> rfl
      have HLD := Lib.hid (fun (W : World) (h : Below (w.heap.size + 1) (w.alloc (.cells (rowW x) 61)) W) => (show Lie9 W g OFF (acc.drop k) from by
        rw [hOFF]
        split
        · intro i hi; rw [List.length_drop] at hi; omega
        · have h5 := (HL.out.below (((Below.refl w.heap.size w).alloc (Nat.le_refl _) _).trans (h.mono (by omega))) hg).part k acc.length
          rw [List.take_of_length_le (by rw [List.length_drop]; omega), Nat.zero_add] at h5
          exact h5))
      clear hOFF
      go_wp2_with fail
      go_region_held3 (fun w' => w'.cell? ⟨w.heap.size, 0, none⟩ = some (.int .i64 x.s) ∧ w'.cell? ⟨w.heap.size, 1, none⟩ = some (.int .i64 x.r.c0) ∧ w'.cell? ⟨w.heap.size, 2, none⟩ = some (.int .i64 x.r.c1) ∧ w'.cell? ⟨w.heap.size, 3, none⟩ = some (.int .i64 x.r.c2) ∧ w'.cell? ⟨w.heap.size, 4, none⟩ = some (.int .i64 x.r.c3) ∧ w'.cell? ⟨w.heap.size, 5, none⟩ = some (.int .i64 x.r.c4) ∧ w'.cell? ⟨w.heap.size, 6, none⟩ = some (.int .i64 x.r.c5) ∧ w'.cell? ⟨w.heap.size, 7, none⟩ = some (.int .i64 x.r.c6) ∧ w'.cell? ⟨w.heap.size, 8, none⟩ = some (.int .i64 x.r.c7)) (first | (simp [go_sem, *]; done)) (first | (apply step_append_whA (B := (w.heap.size + 1)) (xs := ([] : List W9)) (ys := (acc.take k)) (g1 := W2.heap.size) (n1 := 0) (c1 := 0) (g0 := g) (off := 0) (m := k) (c := cap) (L := k); (focus (exact rfl)); (focus (exact rfl)); (focus (exact rfl)); (focus (exact OwnsW.empty W2 (by omega))); (focus (exact rfl)); (focus (omega)); (focus (exact rfl)); (focus (exact HTK.out)); (focus (have h := (HL3.out.below ((Below.refl (w.heap.size + 1) W2).alloc (by omega) (.cells #[] 61)) (by omega)).part 0 k; rw [List.drop_zero] at h; exact h)); (focus (omega)); (focus (((try simp only [World.size_alloc]); (try rw [World.size_drew]); (try simp only [World.size_alloc]); omega))); intro g4 c4 w4 hown4 hgrow4 hb4; rw [List.nil_append] at hown4; have hpre := ((Below.refl (w.heap.size + 1) W2).alloc (by omega) (.cells #[] 61)); have hbw4 := HB3.out.trans (hpre.trans (below_same hb4 rfl rfl rfl rfl)); have hr4 := box_cells (HBX.out _ hbw4); have HB4 := Lib.hid hbw4; have HO4 := Lib.hid hown4; have hlt4 : w.heap.size < w4.heap.size := (by have := hbw4.size; rw [World.size_alloc] at this; omega); obtain ⟨r0, r1, r2, r3, r4, r5, r6, r7, r8⟩ := hr4; clear hown4 hgrow4 hb4 hbw4; clear hpre) | (apply step_append_whA (B := (w.heap.size + 1)) (xs := ([] : List W9)) (ys := (acc.take k)) (g1 := W2.heap.size) (n1 := 0) (c1 := 0) (g0 := g) (off := 0) (m := k) (c := cap) (L := k); (focus (exact rfl)); (focus (exact rfl)); (focus (exact rfl)); (focus (exact (OwnsW.empty W2 (by omega)).alloc _)); (focus (exact rfl)); (focus (omega)); (focus (exact rfl)); (focus (exact HTK.out)); (focus (have h := (HL3.out.below (((Below.refl (w.heap.size + 1) W2).alloc (by omega) (.cells #[] 61)).alloc (by simp only [World.size_alloc]; omega) (.cells (rowW x) 61)) (by omega)).part 0 k; rw [List.drop_zero] at h; exact h)); (focus (omega)); (focus (((try simp only [World.size_alloc]); (try rw [World.size_drew]); (try simp only [World.size_alloc]); omega))); intro g4 c4 w4 hown4 hgrow4 hb4; rw [List.nil_append] at hown4; have hs4 : w4.heap[W2.heap.size + 1]? = some (.cells (rowW x) 61) := blk_grown hgrow4 (by have h := heap_alloc_new (W2.alloc (.cells #[] 61)) (.cells (rowW x) 61); rw [World.size_alloc] at h; exact h) (by omega); have hpre := (((Below.refl (w.heap.size + 1) W2).alloc (by omega) (.cells #[] 61)).alloc (by simp only [World.size_alloc]; omega) (.cells (rowW x) 61)); have hbw4 := HB3.out.trans (hpre.trans (below_same hb4 rfl rfl rfl rfl)); have hr4 := box_cells (HBX.out _ hbw4); have HB4 := Lib.hid hbw4; have HO4 := Lib.hid hown4; have hlt4 : w.heap.size < w4.heap.size := (by have := hbw4.size; rw [World.size_alloc] at this; omega); obtain ⟨r0, r1, r2, r3, r4, r5, r6, r7, r8⟩ := hr4; clear hown4 hgrow4 hb4 hbw4; clear hpre) | (apply step_append_whA (B := (w.heap.size + 1)) (xs := ([] : List W9)) (ys := (acc.take k)) (g1 := (W2.heap.size + 1)) (n1 := 0) (c1 := 0) (g0 := g) (off := 0) (m := k) (c := cap) (L := k); (focus (exact rfl)); (focus (exact rfl)); (focus (exact rfl)); (focus (have h := OwnsW.empty (B := w.heap.size + 1) (W2.alloc (.cells (rowW x) 61)) (by rw [World.size_alloc]; omega); rw [World.size_alloc] at h; exact h)); (focus (exact rfl)); (focus (omega)); (focus (exact rfl)); (focus (exact HTK.out)); (focus (have h := (HL3.out.below (((Below.refl (w.heap.size + 1) W2).alloc (by omega) (.cells (rowW x) 61)).alloc (by simp only [World.size_alloc]; omega) (.cells #[] 61)) (by omega)).part 0 k; rw [List.drop_zero] at h; exact h)); (focus (omega)); (focus (((try simp only [World.size_alloc]); (try rw [World.size_drew]); (try simp only [World.size_alloc]); omega))); intro g4 c4 w4 hown4 hgrow4 hb4; rw [List.nil_append] at hown4; have hs4 : w4.heap[W2.heap.size]? = some (.cells (rowW x) 61) := blk_grown hgrow4 (by exact blk_alloc (heap_alloc_new W2 (.cells (rowW x) 61)) _) (by omega); have hpre := (((Below.refl (w.heap.size + 1) W2).alloc (by omega) (.cells (rowW x) 61)).alloc (by simp only [World.size_alloc]; omega) (.cells #[] 61)); have hbw4 := HB3.out.trans (hpre.trans (below_same hb4 rfl rfl rfl rfl)); have hr4 := box_cells (HBX.out _ hbw4); have HB4 := Lib.hid hbw4; have HO4 := Lib.hid hown4; have hlt4 : w.heap.size < w4.heap.size := (by have := hbw4.size; rw [World.size_alloc] at this; omega); obtain ⟨r0, r1, r2, r3, r4, r5, r6, r7, r8⟩ := hr4; clear hown4 hgrow4 hb4 hbw4; clear hpre) | (apply step_append_whA (B := (w.heap.size + 1)) (xs := (acc.take k)) (ys := [x]) (g1 := g4) (n1 := k) (c1 := c4) (g0 := w4.heap.size) (off := 0) (m := 1) (c := 1) (L := (k + 1)); (focus (exact rfl)); (focus (exact rfl)); (focus (exact rfl)); (focus (exact HO4.out.alloc _)); (focus (exact HTK.out)); (focus (omega)); (focus (exact rfl)); (focus (exact rfl)); (focus (exact Lie9.one (heap_alloc_new w4 _))); (focus (omega)); (focus (((try simp only [World.size_alloc]); (try rw [World.size_drew]); (try simp only [World.size_alloc]); omega))); intro g5 c5 w5 hown5 hgrow5 hb5; have hbw5 := HB4.out.trans (((Below.refl (w.heap.size + 1) w4).alloc (by omega) (.cells (rowW x) 61)).trans (below_same hb5 rfl rfl rfl rfl)); have hr5 := box_cells (HBX.out _ hbw5); have HB5 := Lib.hid hbw5; have HO5 := Lib.hid hown5; have hlt5 : w.heap.size < w5.heap.size := (by have := hbw5.size; rw [World.size_alloc] at this; omega); obtain ⟨r0, r1, r2, r3, r4, r5, r6, r7, r8⟩ := hr5; clear hown5 hgrow5 hb5 hbw5) | (apply step_append_whA (B := (w.heap.size + 1)) (xs := (acc.take k)) (ys := [x]) (g1 := g4) (n1 := k) (c1 := c4) (g0 := (W2.heap.size + 1)) (off := 0) (m := 1) (c := 1) (L := (k + 1)); (focus (exact rfl)); (focus (exact rfl)); (focus (exact rfl)); (focus (exact HO4.out)); (focus (exact HTK.out)); (focus (omega)); (focus (exact rfl)); (focus (exact rfl)); (focus (exact Lie9.one hs4)); (focus (omega)); (focus (((try simp only [World.size_alloc]); (try rw [World.size_drew]); (try simp only [World.size_alloc]); omega))); intro g5 c5 w5 hown5 hgrow5 hb5; have hbw5 := HB4.out.trans ((Below.refl (w.heap.size + 1) w4).trans (below_same hb5 rfl rfl rfl rfl)); have hr5 := box_cells (HBX.out _ hbw5); have HB5 := Lib.hid hbw5; have HO5 := Lib.hid hown5; have hlt5 : w.heap.size < w5.heap.size := (by have := hbw5.size; rw [World.size_alloc] at this; omega); obtain ⟨r0, r1, r2, r3, r4, r5, r6, r7, r8⟩ := hr5; clear hown5 hgrow5 hb5 hbw5) | (apply step_append_whA (B := (w.heap.size + 1)) (xs := (acc.take k)) (ys := [x]) (g1 := g4) (n1 := k) (c1 := c4) (g0 := W2.heap.size) (off := 0) (m := 1) (c := 1) (L := (k + 1)); (focus (exact rfl)); (focus (exact rfl)); (focus (exact rfl)); (focus (exact HO4.out)); (focus (exact HTK.out)); (focus (omega)); (focus (exact rfl)); (focus (exact rfl)); (focus (exact Lie9.one hs4)); (focus (omega)); (focus (((try simp only [World.size_alloc]); (try rw [World.size_drew]); (try simp only [World.size_alloc]); omega))); intro g5 c5 w5 hown5 hgrow5 hb5; have hbw5 := HB4.out.trans ((Below.refl (w.heap.size + 1) w4).trans (below_same hb5 rfl rfl rfl rfl)); have hr5 := box_cells (HBX.out _ hbw5); have HB5 := Lib.hid hbw5; have HO5 := Lib.hid hown5; have hlt5 : w.heap.size < w5.heap.size := (by have := hbw5.size; rw [World.size_alloc] at this; omega); obtain ⟨r0, r1, r2, r3, r4, r5, r6, r7, r8⟩ := hr5; clear hown5 hgrow5 hb5 hbw5) | (apply step_append_whA (B := (w.heap.size + 1)) (xs := (acc.take k ++ [x])) (ys := (acc.drop k)) (g1 := g5) (n1 := (k + 1)) (c1 := c5) (g0 := g) (off := OFF) (m := (acc.length - k)) (c := (cap - k)) (L := (acc.length + 1)); (focus (exact rfl)); (focus (exact rfl)); (focus (exact rfl)); (focus (exact HO5.out)); (focus (rw [List.length_append, HTK.out]; rfl)); (focus (omega)); (focus (exact rfl)); (focus (exact HDR.out)); (focus (exact HLD.out _ HB5.out)); (focus (omega)); (focus (((try simp only [World.size_alloc]); (try rw [World.size_drew]); (try simp only [World.size_alloc]); omega))); intro g6 c6 w6 hown6 hgrow6 hb6; have hbw6 := HB5.out.trans (below_same hb6 rfl rfl rfl rfl); have hr6 := box_cells (HBX.out _ hbw6); have HB6 := Lib.hid hbw6; have HO6 := Lib.hid hown6; have hlt6 : w.heap.size < w6.heap.size := (by have := hbw6.size; rw [World.size_alloc] at this; omega); obtain ⟨r0, r1, r2, r3, r4, r5, r6, r7, r8⟩ := hr6; clear hown6 hgrow6 hb6 hbw6) | (go_at_call 98; refine (specCValid_any x.r _).mono ?_; rintro e w' ⟨rfl, hb⟩; obtain ⟨os, d, rfl⟩ := more_of_below hb; clear hb))
      all_goals
        go_wp2_with fail
        go_returns
        have hlen : (addS acc x).length = acc.length + 1 := by rw [HADD.out.1, List.length_append, List.length_append, HTK.out, HDR.out]; simp; omega
        refine ⟨g6, c6, ?_, ?_, below_more (((Below.refl w.heap.size w).alloc (Nat.le_refl _) _).trans (HB6.out.mono (by omega))) (by omega) _ _⟩
        · rw [hlen, HADD.out.2]; rfl
        · rw [hlen, HADD.out.1]; exact (HO6.out.mono (by omega)).more _ _
end Go.Proofs.YthojdoiffkdikaaGreatDoor
