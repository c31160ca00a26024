/- Draws of designs: wheels of gears. -/
import Derived.Test.YthojdoiffkdikaaGreatDoorCutC
import Derived.Test.YthojdoiffkdikaaGreatDoorRdC
import Derived.Test.YthojdoiffkdikaaGreatDoorCycI
import Derived.Test.YthojdoiffkdikaaGreatDoorFix
import Derived.Deep.RegionHeld3
namespace Go.Proofs.YthojdoiffkdikaaGreatDoor
open Go.RowKit Go.Shelf

theorem run_build_wheel (v : Int) (c : C8) (w : World) : (Instr.build 61 #[(0, .int .i64 v), (1, cv c)]).run Tryz.prog w = .ok (wv ⟨v, c⟩) w := by kernel_rfl
/-- A wheel is built of a speed and a radius. -/
theorem wp_build_wh {op : Oper} {a : Act} {w : World} {K : Act → World → Prop} {Q : Exit → Act → World → Prop} (i j : Tmp) (ho : op.op = .build 61 #[(0, .tmp i), (1, .tmp j)]) (v : Int) (c : C8) (hi : a.eval (.tmp i) = .int .i64 v) (hj : a.eval (.tmp j) = cv c)
    (h : K (a.put op.dst (wv ⟨v, c⟩)) w) : op.wp Tryz.prog a w K Q := by
  unfold Oper.wp execOp
  simp only [ho, List.map_toArray, List.map_cons, List.map_nil, hi, hj, Sem.run_bind, Sem.run_pure, run_build_wheel, Result.andThen_ok]
  exact h
theorem wpList_build_wh {ops : Array Oper} {rest : List Oper} {op : Oper} {a : Act} {w : World} {Q : Exit → Act → World → Prop} (hgd : op.guard = none) (i j : Tmp) (ho : op.op = .build 61 #[(0, .tmp i), (1, .tmp j)]) (v : Int) (c : C8) (hi : a.eval (.tmp i) = .int .i64 v) (hj : a.eval (.tmp j) = cv c)
    (h : wpList Tryz.prog ops Q rest (a.put op.dst (wv ⟨v, c⟩)) w) : wpList Tryz.prog ops Q (op :: rest) a w :=
  wpList_plain hgd fun _ hK => wp_build_wh i j ho v c hi hj (hK _ _ h)
set_option maxRecDepth 100000 in
theorem l1Gcd_any (x y : Nat) (hx : x ≤ 1000) (hy : y ≤ 1000) (w : World) :
    Calls Tryz.prog 94 #[.int .i64 x, .int .i64 y] w fun e w' => e = .returned (.int .i64 (Nat.gcd x y : Nat)) ∧ Below w.heap.size w w' := by
  obtain ⟨d, hd⟩ : ∃ d, Nat.gcd x y = d := ⟨_, rfl⟩
  rw [hd]
  have HD := Lib.hid hd
  clear hd
  go_enter Tryz.func94, Tryz.ntmps94
  go_wp2_with fail
  go_loopw [0, 1] (fun s0 s1 wr => ∃ p q : Nat, s0 = .int .i64 p ∧ s1 = .int .i64 q ∧ p ≤ 1000 ∧ q ≤ 1000 ∧ Hid (Nat.gcd p q = d) ∧ Below w.heap.size w wr) (fun _ s1 _ => (intOf s1).toNat)
  case atStart => exact ⟨x, y, rfl, rfl, hx, hy, HD.out, by repeat' (first | (with_reducible exact Below.refl _ _) | (with_reducible assumption) | (with_reducible refine Below.alloc ?_ ?_ _) | (with_reducible refine below_more ?_ ?_ _ _) | (with_reducible refine below_rd ?_ ?_ _ _) | (with_reducible refine Below.drew ?_) | (with_reducible refine Below.setCell ?_ ?_ _) | go_size)⟩
  case round =>
    obtain ⟨p, q, rfl, rfl, hp, hq, hg, hb⟩ := hrel
    by_cases h0 : q = 0
    · subst h0
      have HP := Lib.hid (show p = d by rw [← hg.out, Nat.gcd_zero_right])
      go_wp2_with fail
      go_returns
      exact ⟨by rw [show max (p : Int) (-(p : Int)) = p by omega, HP.out]; rfl, hb⟩
    · obtain ⟨m, hm⟩ : ∃ m, p % q = m := ⟨_, rfl⟩
      have hmq : m < q := by rw [← hm]; exact Nat.mod_lt _ (by omega)
      have ht : ((p : Int)).tmod (q : Int) = (m : Int) := by rw [← hm, Int.tmod_eq_emod_of_nonneg (by omega)]; exact_mod_cast rfl
      have hn0 : ¬ (q : Int) = 0 := by omega
      have hn1 : ((q : Int) == 0) = false := by rw [beq_eq_false_iff_ne]; omega
      have HG := Lib.hid (show Nat.gcd q m = d by rw [← hg.out, ← hm, Nat.gcd_comm p q, Nat.gcd_rec q p, Nat.gcd_comm])
      clear hm
      go_wp2_with fail
      go_roundw
      case rel => exact ⟨q, m, rfl, by go_num, hq, by omega, HG.out, hb⟩
      case measure => simp [intOf]; omega
set_option maxRecDepth 100000 in
set_option maxHeartbeats 4000000 in
theorem l9Number_any (v r : Int) (w : World) :
    Calls Tryz.prog 95 #[.int .i64 v, .int .i64 r] w fun e w' => e = .returned (wv ⟨v, C8.gs r 0⟩) ∧ Below w.heap.size w w' := by
  have HG := Lib.hid (l2Gauss_any r 0)
  generalize C8.gs r 0 = c at HG ⊢
  go_enter Tryz.func95, Tryz.ntmps95
  go_wp2_with fail
  refine (HG.out _).mono ?_
  rintro e w1 ⟨rfl, hb1⟩
  have hk : w1.heap[w.heap.size]? = some (.cells (rowW Z9) 61 (0, 0)) := (hb1.block _ (by simp)).trans (heap_alloc_new w _)
  have HB1 := Lib.hid (((Below.refl w.heap.size w).alloc (Nat.le_refl _) (.cells (rowW Z9) 61)).trans (hb1.mono (by simp)))
  have HK := Lib.hid hk
  clear hb1 hk
  go_wp2_with (first | (with_reducible refine wpList_build_wh (op := ⟨some 8, .build 61 #[(0, .tmp 5), (1, .tmp 7)], _, _, _, _⟩) rfl 5 7 rfl v c rfl rfl ?_) | ((with_reducible refine wpList_store_box (op := ⟨none, .store 61 (.tmp 4) (.tmp 8), _, _, _, _⟩) rfl _ _ rfl w.heap.size Z9 ⟨v, c⟩ HK.out rfl rfl ?_); (intro w5 hR5 hg5; have HB5 := Lib.hid (below_box HB1.out hg5 (Nat.le_refl _) HB1.out.size); obtain ⟨b0, b1, b2, b3, b4, b5, b6, b7, b8⟩ := box_cells hR5; clear hR5 hg5)))
  refine bodyPost_ret (v := wv ⟨v, c⟩) ?_ rfl ⟨rfl, HB5.out⟩
  simp [results, Tryz.f95, go_sem, b0, b1, b2, b3, b4, b5, b6, b7, b8]
theorem l9Gear_yes (n : Int) (h0 : 6 ≤ n) (h1 : n ≤ 240) (w : World) :
    Calls Tryz.prog 139 #[.int .i64 n] w fun e w' => e = .returned (.bool true) ∧ w = w' := by
  have h := inB_iff.2 ⟨h0, h1⟩
  go_enter Tryz.func139, Tryz.ntmps139
  go_wp2_with (go_at_call 93; refine (l6In_any _ _ _ _).mono ?_; rintro e w' ⟨rfl, rfl⟩; rw [h])
  go_returns
  exact ⟨rfl, rfl⟩
theorem gcd_pos (x y : Nat) (h : 1 ≤ x) : 1 ≤ Nat.gcd x y := Nat.gcd_pos_of_pos_left _ h
set_option maxRecDepth 100000 in
theorem ringCusps_some (x y : Nat) (hx : 6 ≤ x ∧ x ≤ 40) (hy : 6 ≤ y ∧ y ≤ 40) (ins : Bool) (w : World) :
    Calls Tryz.prog 92 #[.int .i64 x, .int .i64 y, .bool ins] w fun e w' => ∃ (q : Int) (b : Bool), e = .returned (.tuple #[.int .i64 q, .bool b]) ∧ Below w.heap.size w w' := by
  obtain ⟨d, hd⟩ : ∃ d, Nat.gcd x y = d := ⟨_, rfl⟩
  have HG := Lib.hid (l1Gcd_any x y (by omega) (by omega))
  have hd0 : 1 ≤ d := by rw [← hd]; exact gcd_pos x y (by omega)
  have hn0 : ¬ (d : Int) = 0 := by omega
  have hn1 : ((d : Int) == 0) = false := by rw [beq_eq_false_iff_ne]; omega
  rw [hd] at HG
  clear hd
  obtain ⟨q, hq⟩ : ∃ q, IntKind.i64.wrap ((x : Int).tdiv (d : Int)) = q := ⟨_, rfl⟩
  cases ins
  all_goals by_cases hyx : (x : Int) ≤ (y : Int)
  all_goals
    go_enter Tryz.func92, Tryz.ntmps92
    go_wp2_with (first
      | (go_at_call 139; go_must (refine (l9Gear_yes _ (by omega) (by omega) _).mono ?_; rintro e w' ⟨rfl, rfl⟩))
      | (go_at_call 94; go_must (refine (HG.out _).mono ?_; rintro e w' ⟨rfl, hb⟩; obtain ⟨os, d, rfl⟩ := more_of_below hb; clear hb)))
    go_returns
    exact ⟨_, _, rfl, by repeat' (first | (with_reducible exact Below.refl _ _) | (with_reducible assumption) | (with_reducible refine Below.alloc ?_ ?_ _) | (with_reducible refine below_more ?_ ?_ _ _) | (with_reducible refine below_rd ?_ ?_ _ _) | (with_reducible refine Below.drew ?_) | (with_reducible refine Below.setCell ?_ ?_ _) | go_size)⟩
/-- What the draw of a gear's design leaves. -/
def Ring6 (w : World) (e : Ending) (w' : World) : Prop := ∃ (ds : List W9) (g cap : Nat) (b : Bool), e = .returned (.tuple #[.slice (some ⟨g, 0, none⟩) ds.length cap, .bool b]) ∧ ds.length ≤ 12 ∧ OwnsW w' w.heap.size (.slice (some ⟨g, 0, none⟩) ds.length cap) ds ∧ Below w.heap.size w w'
theorem tdR_len {ds : List W9} : ((tdR ds).getD []).length ≤ 12 := by
  unfold tdR
  cases tyS [] ds with
  | none => simp
  | some l =>
    simp only [Option.bind_some]
    split
    · next h => exact (dvOk_mem h).1
    · simp
theorem okC_gs {x : Int} (h : -1000000 ≤ x ∧ x ≤ 1000000) : okC (C8.gs x 0) = true := by
  refine okC_iff.2 fun k hk => ?_
  obtain rfl | rfl | rfl | rfl | rfl | rfl | rfl | rfl : k = 0 ∨ k = 1 ∨ k = 2 ∨ k = 3 ∨ k = 4 ∨ k = 5 ∨ k = 6 ∨ k = 7 := by omega
  all_goals
    refine inB_iff.2 ?_
    simp only [C8.g, C8.l, C8.gs, List.getD_cons_zero, List.getD_cons_succ]
    omega
theorem two_has (w : World) (x y : W9) : HasW (w.alloc (.cells (rowsW [x, y]) 61)) (some ⟨w.heap.size, 0, none⟩) [x, y] := by
  have h := HasW.made w [x, y] 61 #[] w.drawn
  have e : Go.Proofs.YthojdoiffkdikaaGreatDoor.more (w.alloc (.cells (rowsW [x, y]) 61)) #[] w.drawn = w.alloc (.cells (rowsW [x, y]) 61) := by
    cases w; simp [Go.Proofs.YthojdoiffkdikaaGreatDoor.more, World.alloc]
  rw [e] at h
  exact h
theorem run_two (x y : W9) (w : World) : (Instr.buildSlice 31 2 #[(0, wv x), (1, wv y)]).run Tryz.prog w = .ok (.slice (some ⟨w.heap.size, 0, none⟩) 2 2) (w.alloc (.cells (rowsW [x, y]) 61)) := by kernel_rfl
/-- A slice of two wheels, at a step of a region that draws its order. -/
theorem step_two {w : World} {ops : Array Oper} {o : Oper} {a : Act} {K : Act → World → Prop} {Q : Exit → Act → World → Prop} {E : Prop} (hgd : o.guard = none) (i j : Tmp)
    (ho : o.op = .buildSlice 31 2 #[(0, .tmp i), (1, .tmp j)]) (x y : W9) (hi : a.eval (.tmp i) = wv x) (hj : a.eval (.tmp j) = wv y)
    (h : K (a.put o.dst (.slice (some ⟨w.heap.size, 0, none⟩) 2 2)) (w.alloc (.cells (rowsW [x, y]) 61))) :
    if Region.wanted o (yielded ops a.tmps) = true then Oper.wp Tryz.prog o a w K Q else E := by
  have hw : Region.wanted o (yielded ops a.tmps) = true := by simp [Region.wanted, hgd]
  rw [if_pos hw]
  unfold Oper.wp execOp
  simp only [ho, List.map_toArray, List.map_cons, List.map_nil, hi, hj, Sem.run_bind, Sem.run_pure, run_two, Result.andThen_ok]
  exact h
theorem two_ok {q1 q2 : Int} {c1 c2 : C8} (h1 : okC c1 = true) (h2 : okC c2 = true) : ∀ y ∈ [(⟨q1, c1⟩ : W9), ⟨q2, c2⟩], okC y.r = true := by
  intro y hy
  rcases List.mem_cons.1 hy with rfl | hy
  · exact h1
  · rw [List.mem_singleton.1 hy]; exact h2
set_option maxRecDepth 100000 in
set_option maxHeartbeats 8000000 in
theorem ringDesign_some (x y : Nat) (hx : 6 ≤ x ∧ x ≤ 40) (hy : 6 ≤ y ∧ y ≤ 40) (pen : Int) (hp : -300 ≤ pen ∧ pen ≤ 300) (ins : Bool) (w : World) :
    Calls Tryz.prog 64 #[.int .i64 x, .int .i64 y, .bool ins, .int .i64 pen] w (Ring6 w) := by
  obtain ⟨d, hd⟩ : ∃ d, Nat.gcd x y = d := ⟨_, rfl⟩
  have HG := Lib.hid (l1Gcd_any x y (by omega) (by omega))
  have hdn : ¬ d = 0 := by have := gcd_pos x y (by omega); omega
  rw [hd] at HG
  clear hd
  have HIN := Lib.hid (inB_iff.2 hp)
  have HRC := Lib.hid (ringCusps_some x y hx hy ins)
  obtain ⟨q1, hq1⟩ : ∃ q1, IntKind.i64.wrap ((y : Int) / (d : Int)) = q1 := ⟨_, rfl⟩
  cases ins
  · obtain ⟨m1, hm1⟩ : ∃ m, (x : Int) + (y : Int) = m := ⟨_, rfl⟩
    obtain ⟨m2, hm2⟩ : ∃ m, -pen = m := ⟨_, rfl⟩
    have hmw1 : IntKind.i64.wrap m1 = m1 := IntWalk.i64_in _ (by omega)
    have hmw2 : IntKind.i64.wrap m2 = m2 := IntWalk.i64_in _ (by omega)
    obtain ⟨q2, hq2⟩ : ∃ q2, IntKind.i64.wrap (m1.tdiv (d : Int)) = q2 := ⟨_, rfl⟩
    have HN1 := Lib.hid (l9Number_any q1 m1)
    have HN2 := Lib.hid (l9Number_any q2 m2)
    have HC1 := Lib.hid (okC_gs (show -1000000 ≤ m1 ∧ m1 ≤ 1000000 by omega))
    have HC2 := Lib.hid (okC_gs (show -1000000 ≤ m2 ∧ m2 ≤ 1000000 by omega))
    obtain ⟨c1, hc1⟩ : ∃ c, C8.gs m1 0 = c := ⟨_, rfl⟩
    obtain ⟨c2, hc2⟩ : ∃ c, C8.gs m2 0 = c := ⟨_, rfl⟩
    rw [hc1] at HN1 HC1
    rw [hc2] at HN2 HC2
    clear hc1 hc2
    have HOK := Lib.hid (two_ok (q1 := q1) (q2 := q2) HC1.out HC2.out)
    go_enter Tryz.func64, Tryz.ntmps64
    go_wp2_with fail
    refine (HRC.out _).mono ?_
    rintro e w1 ⟨q, b, rfl, hb1⟩
    have HB1 := Lib.hid hb1
    clear hb1
    cases b
    · go_wp2_with fail
      go_returns
      exact ⟨[], _, 0, false, rfl, by simp, OwnsW.empty _ HB1.out.size, HB1.out.alloc HB1.out.size _⟩
    · go_wp2_with fail
      refine (l6In_any _ _ _ _).mono ?_
      rintro e w' ⟨rfl, rfl⟩
      rw [HIN.out]
      go_wp2_with fail
      refine (HG.out _).mono ?_
      rintro e w2 ⟨rfl, hb2⟩
      have HB2 := Lib.hid (HB1.out.trans (hb2.mono HB1.out.size))
      clear hb2
      go_wp2_with fail
      -- BEGIN-RING7
      refine wp_region_held_drew (S := fun _ => True) (by kernel_rfl) trivial (fun _ => ?_)
      have HBD := Lib.hid (HB2.out.drew)
      generalize w2.drew = wd at HBD ⊢
      refine wpAnyH_take (i := 0) (oi := ⟨some 50, .move (.tmp 1), _, _, _, _⟩) (v := (.int .i64 y)) rfl (by kernel_rfl) (by kernel_rfl) (by kernel_rfl) (fun _ _ _ h => h) (Or.inl ⟨by rfl, ?_⟩) trivial ?_
      focus
        intro w0 _
        go_simp
        (try simp only [if_neg hdn, hq1, hq2, hm1, hm2, hmw1, hmw2])
        all_goals with_reducible rfl
      try simp only [Act.put, List.setIfInBounds_toArray, List.set_cons_zero, List.set_cons_succ]
      refine wpAnyH_take (i := 1) (oi := ⟨some 51, .move (.tmp 12), _, _, _, _⟩) (v := (.int .i64 d)) rfl (by kernel_rfl) (by kernel_rfl) (by kernel_rfl) (fun _ _ _ h => h) (Or.inl ⟨by rfl, ?_⟩) trivial ?_
      focus
        intro w0 _
        go_simp
        (try simp only [if_neg hdn, hq1, hq2, hm1, hm2, hmw1, hmw2])
        all_goals with_reducible rfl
      try simp only [Act.put, List.setIfInBounds_toArray, List.set_cons_zero, List.set_cons_succ]
      refine wpAnyH_take (i := 2) (oi := ⟨some 52, .binOp .quo _ (.tmp 50) (.tmp 51) _, _, _, _, _⟩) (v := (.int .i64 q1)) rfl (by kernel_rfl) (by kernel_rfl) (by kernel_rfl) (fun _ _ _ h => h) (Or.inl ⟨by rfl, ?_⟩) trivial ?_
      focus
        intro w0 _
        go_simp
        (try simp only [if_neg hdn, hq1, hq2, hm1, hm2, hmw1, hmw2])
        all_goals with_reducible rfl
      try simp only [Act.put, List.setIfInBounds_toArray, List.set_cons_zero, List.set_cons_succ]
      refine wpAnyH_take (i := 3) (oi := ⟨some 53, .move (.tmp 0), _, _, _, _⟩) (v := (.int .i64 x)) rfl (by kernel_rfl) (by kernel_rfl) (by kernel_rfl) (fun _ _ _ h => h) (Or.inl ⟨by rfl, ?_⟩) trivial ?_
      focus
        intro w0 _
        go_simp
        (try simp only [if_neg hdn, hq1, hq2, hm1, hm2, hmw1, hmw2])
        all_goals with_reducible rfl
      try simp only [Act.put, List.setIfInBounds_toArray, List.set_cons_zero, List.set_cons_succ]
      refine wpAnyH_take (i := 4) (oi := ⟨some 54, .move (.tmp 1), _, _, _, _⟩) (v := (.int .i64 y)) rfl (by kernel_rfl) (by kernel_rfl) (by kernel_rfl) (fun _ _ _ h => h) (Or.inl ⟨by rfl, ?_⟩) trivial ?_
      focus
        intro w0 _
        go_simp
        (try simp only [if_neg hdn, hq1, hq2, hm1, hm2, hmw1, hmw2])
        all_goals with_reducible rfl
      try simp only [Act.put, List.setIfInBounds_toArray, List.set_cons_zero, List.set_cons_succ]
      refine wpAnyH_take (i := 5) (oi := ⟨some 55, .binOp .add _ (.tmp 53) (.tmp 54) _, _, _, _, _⟩) (v := (.int .i64 m1)) rfl (by kernel_rfl) (by kernel_rfl) (by kernel_rfl) (fun _ _ _ h => h) (Or.inl ⟨by rfl, ?_⟩) trivial ?_
      focus
        intro w0 _
        go_simp
        (try simp only [if_neg hdn, hq1, hq2, hm1, hm2, hmw1, hmw2])
        all_goals with_reducible rfl
      try simp only [Act.put, List.setIfInBounds_toArray, List.set_cons_zero, List.set_cons_succ]
      refine wpAnyH_take (i := 7) (oi := ⟨some 57, .move (.tmp 0), _, _, _, _⟩) (v := (.int .i64 x)) rfl (by kernel_rfl) (by kernel_rfl) (by kernel_rfl) (fun _ _ _ h => h) (Or.inl ⟨by rfl, ?_⟩) trivial ?_
      focus
        intro w0 _
        go_simp
        (try simp only [if_neg hdn, hq1, hq2, hm1, hm2, hmw1, hmw2])
        all_goals with_reducible rfl
      try simp only [Act.put, List.setIfInBounds_toArray, List.set_cons_zero, List.set_cons_succ]
      refine wpAnyH_take (i := 8) (oi := ⟨some 58, .move (.tmp 1), _, _, _, _⟩) (v := (.int .i64 y)) rfl (by kernel_rfl) (by kernel_rfl) (by kernel_rfl) (fun _ _ _ h => h) (Or.inl ⟨by rfl, ?_⟩) trivial ?_
      focus
        intro w0 _
        go_simp
        (try simp only [if_neg hdn, hq1, hq2, hm1, hm2, hmw1, hmw2])
        all_goals with_reducible rfl
      try simp only [Act.put, List.setIfInBounds_toArray, List.set_cons_zero, List.set_cons_succ]
      refine wpAnyH_take (i := 9) (oi := ⟨some 59, .binOp .add _ (.tmp 57) (.tmp 58) _, _, _, _, _⟩) (v := (.int .i64 m1)) rfl (by kernel_rfl) (by kernel_rfl) (by kernel_rfl) (fun _ _ _ h => h) (Or.inl ⟨by rfl, ?_⟩) trivial ?_
      focus
        intro w0 _
        go_simp
        (try simp only [if_neg hdn, hq1, hq2, hm1, hm2, hmw1, hmw2])
        all_goals with_reducible rfl
      try simp only [Act.put, List.setIfInBounds_toArray, List.set_cons_zero, List.set_cons_succ]
      refine wpAnyH_take (i := 10) (oi := ⟨some 60, .move (.tmp 12), _, _, _, _⟩) (v := (.int .i64 d)) rfl (by kernel_rfl) (by kernel_rfl) (by kernel_rfl) (fun _ _ _ h => h) (Or.inl ⟨by rfl, ?_⟩) trivial ?_
      focus
        intro w0 _
        go_simp
        (try simp only [if_neg hdn, hq1, hq2, hm1, hm2, hmw1, hmw2])
        all_goals with_reducible rfl
      try simp only [Act.put, List.setIfInBounds_toArray, List.set_cons_zero, List.set_cons_succ]
      refine wpAnyH_take (i := 11) (oi := ⟨some 61, .binOp .quo _ (.tmp 59) (.tmp 60) _, _, _, _, _⟩) (v := (.int .i64 q2)) rfl (by kernel_rfl) (by kernel_rfl) (by kernel_rfl) (fun _ _ _ h => h) (Or.inl ⟨by rfl, ?_⟩) trivial ?_
      focus
        intro w0 _
        go_simp
        (try simp only [if_neg hdn, hq1, hq2, hm1, hm2, hmw1, hmw2])
        all_goals with_reducible rfl
      try simp only [Act.put, List.setIfInBounds_toArray, List.set_cons_zero, List.set_cons_succ]
      refine wpAnyH_take (i := 12) (oi := ⟨some 62, .move (.tmp 3), _, _, _, _⟩) (v := (.int .i64 pen)) rfl (by kernel_rfl) (by kernel_rfl) (by kernel_rfl) (fun _ _ _ h => h) (Or.inl ⟨by rfl, ?_⟩) trivial ?_
      focus
        intro w0 _
        go_simp
        (try simp only [if_neg hdn, hq1, hq2, hm1, hm2, hmw1, hmw2])
        all_goals with_reducible rfl
      try simp only [Act.put, List.setIfInBounds_toArray, List.set_cons_zero, List.set_cons_succ]
      refine wpAnyH_take (i := 13) (oi := ⟨some 63, .binOp .sub _ _ (.tmp 62) _, _, _, _, _⟩) (v := (.int .i64 m2)) rfl (by kernel_rfl) (by kernel_rfl) (by kernel_rfl) (fun _ _ _ h => h) (Or.inl ⟨by rfl, ?_⟩) trivial ?_
      focus
        intro w0 _
        go_simp
        (try simp only [if_neg hdn, hq1, hq2, hm1, hm2, hmw1, hmw2])
        all_goals with_reducible rfl
      try simp only [Act.put, List.setIfInBounds_toArray, List.set_cons_zero, List.set_cons_succ]
      refine wpAnyH_ready (rs := [6]) (by kernel_rfl) (by simp) ?_
      refine AllReadyH.cons (o := ⟨some 56, .call _, _, _, _, _⟩) rfl (fun K hK => ?_) AllReadyH.nil
      go_simp
      refine (HN1.out _).mono ?_
      rintro e w3 ⟨rfl, hbw3⟩
      go_wp2_with fail
      refine hK.out _ _ trivial (fun _ => ?_)
      clear hK K
      have HBw3 := Lib.hid (HBD.out.trans (hbw3.mono HBD.out.size))
      clear hbw3
      try simp only [Act.put, List.setIfInBounds_toArray, List.set_cons_zero, List.set_cons_succ]
      refine wpAnyH_ready (rs := [14]) (by kernel_rfl) (by simp) ?_
      refine AllReadyH.cons (o := ⟨some 64, .call _, _, _, _, _⟩) rfl (fun K hK => ?_) AllReadyH.nil
      go_simp
      refine (HN2.out _).mono ?_
      rintro e w4 ⟨rfl, hbw4⟩
      go_wp2_with fail
      refine hK.out _ _ trivial (fun _ => ?_)
      clear hK K
      have HBw4 := Lib.hid (HBw3.out.trans (hbw4.mono HBw3.out.size))
      clear hbw4
      try simp only [Act.put, List.setIfInBounds_toArray, List.set_cons_zero, List.set_cons_succ]
      refine wpAnyH_ready (rs := [15]) (by kernel_rfl) (by simp) ?_
      refine AllReadyH.cons (o := ⟨some 65, .buildSlice _ _ _, _, _, _, _⟩) rfl (fun K hK => ?_) AllReadyH.nil
      refine step_two rfl 56 64 rfl ⟨q1, c1⟩ ⟨q2, c2⟩ rfl rfl ?_
      refine hK.out _ _ trivial (fun _ => ?_)
      clear hK K
      try simp only [Act.put, List.setIfInBounds_toArray, List.set_cons_zero, List.set_cons_succ]
      refine wpAnyH_ready (rs := [16]) (by kernel_rfl) (by simp) ?_
      refine AllReadyH.cons (o := ⟨some 66, .call _, _, _, _, _⟩) rfl (fun K hK => ?_) AllReadyH.nil
      go_simp
      refine (l5Tidy_any (some ⟨w4.heap.size, 0, none⟩) 2 [⟨q1, c1⟩, ⟨q2, c2⟩] _ (two_has w4 _ _) (by simp) HOK.out).mono ?_
      rintro e w6 ⟨g, cp, rfl, ho, hb6⟩
      go_wp2_with fail
      refine hK.out _ _ trivial (fun _ => ?_)
      clear hK K
      have HB6 := Lib.hid ((HBw4.out.alloc HBw4.out.size (.cells (rowsW [⟨q1, c1⟩, ⟨q2, c2⟩]) 61)).trans (hb6.mono (HBw4.out.alloc HBw4.out.size _).size))
      have HO6 := Lib.hid (ho.mono (show w.heap.size ≤ _ from (HBw4.out.alloc HBw4.out.size (.cells (rowsW [⟨q1, c1⟩, ⟨q2, c2⟩]) 61)).size))
      clear ho hb6
      try simp only [Act.put, List.setIfInBounds_toArray, List.set_cons_zero, List.set_cons_succ]
      obtain ⟨R, hR⟩ : ∃ R, (tdR [⟨q1, c1⟩, ⟨q2, c2⟩]).getD [] = R := ⟨_, rfl⟩
      have hRl : R.length ≤ 12 := by rw [← hR]; exact tdR_len
      obtain ⟨b, hb⟩ : ∃ b, (tdR [⟨q1, c1⟩, ⟨q2, c2⟩]).isSome = b := ⟨_, rfl⟩
      rw [hR] at HO6
      rw [hR, hb]
      clear hR hb
      refine wpAnyH_take (i := 17) (oi := ⟨some 67, .extract (.tmp 66) 0, _, _, _, _⟩) (v := (.slice (some ⟨g, 0, none⟩) R.length cp)) rfl (by kernel_rfl) (by kernel_rfl) (by kernel_rfl) (fun _ _ _ h => h) (Or.inl ⟨by rfl, ?_⟩) trivial ?_
      focus
        intro w0 _
        go_simp
        (try simp only [if_neg hdn, hq1, hq2, hm1, hm2, hmw1, hmw2])
        all_goals with_reducible rfl
      try simp only [Act.put, List.setIfInBounds_toArray, List.set_cons_zero, List.set_cons_succ]
      refine wpAnyH_take (i := 18) (oi := ⟨some 68, .extract (.tmp 66) 1, _, _, _, _⟩) (v := (.bool b)) rfl (by kernel_rfl) (by kernel_rfl) (by kernel_rfl) (fun _ _ _ h => h) (Or.inl ⟨by rfl, ?_⟩) trivial ?_
      focus
        intro w0 _
        go_simp
        (try simp only [if_neg hdn, hq1, hq2, hm1, hm2, hmw1, hmw2])
        all_goals with_reducible rfl
      try simp only [Act.put, List.setIfInBounds_toArray, List.set_cons_zero, List.set_cons_succ]
      refine wpAnyH_take (i := 19) (oi := ⟨some 8, .assign (.tmp 67), _, _, _, _⟩) (v := (.slice (some ⟨g, 0, none⟩) R.length cp)) rfl (by kernel_rfl) (by kernel_rfl) (by kernel_rfl) (fun _ _ _ h => h) (Or.inl ⟨by rfl, ?_⟩) trivial ?_
      focus
        intro w0 _
        go_simp
        (try simp only [if_neg hdn, hq1, hq2, hm1, hm2, hmw1, hmw2])
        all_goals with_reducible rfl
      try simp only [Act.put, List.setIfInBounds_toArray, List.set_cons_zero, List.set_cons_succ]
      refine wpAnyH_take (i := 20) (oi := ⟨some 9, .assign (.tmp 68), _, _, _, _⟩) (v := (.bool b)) rfl (by kernel_rfl) (by kernel_rfl) (by kernel_rfl) (fun _ _ _ h => h) (Or.inl ⟨by rfl, ?_⟩) trivial ?_
      focus
        intro w0 _
        go_simp
        (try simp only [if_neg hdn, hq1, hq2, hm1, hm2, hmw1, hmw2])
        all_goals with_reducible rfl
      try simp only [Act.put, List.setIfInBounds_toArray, List.set_cons_zero, List.set_cons_succ]
      refine wpAnyH_done (by kernel_rfl) ?_ _
      go_wp2
      go_returns
      exact ⟨R, g, cp, b, rfl, hRl, HO6.out, HB6.out⟩
      -- END-RING7
  · obtain ⟨m1, hm1⟩ : ∃ m, (x : Int) - (y : Int) = m := ⟨_, rfl⟩
    obtain ⟨m2, hm2⟩ : ∃ m, (y : Int) - (x : Int) = m := ⟨_, rfl⟩
    have hmw1 : IntKind.i64.wrap m1 = m1 := IntWalk.i64_in _ (by omega)
    have hmw2 : IntKind.i64.wrap m2 = m2 := IntWalk.i64_in _ (by omega)
    obtain ⟨q2, hq2⟩ : ∃ q2, IntKind.i64.wrap (m2.tdiv (d : Int)) = q2 := ⟨_, rfl⟩
    have HN1 := Lib.hid (l9Number_any q1 m1)
    have HN2 := Lib.hid (l9Number_any q2 pen)
    have HC1 := Lib.hid (okC_gs (show -1000000 ≤ m1 ∧ m1 ≤ 1000000 by omega))
    have HC2 := Lib.hid (okC_gs (show -1000000 ≤ pen ∧ pen ≤ 1000000 by omega))
    obtain ⟨c1, hc1⟩ : ∃ c, C8.gs m1 0 = c := ⟨_, rfl⟩
    obtain ⟨c2, hc2⟩ : ∃ c, C8.gs pen 0 = c := ⟨_, rfl⟩
    rw [hc1] at HN1 HC1
    rw [hc2] at HN2 HC2
    clear hc1 hc2
    have HOK := Lib.hid (two_ok (q1 := q1) (q2 := q2) HC1.out HC2.out)
    go_enter Tryz.func64, Tryz.ntmps64
    go_wp2_with fail
    refine (HRC.out _).mono ?_
    rintro e w1 ⟨q, b, rfl, hb1⟩
    have HB1 := Lib.hid hb1
    clear hb1
    cases b
    · go_wp2_with fail
      go_returns
      exact ⟨[], _, 0, false, rfl, by simp, OwnsW.empty _ HB1.out.size, HB1.out.alloc HB1.out.size _⟩
    · go_wp2_with fail
      refine (l6In_any _ _ _ _).mono ?_
      rintro e w' ⟨rfl, rfl⟩
      rw [HIN.out]
      go_wp2_with fail
      refine (HG.out _).mono ?_
      rintro e w2 ⟨rfl, hb2⟩
      have HB2 := Lib.hid (HB1.out.trans (hb2.mono HB1.out.size))
      clear hb2
      go_wp2_with fail
      -- BEGIN-RING6
      refine wp_region_held_drew (S := fun _ => True) (by kernel_rfl) trivial (fun _ => ?_)
      have HBD := Lib.hid (HB2.out.drew)
      generalize w2.drew = wd at HBD ⊢
      refine wpAnyH_take (i := 0) (oi := ⟨some 32, .move (.tmp 1), _, _, _, _⟩) (v := (.int .i64 y)) rfl (by kernel_rfl) (by kernel_rfl) (by kernel_rfl) (fun _ _ _ h => h) (Or.inl ⟨by rfl, ?_⟩) trivial ?_
      focus
        intro w0 _
        go_simp
        (try simp only [if_neg hdn, hq1, hq2, hm1, hm2, hmw1, hmw2])
        all_goals with_reducible rfl
      try simp only [Act.put, List.setIfInBounds_toArray, List.set_cons_zero, List.set_cons_succ]
      refine wpAnyH_take (i := 1) (oi := ⟨some 33, .move (.tmp 12), _, _, _, _⟩) (v := (.int .i64 d)) rfl (by kernel_rfl) (by kernel_rfl) (by kernel_rfl) (fun _ _ _ h => h) (Or.inl ⟨by rfl, ?_⟩) trivial ?_
      focus
        intro w0 _
        go_simp
        (try simp only [if_neg hdn, hq1, hq2, hm1, hm2, hmw1, hmw2])
        all_goals with_reducible rfl
      try simp only [Act.put, List.setIfInBounds_toArray, List.set_cons_zero, List.set_cons_succ]
      refine wpAnyH_take (i := 2) (oi := ⟨some 34, .binOp .quo _ (.tmp 32) (.tmp 33) _, _, _, _, _⟩) (v := (.int .i64 q1)) rfl (by kernel_rfl) (by kernel_rfl) (by kernel_rfl) (fun _ _ _ h => h) (Or.inl ⟨by rfl, ?_⟩) trivial ?_
      focus
        intro w0 _
        go_simp
        (try simp only [if_neg hdn, hq1, hq2, hm1, hm2, hmw1, hmw2])
        all_goals with_reducible rfl
      try simp only [Act.put, List.setIfInBounds_toArray, List.set_cons_zero, List.set_cons_succ]
      refine wpAnyH_take (i := 3) (oi := ⟨some 35, .move (.tmp 0), _, _, _, _⟩) (v := (.int .i64 x)) rfl (by kernel_rfl) (by kernel_rfl) (by kernel_rfl) (fun _ _ _ h => h) (Or.inl ⟨by rfl, ?_⟩) trivial ?_
      focus
        intro w0 _
        go_simp
        (try simp only [if_neg hdn, hq1, hq2, hm1, hm2, hmw1, hmw2])
        all_goals with_reducible rfl
      try simp only [Act.put, List.setIfInBounds_toArray, List.set_cons_zero, List.set_cons_succ]
      refine wpAnyH_take (i := 4) (oi := ⟨some 36, .move (.tmp 1), _, _, _, _⟩) (v := (.int .i64 y)) rfl (by kernel_rfl) (by kernel_rfl) (by kernel_rfl) (fun _ _ _ h => h) (Or.inl ⟨by rfl, ?_⟩) trivial ?_
      focus
        intro w0 _
        go_simp
        (try simp only [if_neg hdn, hq1, hq2, hm1, hm2, hmw1, hmw2])
        all_goals with_reducible rfl
      try simp only [Act.put, List.setIfInBounds_toArray, List.set_cons_zero, List.set_cons_succ]
      refine wpAnyH_take (i := 5) (oi := ⟨some 37, .binOp .sub _ (.tmp 35) (.tmp 36) _, _, _, _, _⟩) (v := (.int .i64 m1)) rfl (by kernel_rfl) (by kernel_rfl) (by kernel_rfl) (fun _ _ _ h => h) (Or.inl ⟨by rfl, ?_⟩) trivial ?_
      focus
        intro w0 _
        go_simp
        (try simp only [if_neg hdn, hq1, hq2, hm1, hm2, hmw1, hmw2])
        all_goals with_reducible rfl
      try simp only [Act.put, List.setIfInBounds_toArray, List.set_cons_zero, List.set_cons_succ]
      refine wpAnyH_take (i := 7) (oi := ⟨some 39, .move (.tmp 1), _, _, _, _⟩) (v := (.int .i64 y)) rfl (by kernel_rfl) (by kernel_rfl) (by kernel_rfl) (fun _ _ _ h => h) (Or.inl ⟨by rfl, ?_⟩) trivial ?_
      focus
        intro w0 _
        go_simp
        (try simp only [if_neg hdn, hq1, hq2, hm1, hm2, hmw1, hmw2])
        all_goals with_reducible rfl
      try simp only [Act.put, List.setIfInBounds_toArray, List.set_cons_zero, List.set_cons_succ]
      refine wpAnyH_take (i := 8) (oi := ⟨some 40, .move (.tmp 0), _, _, _, _⟩) (v := (.int .i64 x)) rfl (by kernel_rfl) (by kernel_rfl) (by kernel_rfl) (fun _ _ _ h => h) (Or.inl ⟨by rfl, ?_⟩) trivial ?_
      focus
        intro w0 _
        go_simp
        (try simp only [if_neg hdn, hq1, hq2, hm1, hm2, hmw1, hmw2])
        all_goals with_reducible rfl
      try simp only [Act.put, List.setIfInBounds_toArray, List.set_cons_zero, List.set_cons_succ]
      refine wpAnyH_take (i := 9) (oi := ⟨some 41, .binOp .sub _ (.tmp 39) (.tmp 40) _, _, _, _, _⟩) (v := (.int .i64 m2)) rfl (by kernel_rfl) (by kernel_rfl) (by kernel_rfl) (fun _ _ _ h => h) (Or.inl ⟨by rfl, ?_⟩) trivial ?_
      focus
        intro w0 _
        go_simp
        (try simp only [if_neg hdn, hq1, hq2, hm1, hm2, hmw1, hmw2])
        all_goals with_reducible rfl
      try simp only [Act.put, List.setIfInBounds_toArray, List.set_cons_zero, List.set_cons_succ]
      refine wpAnyH_take (i := 10) (oi := ⟨some 42, .move (.tmp 12), _, _, _, _⟩) (v := (.int .i64 d)) rfl (by kernel_rfl) (by kernel_rfl) (by kernel_rfl) (fun _ _ _ h => h) (Or.inl ⟨by rfl, ?_⟩) trivial ?_
      focus
        intro w0 _
        go_simp
        (try simp only [if_neg hdn, hq1, hq2, hm1, hm2, hmw1, hmw2])
        all_goals with_reducible rfl
      try simp only [Act.put, List.setIfInBounds_toArray, List.set_cons_zero, List.set_cons_succ]
      refine wpAnyH_take (i := 11) (oi := ⟨some 43, .binOp .quo _ (.tmp 41) (.tmp 42) _, _, _, _, _⟩) (v := (.int .i64 q2)) rfl (by kernel_rfl) (by kernel_rfl) (by kernel_rfl) (fun _ _ _ h => h) (Or.inl ⟨by rfl, ?_⟩) trivial ?_
      focus
        intro w0 _
        go_simp
        (try simp only [if_neg hdn, hq1, hq2, hm1, hm2, hmw1, hmw2])
        all_goals with_reducible rfl
      try simp only [Act.put, List.setIfInBounds_toArray, List.set_cons_zero, List.set_cons_succ]
      refine wpAnyH_take (i := 12) (oi := ⟨some 44, .move (.tmp 3), _, _, _, _⟩) (v := (.int .i64 pen)) rfl (by kernel_rfl) (by kernel_rfl) (by kernel_rfl) (fun _ _ _ h => h) (Or.inl ⟨by rfl, ?_⟩) trivial ?_
      focus
        intro w0 _
        go_simp
        (try simp only [if_neg hdn, hq1, hq2, hm1, hm2, hmw1, hmw2])
        all_goals with_reducible rfl
      try simp only [Act.put, List.setIfInBounds_toArray, List.set_cons_zero, List.set_cons_succ]
      refine wpAnyH_ready (rs := [6]) (by kernel_rfl) (by simp) ?_
      refine AllReadyH.cons (o := ⟨some 38, .call _, _, _, _, _⟩) rfl (fun K hK => ?_) AllReadyH.nil
      go_simp
      refine (HN1.out _).mono ?_
      rintro e w3 ⟨rfl, hbw3⟩
      go_wp2_with fail
      refine hK.out _ _ trivial (fun _ => ?_)
      clear hK K
      have HBw3 := Lib.hid (HBD.out.trans (hbw3.mono HBD.out.size))
      clear hbw3
      try simp only [Act.put, List.setIfInBounds_toArray, List.set_cons_zero, List.set_cons_succ]
      refine wpAnyH_ready (rs := [13]) (by kernel_rfl) (by simp) ?_
      refine AllReadyH.cons (o := ⟨some 45, .call _, _, _, _, _⟩) rfl (fun K hK => ?_) AllReadyH.nil
      go_simp
      refine (HN2.out _).mono ?_
      rintro e w4 ⟨rfl, hbw4⟩
      go_wp2_with fail
      refine hK.out _ _ trivial (fun _ => ?_)
      clear hK K
      have HBw4 := Lib.hid (HBw3.out.trans (hbw4.mono HBw3.out.size))
      clear hbw4
      try simp only [Act.put, List.setIfInBounds_toArray, List.set_cons_zero, List.set_cons_succ]
      refine wpAnyH_ready (rs := [14]) (by kernel_rfl) (by simp) ?_
      refine AllReadyH.cons (o := ⟨some 46, .buildSlice _ _ _, _, _, _, _⟩) rfl (fun K hK => ?_) AllReadyH.nil
      refine step_two rfl 38 45 rfl ⟨q1, c1⟩ ⟨q2, c2⟩ rfl rfl ?_
      refine hK.out _ _ trivial (fun _ => ?_)
      clear hK K
      try simp only [Act.put, List.setIfInBounds_toArray, List.set_cons_zero, List.set_cons_succ]
      refine wpAnyH_ready (rs := [15]) (by kernel_rfl) (by simp) ?_
      refine AllReadyH.cons (o := ⟨some 47, .call _, _, _, _, _⟩) rfl (fun K hK => ?_) AllReadyH.nil
      go_simp
      refine (l5Tidy_any (some ⟨w4.heap.size, 0, none⟩) 2 [⟨q1, c1⟩, ⟨q2, c2⟩] _ (two_has w4 _ _) (by simp) HOK.out).mono ?_
      rintro e w6 ⟨g, cp, rfl, ho, hb6⟩
      go_wp2_with fail
      refine hK.out _ _ trivial (fun _ => ?_)
      clear hK K
      have HB6 := Lib.hid ((HBw4.out.alloc HBw4.out.size (.cells (rowsW [⟨q1, c1⟩, ⟨q2, c2⟩]) 61)).trans (hb6.mono (HBw4.out.alloc HBw4.out.size _).size))
      have HO6 := Lib.hid (ho.mono (show w.heap.size ≤ _ from (HBw4.out.alloc HBw4.out.size (.cells (rowsW [⟨q1, c1⟩, ⟨q2, c2⟩]) 61)).size))
      clear ho hb6
      try simp only [Act.put, List.setIfInBounds_toArray, List.set_cons_zero, List.set_cons_succ]
      obtain ⟨R, hR⟩ : ∃ R, (tdR [⟨q1, c1⟩, ⟨q2, c2⟩]).getD [] = R := ⟨_, rfl⟩
      have hRl : R.length ≤ 12 := by rw [← hR]; exact tdR_len
      obtain ⟨b, hb⟩ : ∃ b, (tdR [⟨q1, c1⟩, ⟨q2, c2⟩]).isSome = b := ⟨_, rfl⟩
      rw [hR] at HO6
      rw [hR, hb]
      clear hR hb
      refine wpAnyH_take (i := 16) (oi := ⟨some 48, .extract (.tmp 47) 0, _, _, _, _⟩) (v := (.slice (some ⟨g, 0, none⟩) R.length cp)) rfl (by kernel_rfl) (by kernel_rfl) (by kernel_rfl) (fun _ _ _ h => h) (Or.inl ⟨by rfl, ?_⟩) trivial ?_
      focus
        intro w0 _
        go_simp
        (try simp only [if_neg hdn, hq1, hq2, hm1, hm2, hmw1, hmw2])
        all_goals with_reducible rfl
      try simp only [Act.put, List.setIfInBounds_toArray, List.set_cons_zero, List.set_cons_succ]
      refine wpAnyH_take (i := 17) (oi := ⟨some 49, .extract (.tmp 47) 1, _, _, _, _⟩) (v := (.bool b)) rfl (by kernel_rfl) (by kernel_rfl) (by kernel_rfl) (fun _ _ _ h => h) (Or.inl ⟨by rfl, ?_⟩) trivial ?_
      focus
        intro w0 _
        go_simp
        (try simp only [if_neg hdn, hq1, hq2, hm1, hm2, hmw1, hmw2])
        all_goals with_reducible rfl
      try simp only [Act.put, List.setIfInBounds_toArray, List.set_cons_zero, List.set_cons_succ]
      refine wpAnyH_take (i := 18) (oi := ⟨some 8, .assign (.tmp 48), _, _, _, _⟩) (v := (.slice (some ⟨g, 0, none⟩) R.length cp)) rfl (by kernel_rfl) (by kernel_rfl) (by kernel_rfl) (fun _ _ _ h => h) (Or.inl ⟨by rfl, ?_⟩) trivial ?_
      focus
        intro w0 _
        go_simp
        (try simp only [if_neg hdn, hq1, hq2, hm1, hm2, hmw1, hmw2])
        all_goals with_reducible rfl
      try simp only [Act.put, List.setIfInBounds_toArray, List.set_cons_zero, List.set_cons_succ]
      refine wpAnyH_take (i := 19) (oi := ⟨some 9, .assign (.tmp 49), _, _, _, _⟩) (v := (.bool b)) rfl (by kernel_rfl) (by kernel_rfl) (by kernel_rfl) (fun _ _ _ h => h) (Or.inl ⟨by rfl, ?_⟩) trivial ?_
      focus
        intro w0 _
        go_simp
        (try simp only [if_neg hdn, hq1, hq2, hm1, hm2, hmw1, hmw2])
        all_goals with_reducible rfl
      try simp only [Act.put, List.setIfInBounds_toArray, List.set_cons_zero, List.set_cons_succ]
      refine wpAnyH_done (by kernel_rfl) ?_ _
      go_wp2
      go_returns
      exact ⟨R, g, cp, b, rfl, hRl, HO6.out, HB6.out⟩
      -- END-RING6
end Go.Proofs.YthojdoiffkdikaaGreatDoor
