/- laws.FnIm returns true, whatever the code. Condition: none. -/
import Derived.Test.YtklmlodapinflaaDrawG
import Derived.Test.YtklmlodapinflaaSurdH
import Derived.Test.YtklmlodapinflaaCycS
import Derived.Test.YtklmlodapinflaaSurdEq
import Derived.Test.YtklmlodapinflaaLawA
import Derived.Test.YtklmlodapinflaaDeep
import Derived.Deep.RegionWith
import Derived.Deep.RegionHeld3
import Derived.IntWalk
namespace Go.Proofs.Ytklmlodapinflaa
open Go.ChangeShapes Go.WideShapes Go.ChangeAt Go.RowKit Go.Joins
attribute [local go_sem ↓] run_eqlS run_neqS

theorem im_facts {c : C8} (h : siOk c = true) : c.siR = c.im ∧ S4.lim 10000000 c.im ∧ (miOk c = true → C8.miR c = c.mir ∧ siOk c.mir = true ∧ c.mir.siR = c.im.neg) ∧ eqV c.im.a c.im.b c.im.c c.im.d 0 0 0 0 = reOk c := by
  have h' := h
  simp only [siOk, Bool.and_eq_true] at h'
  obtain ⟨h1, h2⟩ := h'
  refine ⟨by rw [C8.siR, if_pos h], okT_lim.1 h2, fun h3 => ?_, ?_⟩
  · have h4 := h3
    simp only [miOk, Bool.and_eq_true] at h4
    have h5 : siOk c.mir = true := by simp only [siOk, Bool.and_eq_true, im_mir]; exact ⟨h4.2, okT_neg h2⟩
    exact ⟨by rw [C8.miR, if_pos h3], h5, by rw [C8.siR, if_pos h5, im_mir]⟩
  · rw [Bool.eq_iff_iff]
    simp only [eqV, reOk, h1, Bool.true_and, eqC_iff, ← im_zero, Bool.and_eq_true, decide_eq_true_eq]
    constructor
    · rintro ⟨⟨⟨e1, e2⟩, e3⟩, e4⟩; exact S4.ext' e1 e2 e3 e4
    · intro e; rw [e]; exact ⟨⟨⟨rfl, rfl⟩, rfl⟩, rfl⟩

set_option maxRecDepth 100000 in
set_option maxHeartbeats 4000000 in
theorem fnIm_any (a : Option Addr) (len cap : Nat) (W : World) (hv : HasB W W.heap.size a len) (hc : len ≤ cap) :
    Calls Try.prog 3 #[.slice a len cap] W fun e w' => e = .returned (.bool true) ∧ Below W.heap.size W w' := by
  by_cases hl : len ≤ 1048576
  · go_enter Try.func3, Try.ntmps3
    go_wp2_with (go_at_call 14; refine (drawSurdIm_any _ _ _ W.heap.size _ W hv (by repeat' (first | (with_reducible assumption) | (with_reducible exact Below.refl _ _) | (with_reducible refine Below.alloc ?_ ?_ _) | (with_reducible refine below_more ?_ ?_ _ _) | (with_reducible refine below_rd ?_ ?_ _ _) | (with_reducible refine Below.drew ?_) | (first | omega | (simp; omega) | (simp; done)))) (by (first | omega | (simp; omega) | (simp; done))) hl hc).mono ?_; rintro e w' ⟨⟨c, rfl⟩, hb⟩; obtain ⟨os, dd, rfl⟩ := more_of_below hb; clear hb)
    rcases Bool.eq_false_or_eq_true (siOk c) with h | h
    · obtain ⟨f1, ⟨⟨b1, b2⟩, ⟨b3, b4⟩, ⟨b5, b6⟩, ⟨b7, b8⟩⟩, f2, f3⟩ := im_facts h
      rcases Bool.eq_false_or_eq_true (reOk c) with t | t
      all_goals
        rw [t] at f3
        rcases Bool.eq_false_or_eq_true (miOk c) with q | q
      · obtain ⟨f4, f5, f6⟩ := f2 q
        have n1 : c.mir.siR.a = -c.im.a := by rw [f6]; rfl
        have n2 : c.mir.siR.b = -c.im.b := by rw [f6]; rfl
        have n3 : c.mir.siR.c = -c.im.c := by rw [f6]; rfl
        have n4 : c.mir.siR.d = -c.im.d := by rw [f6]; rfl
        clear f2 f6
        have w1 : IntKind.i64.wrap (0 - c.im.a) = -c.im.a := by rw [Int.zero_sub]; exact IntWalk.i64_in _ (by omega)
        have w2 : IntKind.i64.wrap (0 - c.im.b) = -c.im.b := by rw [Int.zero_sub]; exact IntWalk.i64_in _ (by omega)
        have w3 : IntKind.i64.wrap (0 - c.im.c) = -c.im.c := by rw [Int.zero_sub]; exact IntWalk.i64_in _ (by omega)
        have w4 : IntKind.i64.wrap (0 - c.im.d) = -c.im.d := by rw [Int.zero_sub]; exact IntWalk.i64_in _ (by omega)
        have v1 : IntKind.i64.wrap (-c.im.a) = -c.im.a := by exact IntWalk.i64_in _ (by omega)
        have v2 : IntKind.i64.wrap (-c.im.b) = -c.im.b := by exact IntWalk.i64_in _ (by omega)
        have v3 : IntKind.i64.wrap (-c.im.c) = -c.im.c := by exact IntWalk.i64_in _ (by omega)
        have v4 : IntKind.i64.wrap (-c.im.d) = -c.im.d := by exact IntWalk.i64_in _ (by omega)
        go_wp2_with fail
        (go_at_call 15; refine (surdIm_any _ _).mono ?_; rintro e w' ⟨rfl, hb⟩; obtain ⟨os1, d1, rfl⟩ := more_of_below hb; clear hb)
        go_wp2_with fail
        (go_at_call 16; refine (specSurdIm_any _ _).mono ?_; rintro e w' ⟨rfl, hb⟩; obtain ⟨os2, d2, rfl⟩ := more_of_below hb; clear hb)
        go_wp2_with fail
        (go_at_call 17; refine (cycMirror_any _ _).mono ?_; rintro e w' ⟨rfl, hb⟩; obtain ⟨os3, d3, rfl⟩ := more_of_below hb; clear hb)
        go_wp2_with fail
        (go_at_call 15; refine (surdIm_any _ _).mono ?_; rintro e w' ⟨rfl, hb⟩; obtain ⟨os4, d4, rfl⟩ := more_of_below hb; clear hb)
        go_wp2_with fail
        go_region_held3 (fun w' => (w'.cell? ⟨W.heap.size + os.size, 0, none⟩ = some (.int .i64 c.c0) ∧ w'.cell? ⟨W.heap.size + os.size, 1, none⟩ = some (.int .i64 c.c1) ∧ w'.cell? ⟨W.heap.size + os.size, 2, none⟩ = some (.int .i64 c.c2) ∧ w'.cell? ⟨W.heap.size + os.size, 3, none⟩ = some (.int .i64 c.c3) ∧ w'.cell? ⟨W.heap.size + os.size, 4, none⟩ = some (.int .i64 c.c4) ∧ w'.cell? ⟨W.heap.size + os.size, 5, none⟩ = some (.int .i64 c.c5) ∧ w'.cell? ⟨W.heap.size + os.size, 6, none⟩ = some (.int .i64 c.c6) ∧ w'.cell? ⟨W.heap.size + os.size, 7, none⟩ = some (.int .i64 c.c7)) ∧ (w'.cell? ⟨W.heap.size + os.size + 1 + os1.size, 0, none⟩ = some (.int .i64 c.im.a) ∧ w'.cell? ⟨W.heap.size + os.size + 1 + os1.size, 1, none⟩ = some (.int .i64 c.im.b) ∧ w'.cell? ⟨W.heap.size + os.size + 1 + os1.size, 2, none⟩ = some (.int .i64 c.im.c) ∧ w'.cell? ⟨W.heap.size + os.size + 1 + os1.size, 3, none⟩ = some (.int .i64 c.im.d)) ∧ (w'.cell? ⟨W.heap.size + os.size + 1 + os1.size + 1 + os2.size + 1 + os3.size + 1 + os4.size, 0, none⟩ = some (.int .i64 (-c.im.a)) ∧ w'.cell? ⟨W.heap.size + os.size + 1 + os1.size + 1 + os2.size + 1 + os3.size + 1 + os4.size, 1, none⟩ = some (.int .i64 (-c.im.b)) ∧ w'.cell? ⟨W.heap.size + os.size + 1 + os1.size + 1 + os2.size + 1 + os3.size + 1 + os4.size, 2, none⟩ = some (.int .i64 (-c.im.c)) ∧ w'.cell? ⟨W.heap.size + os.size + 1 + os1.size + 1 + os2.size + 1 + os3.size + 1 + os4.size, 3, none⟩ = some (.int .i64 (-c.im.d)))) (simp [go_sem, *])
          (first | (go_at_call 18; refine (cycReal_any _ _).mono ?_; rintro e w' ⟨rfl, hb⟩; obtain ⟨os, d, rfl⟩ := more_of_below hb; clear hb))
        all_goals
          go_wp2
          go_ret
          exact ⟨rfl, by repeat' (first | (with_reducible exact Below.refl _ _) | (with_reducible assumption) | (with_reducible refine Below.alloc ?_ ?_ _) | (with_reducible refine below_more ?_ ?_ _ _) | (with_reducible refine below_rd ?_ ?_ _ _) | (with_reducible refine Below.drew ?_) | (with_reducible refine Below.setCell ?_ ?_ _) | go_size)⟩
      · clear f2
        go_wp2_with fail
        (go_at_call 15; refine (surdIm_any _ _).mono ?_; rintro e w' ⟨rfl, hb⟩; obtain ⟨os1, d1, rfl⟩ := more_of_below hb; clear hb)
        go_wp2_with fail
        (go_at_call 16; refine (specSurdIm_any _ _).mono ?_; rintro e w' ⟨rfl, hb⟩; obtain ⟨os2, d2, rfl⟩ := more_of_below hb; clear hb)
        go_wp2_with fail
        (go_at_call 17; refine (cycMirror_any _ _).mono ?_; rintro e w' ⟨rfl, hb⟩; obtain ⟨os3, d3, rfl⟩ := more_of_below hb; clear hb)
        go_wp2_with fail
        (go_at_call 15; refine (surdIm_any _ _).mono ?_; rintro e w' ⟨rfl, hb⟩; obtain ⟨os4, d4, rfl⟩ := more_of_below hb; clear hb)
        go_wp2_with fail
        refine wp_region_held_drew (S := (fun w' => (w'.cell? ⟨W.heap.size + os.size, 0, none⟩ = some (.int .i64 c.c0) ∧ w'.cell? ⟨W.heap.size + os.size, 1, none⟩ = some (.int .i64 c.c1) ∧ w'.cell? ⟨W.heap.size + os.size, 2, none⟩ = some (.int .i64 c.c2) ∧ w'.cell? ⟨W.heap.size + os.size, 3, none⟩ = some (.int .i64 c.c3) ∧ w'.cell? ⟨W.heap.size + os.size, 4, none⟩ = some (.int .i64 c.c4) ∧ w'.cell? ⟨W.heap.size + os.size, 5, none⟩ = some (.int .i64 c.c5) ∧ w'.cell? ⟨W.heap.size + os.size, 6, none⟩ = some (.int .i64 c.c6) ∧ w'.cell? ⟨W.heap.size + os.size, 7, none⟩ = some (.int .i64 c.c7)) ∧ (w'.cell? ⟨W.heap.size + os.size + 1 + os1.size, 0, none⟩ = some (.int .i64 c.im.a) ∧ w'.cell? ⟨W.heap.size + os.size + 1 + os1.size, 1, none⟩ = some (.int .i64 c.im.b) ∧ w'.cell? ⟨W.heap.size + os.size + 1 + os1.size, 2, none⟩ = some (.int .i64 c.im.c) ∧ w'.cell? ⟨W.heap.size + os.size + 1 + os1.size, 3, none⟩ = some (.int .i64 c.im.d)) ∧ (w'.cell? ⟨W.heap.size + os.size + 1 + os1.size + 1 + os2.size + 1 + os3.size + 1 + os4.size, 0, none⟩ = some (.int .i64 (C8.siR (C8.miR c)).a) ∧ w'.cell? ⟨W.heap.size + os.size + 1 + os1.size + 1 + os2.size + 1 + os3.size + 1 + os4.size, 1, none⟩ = some (.int .i64 (C8.siR (C8.miR c)).b) ∧ w'.cell? ⟨W.heap.size + os.size + 1 + os1.size + 1 + os2.size + 1 + os3.size + 1 + os4.size, 2, none⟩ = some (.int .i64 (C8.siR (C8.miR c)).c) ∧ w'.cell? ⟨W.heap.size + os.size + 1 + os1.size + 1 + os2.size + 1 + os3.size + 1 + os4.size, 3, none⟩ = some (.int .i64 (C8.siR (C8.miR c)).d)))) (by kernel_rfl) (by simp [go_sem, *]) (fun hHeld => ?_)
        refine wpAnyH_take (i := 0) (oi := ⟨some 57, .move (.tmp 9), _, _, _, _⟩) (v := ?_) rfl (by kernel_rfl) (by kernel_rfl) (by kernel_rfl) (fun _ _ _ h => h) (Or.inl ⟨by rfl, ?_⟩) (by assumption) ?_
        rotate_left
        focus
          intro w hSw
          (try dsimp only at hSw)
          go_simp
          all_goals with_reducible rfl
        try simp only [Act.put, List.setIfInBounds_toArray, List.set_cons_zero, List.set_cons_succ]
        refine wpAnyH_take (i := 1) (oi := ⟨some 58, .unOp .not _ (.tmp 57), _, _, _, _⟩) (v := ?_) rfl (by kernel_rfl) (by kernel_rfl) (by kernel_rfl) (fun _ _ _ h => h) (Or.inl ⟨by rfl, ?_⟩) (by assumption) ?_
        rotate_left
        focus
          intro w hSw
          (try dsimp only at hSw)
          go_simp
          all_goals with_reducible rfl
        try simp only [Act.put, List.setIfInBounds_toArray, List.set_cons_zero, List.set_cons_succ]
        refine wpAnyH_take (i := 2) (oi := ⟨some 59, .move (.tmp 58), _, _, _, _⟩) (v := ?_) rfl (by kernel_rfl) (by kernel_rfl) (by kernel_rfl) (fun _ _ _ h => h) (Or.inl ⟨by rfl, ?_⟩) (by assumption) ?_
        rotate_left
        focus
          intro w hSw
          (try dsimp only at hSw)
          go_simp
          all_goals with_reducible rfl
        try simp only [Act.put, List.setIfInBounds_toArray, List.set_cons_zero, List.set_cons_succ]
        refine wpAnyH_take (i := 3) (oi := ⟨some 60, _, _, _, _, _⟩) (v := undef) rfl (by kernel_rfl) (by kernel_rfl) (by kernel_rfl) (fun _ _ _ h => h) (Or.inr ⟨by rfl, rfl⟩) (by assumption) ?_
        try simp only [Act.put, List.setIfInBounds_toArray, List.set_cons_zero, List.set_cons_succ]
        refine wpAnyH_take (i := 4) (oi := ⟨some 61, _, _, _, _, _⟩) (v := undef) rfl (by kernel_rfl) (by kernel_rfl) (by kernel_rfl) (fun _ _ _ h => h) (Or.inr ⟨by rfl, rfl⟩) (by assumption) ?_
        try simp only [Act.put, List.setIfInBounds_toArray, List.set_cons_zero, List.set_cons_succ]
        refine wpAnyH_take (i := 5) (oi := ⟨some 62, _, _, _, _, _⟩) (v := undef) rfl (by kernel_rfl) (by kernel_rfl) (by kernel_rfl) (fun _ _ _ h => h) (Or.inr ⟨by rfl, rfl⟩) (by assumption) ?_
        try simp only [Act.put, List.setIfInBounds_toArray, List.set_cons_zero, List.set_cons_succ]
        refine wpAnyH_take (i := 6) (oi := ⟨some 63, _, _, _, _, _⟩) (v := undef) rfl (by kernel_rfl) (by kernel_rfl) (by kernel_rfl) (fun _ _ _ h => h) (Or.inr ⟨by rfl, rfl⟩) (by assumption) ?_
        try simp only [Act.put, List.setIfInBounds_toArray, List.set_cons_zero, List.set_cons_succ]
        refine wpAnyH_take (i := 7) (oi := ⟨some 64, _, _, _, _, _⟩) (v := undef) rfl (by kernel_rfl) (by kernel_rfl) (by kernel_rfl) (fun _ _ _ h => h) (Or.inr ⟨by rfl, rfl⟩) (by assumption) ?_
        try simp only [Act.put, List.setIfInBounds_toArray, List.set_cons_zero, List.set_cons_succ]
        refine wpAnyH_take (i := 8) (oi := ⟨some 65, _, _, _, _, _⟩) (v := undef) rfl (by kernel_rfl) (by kernel_rfl) (by kernel_rfl) (fun _ _ _ h => h) (Or.inr ⟨by rfl, rfl⟩) (by assumption) ?_
        try simp only [Act.put, List.setIfInBounds_toArray, List.set_cons_zero, List.set_cons_succ]
        refine wpAnyH_take (i := 9) (oi := ⟨some 66, _, _, _, _, _⟩) (v := undef) rfl (by kernel_rfl) (by kernel_rfl) (by kernel_rfl) (fun _ _ _ h => h) (Or.inr ⟨by rfl, rfl⟩) (by assumption) ?_
        try simp only [Act.put, List.setIfInBounds_toArray, List.set_cons_zero, List.set_cons_succ]
        refine wpAnyH_take (i := 10) (oi := ⟨some 67, _, _, _, _, _⟩) (v := undef) rfl (by kernel_rfl) (by kernel_rfl) (by kernel_rfl) (fun _ _ _ h => h) (Or.inr ⟨by rfl, rfl⟩) (by assumption) ?_
        try simp only [Act.put, List.setIfInBounds_toArray, List.set_cons_zero, List.set_cons_succ]
        refine wpAnyH_take (i := 11) (oi := ⟨some 68, _, _, _, _, _⟩) (v := undef) rfl (by kernel_rfl) (by kernel_rfl) (by kernel_rfl) (fun _ _ _ h => h) (Or.inr ⟨by rfl, rfl⟩) (by assumption) ?_
        try simp only [Act.put, List.setIfInBounds_toArray, List.set_cons_zero, List.set_cons_succ]
        refine wpAnyH_take (i := 12) (oi := ⟨some 69, _, _, _, _, _⟩) (v := undef) rfl (by kernel_rfl) (by kernel_rfl) (by kernel_rfl) (fun _ _ _ h => h) (Or.inr ⟨by rfl, rfl⟩) (by assumption) ?_
        try simp only [Act.put, List.setIfInBounds_toArray, List.set_cons_zero, List.set_cons_succ]
        refine wpAnyH_take (i := 13) (oi := ⟨some 70, _, _, _, _, _⟩) (v := undef) rfl (by kernel_rfl) (by kernel_rfl) (by kernel_rfl) (fun _ _ _ h => h) (Or.inr ⟨by rfl, rfl⟩) (by assumption) ?_
        try simp only [Act.put, List.setIfInBounds_toArray, List.set_cons_zero, List.set_cons_succ]
        refine wpAnyH_take (i := 14) (oi := ⟨some 71, _, _, _, _, _⟩) (v := undef) rfl (by kernel_rfl) (by kernel_rfl) (by kernel_rfl) (fun _ _ _ h => h) (Or.inr ⟨by rfl, rfl⟩) (by assumption) ?_
        try simp only [Act.put, List.setIfInBounds_toArray, List.set_cons_zero, List.set_cons_succ]
        refine wpAnyH_take (i := 15) (oi := ⟨some 72, _, _, _, _, _⟩) (v := undef) rfl (by kernel_rfl) (by kernel_rfl) (by kernel_rfl) (fun _ _ _ h => h) (Or.inr ⟨by rfl, rfl⟩) (by assumption) ?_
        try simp only [Act.put, List.setIfInBounds_toArray, List.set_cons_zero, List.set_cons_succ]
        refine wpAnyH_take (i := 16) (oi := ⟨some 73, _, _, _, _, _⟩) (v := undef) rfl (by kernel_rfl) (by kernel_rfl) (by kernel_rfl) (fun _ _ _ h => h) (Or.inr ⟨by rfl, rfl⟩) (by assumption) ?_
        try simp only [Act.put, List.setIfInBounds_toArray, List.set_cons_zero, List.set_cons_succ]
        refine wpAnyH_take (i := 17) (oi := ⟨some 74, _, _, _, _, _⟩) (v := undef) rfl (by kernel_rfl) (by kernel_rfl) (by kernel_rfl) (fun _ _ _ h => h) (Or.inr ⟨by rfl, rfl⟩) (by assumption) ?_
        try simp only [Act.put, List.setIfInBounds_toArray, List.set_cons_zero, List.set_cons_succ]
        refine wpAnyH_take (i := 18) (oi := ⟨some 75, _, _, _, _, _⟩) (v := undef) rfl (by kernel_rfl) (by kernel_rfl) (by kernel_rfl) (fun _ _ _ h => h) (Or.inr ⟨by rfl, rfl⟩) (by assumption) ?_
        try simp only [Act.put, List.setIfInBounds_toArray, List.set_cons_zero, List.set_cons_succ]
        refine wpAnyH_take (i := 19) (oi := ⟨some 76, _, _, _, _, _⟩) (v := undef) rfl (by kernel_rfl) (by kernel_rfl) (by kernel_rfl) (fun _ _ _ h => h) (Or.inr ⟨by rfl, rfl⟩) (by assumption) ?_
        try simp only [Act.put, List.setIfInBounds_toArray, List.set_cons_zero, List.set_cons_succ]
        refine wpAnyH_take (i := 20) (oi := ⟨some 77, _, _, _, _, _⟩) (v := undef) rfl (by kernel_rfl) (by kernel_rfl) (by kernel_rfl) (fun _ _ _ h => h) (Or.inr ⟨by rfl, rfl⟩) (by assumption) ?_
        try simp only [Act.put, List.setIfInBounds_toArray, List.set_cons_zero, List.set_cons_succ]
        refine wpAnyH_take (i := 21) (oi := ⟨some 78, .pick (.tmp 59) _ (.tmp 77), _, _, _, _⟩) (v := ?_) rfl (by kernel_rfl) (by kernel_rfl) (by kernel_rfl) (fun _ _ _ h => h) (Or.inl ⟨by rfl, ?_⟩) (by assumption) ?_
        rotate_left
        focus
          intro w hSw
          (try dsimp only at hSw)
          go_simp
          all_goals with_reducible rfl
        try simp only [Act.put, List.setIfInBounds_toArray, List.set_cons_zero, List.set_cons_succ]
        refine wpAnyH_take (i := 22) (oi := ⟨some 79, .move (.tmp 78), _, _, _, _⟩) (v := ?_) rfl (by kernel_rfl) (by kernel_rfl) (by kernel_rfl) (fun _ _ _ h => h) (Or.inl ⟨by rfl, ?_⟩) (by assumption) ?_
        rotate_left
        focus
          intro w hSw
          (try dsimp only at hSw)
          go_simp
          all_goals with_reducible rfl
        try simp only [Act.put, List.setIfInBounds_toArray, List.set_cons_zero, List.set_cons_succ]
        refine wpAnyH_take (i := 23) (oi := ⟨some 80, .load _ (.tmp 4), _, _, _, _⟩) (v := ?_) rfl (by kernel_rfl) (by kernel_rfl) (by kernel_rfl) (fun _ _ _ h => h) (Or.inl ⟨by rfl, ?_⟩) (by assumption) ?_
        rotate_left
        focus
          intro w hSw
          (try dsimp only at hSw)
          go_simp
          all_goals with_reducible rfl
        try simp only [Act.put, List.setIfInBounds_toArray, List.set_cons_zero, List.set_cons_succ]
        refine wpAnyH_take (i := 24) (oi := ⟨some 81, .build _ _, _, _, _, _⟩) (v := ?_) rfl (by kernel_rfl) (by kernel_rfl) (by kernel_rfl) (fun _ _ _ h => h) (Or.inl ⟨by rfl, ?_⟩) (by assumption) ?_
        rotate_left
        focus
          intro w hSw
          (try dsimp only at hSw)
          go_simp
          all_goals with_reducible rfl
        try simp only [Act.put, List.setIfInBounds_toArray, List.set_cons_zero, List.set_cons_succ]
        refine wpAnyH_take (i := 25) (oi := ⟨some 82, .binOp .eql _ (.tmp 80) (.tmp 81) _, _, _, _, _⟩) (v := ?_) rfl (by kernel_rfl) (by kernel_rfl) (by kernel_rfl) (fun _ _ _ h => h) (Or.inl ⟨by rfl, ?_⟩) (by assumption) ?_
        rotate_left
        focus
          intro w hSw
          (try dsimp only at hSw)
          go_simp
          all_goals with_reducible rfl
        try simp only [Act.put, List.setIfInBounds_toArray, List.set_cons_zero, List.set_cons_succ]
        refine wpAnyH_take (i := 26) (oi := ⟨some 83, .load _ (.tmp 3), _, _, _, _⟩) (v := ?_) rfl (by kernel_rfl) (by kernel_rfl) (by kernel_rfl) (fun _ _ _ h => h) (Or.inl ⟨by rfl, ?_⟩) (by assumption) ?_
        rotate_left
        focus
          intro w hSw
          (try dsimp only at hSw)
          go_simp
          all_goals with_reducible rfl
        try simp only [Act.put, List.setIfInBounds_toArray, List.set_cons_zero, List.set_cons_succ]
        refine wpAnyH_ready (rs := [27]) (by kernel_rfl) (by simp) ?_
        refine AllReadyH.cons (o := ⟨some 84, .call _, _, _, _, _⟩) rfl (fun K hK => ?_) AllReadyH.nil
        go_simp
        refine (cycReal_any _ _).mono ?_
        rintro e w' ⟨rfl, hb⟩; obtain ⟨os5, d5, rfl⟩ := more_of_below hb; clear hb
        go_wp2_with fail
        refine hK.out _ _ ?_ (fun hHeld2 => ?_)
        focus
          (try dsimp only)
          simp [go_sem, *]
        clear hK K
        try simp only [Act.put, List.setIfInBounds_toArray, List.set_cons_zero, List.set_cons_succ]
        refine wpAnyH_take (i := 28) (oi := ⟨some 85, .binOp .eql _ (.tmp 82) (.tmp 84) _, _, _, _, _⟩) (v := ?_) rfl (by kernel_rfl) (by kernel_rfl) (by kernel_rfl) (fun _ _ _ h => h) (Or.inl ⟨by rfl, ?_⟩) (by assumption) ?_
        rotate_left
        focus
          intro w hSw
          (try dsimp only at hSw)
          go_simp
          all_goals with_reducible rfl
        try simp only [Act.put, List.setIfInBounds_toArray, List.set_cons_zero, List.set_cons_succ]
        refine wpAnyH_take (i := 29) (oi := ⟨some 86, .pick (.tmp 79) (.tmp 85) _, _, _, _, _⟩) (v := ?_) rfl (by kernel_rfl) (by kernel_rfl) (by kernel_rfl) (fun _ _ _ h => h) (Or.inl ⟨by rfl, ?_⟩) (by assumption) ?_
        rotate_left
        focus
          intro w hSw
          (try dsimp only at hSw)
          go_simp
          all_goals with_reducible rfl
        try simp only [Act.put, List.setIfInBounds_toArray, List.set_cons_zero, List.set_cons_succ]
        refine wpAnyH_take (i := 30) (oi := ⟨some 2, .assign (.tmp 86), _, _, _, _⟩) (v := ?_) rfl (by kernel_rfl) (by kernel_rfl) (by kernel_rfl) (fun _ _ _ h => h) (Or.inl ⟨by rfl, ?_⟩) (by assumption) ?_
        rotate_left
        focus
          intro w hSw
          (try dsimp only at hSw)
          go_simp
          all_goals with_reducible rfl
        try simp only [Act.put, List.setIfInBounds_toArray, List.set_cons_zero, List.set_cons_succ]
        refine wpAnyH_done (by kernel_rfl) ?_ _
        go_wp2
        go_ret
        exact ⟨rfl, by repeat' (first | (with_reducible exact Below.refl _ _) | (with_reducible assumption) | (with_reducible refine Below.alloc ?_ ?_ _) | (with_reducible refine below_more ?_ ?_ _ _) | (with_reducible refine below_rd ?_ ?_ _ _) | (with_reducible refine Below.drew ?_) | (with_reducible refine Below.setCell ?_ ?_ _) | go_size)⟩
      · obtain ⟨f4, f5, f6⟩ := f2 q
        have n1 : c.mir.siR.a = -c.im.a := by rw [f6]; rfl
        have n2 : c.mir.siR.b = -c.im.b := by rw [f6]; rfl
        have n3 : c.mir.siR.c = -c.im.c := by rw [f6]; rfl
        have n4 : c.mir.siR.d = -c.im.d := by rw [f6]; rfl
        clear f2 f6
        have w1 : IntKind.i64.wrap (0 - c.im.a) = -c.im.a := by rw [Int.zero_sub]; exact IntWalk.i64_in _ (by omega)
        have w2 : IntKind.i64.wrap (0 - c.im.b) = -c.im.b := by rw [Int.zero_sub]; exact IntWalk.i64_in _ (by omega)
        have w3 : IntKind.i64.wrap (0 - c.im.c) = -c.im.c := by rw [Int.zero_sub]; exact IntWalk.i64_in _ (by omega)
        have w4 : IntKind.i64.wrap (0 - c.im.d) = -c.im.d := by rw [Int.zero_sub]; exact IntWalk.i64_in _ (by omega)
        have v1 : IntKind.i64.wrap (-c.im.a) = -c.im.a := by exact IntWalk.i64_in _ (by omega)
        have v2 : IntKind.i64.wrap (-c.im.b) = -c.im.b := by exact IntWalk.i64_in _ (by omega)
        have v3 : IntKind.i64.wrap (-c.im.c) = -c.im.c := by exact IntWalk.i64_in _ (by omega)
        have v4 : IntKind.i64.wrap (-c.im.d) = -c.im.d := by exact IntWalk.i64_in _ (by omega)
        go_wp2_with fail
        (go_at_call 15; refine (surdIm_any _ _).mono ?_; rintro e w' ⟨rfl, hb⟩; obtain ⟨os1, d1, rfl⟩ := more_of_below hb; clear hb)
        go_wp2_with fail
        (go_at_call 16; refine (specSurdIm_any _ _).mono ?_; rintro e w' ⟨rfl, hb⟩; obtain ⟨os2, d2, rfl⟩ := more_of_below hb; clear hb)
        go_wp2_with fail
        (go_at_call 17; refine (cycMirror_any _ _).mono ?_; rintro e w' ⟨rfl, hb⟩; obtain ⟨os3, d3, rfl⟩ := more_of_below hb; clear hb)
        go_wp2_with fail
        (go_at_call 15; refine (surdIm_any _ _).mono ?_; rintro e w' ⟨rfl, hb⟩; obtain ⟨os4, d4, rfl⟩ := more_of_below hb; clear hb)
        go_wp2_with fail
        go_region_held3 (fun w' => (w'.cell? ⟨W.heap.size + os.size, 0, none⟩ = some (.int .i64 c.c0) ∧ w'.cell? ⟨W.heap.size + os.size, 1, none⟩ = some (.int .i64 c.c1) ∧ w'.cell? ⟨W.heap.size + os.size, 2, none⟩ = some (.int .i64 c.c2) ∧ w'.cell? ⟨W.heap.size + os.size, 3, none⟩ = some (.int .i64 c.c3) ∧ w'.cell? ⟨W.heap.size + os.size, 4, none⟩ = some (.int .i64 c.c4) ∧ w'.cell? ⟨W.heap.size + os.size, 5, none⟩ = some (.int .i64 c.c5) ∧ w'.cell? ⟨W.heap.size + os.size, 6, none⟩ = some (.int .i64 c.c6) ∧ w'.cell? ⟨W.heap.size + os.size, 7, none⟩ = some (.int .i64 c.c7)) ∧ (w'.cell? ⟨W.heap.size + os.size + 1 + os1.size, 0, none⟩ = some (.int .i64 c.im.a) ∧ w'.cell? ⟨W.heap.size + os.size + 1 + os1.size, 1, none⟩ = some (.int .i64 c.im.b) ∧ w'.cell? ⟨W.heap.size + os.size + 1 + os1.size, 2, none⟩ = some (.int .i64 c.im.c) ∧ w'.cell? ⟨W.heap.size + os.size + 1 + os1.size, 3, none⟩ = some (.int .i64 c.im.d)) ∧ (w'.cell? ⟨W.heap.size + os.size + 1 + os1.size + 1 + os2.size + 1 + os3.size + 1 + os4.size, 0, none⟩ = some (.int .i64 (-c.im.a)) ∧ w'.cell? ⟨W.heap.size + os.size + 1 + os1.size + 1 + os2.size + 1 + os3.size + 1 + os4.size, 1, none⟩ = some (.int .i64 (-c.im.b)) ∧ w'.cell? ⟨W.heap.size + os.size + 1 + os1.size + 1 + os2.size + 1 + os3.size + 1 + os4.size, 2, none⟩ = some (.int .i64 (-c.im.c)) ∧ w'.cell? ⟨W.heap.size + os.size + 1 + os1.size + 1 + os2.size + 1 + os3.size + 1 + os4.size, 3, none⟩ = some (.int .i64 (-c.im.d)))) (simp [go_sem, *])
          (first | (go_at_call 18; refine (cycReal_any _ _).mono ?_; rintro e w' ⟨rfl, hb⟩; obtain ⟨os, d, rfl⟩ := more_of_below hb; clear hb))
        all_goals
          go_wp2
          go_ret
          exact ⟨rfl, by repeat' (first | (with_reducible exact Below.refl _ _) | (with_reducible assumption) | (with_reducible refine Below.alloc ?_ ?_ _) | (with_reducible refine below_more ?_ ?_ _ _) | (with_reducible refine below_rd ?_ ?_ _ _) | (with_reducible refine Below.drew ?_) | (with_reducible refine Below.setCell ?_ ?_ _) | go_size)⟩
      · clear f2
        go_wp2_with fail
        (go_at_call 15; refine (surdIm_any _ _).mono ?_; rintro e w' ⟨rfl, hb⟩; obtain ⟨os1, d1, rfl⟩ := more_of_below hb; clear hb)
        go_wp2_with fail
        (go_at_call 16; refine (specSurdIm_any _ _).mono ?_; rintro e w' ⟨rfl, hb⟩; obtain ⟨os2, d2, rfl⟩ := more_of_below hb; clear hb)
        go_wp2_with fail
        (go_at_call 17; refine (cycMirror_any _ _).mono ?_; rintro e w' ⟨rfl, hb⟩; obtain ⟨os3, d3, rfl⟩ := more_of_below hb; clear hb)
        go_wp2_with fail
        (go_at_call 15; refine (surdIm_any _ _).mono ?_; rintro e w' ⟨rfl, hb⟩; obtain ⟨os4, d4, rfl⟩ := more_of_below hb; clear hb)
        go_wp2_with fail
        refine wp_region_held_drew (S := (fun w' => (w'.cell? ⟨W.heap.size + os.size, 0, none⟩ = some (.int .i64 c.c0) ∧ w'.cell? ⟨W.heap.size + os.size, 1, none⟩ = some (.int .i64 c.c1) ∧ w'.cell? ⟨W.heap.size + os.size, 2, none⟩ = some (.int .i64 c.c2) ∧ w'.cell? ⟨W.heap.size + os.size, 3, none⟩ = some (.int .i64 c.c3) ∧ w'.cell? ⟨W.heap.size + os.size, 4, none⟩ = some (.int .i64 c.c4) ∧ w'.cell? ⟨W.heap.size + os.size, 5, none⟩ = some (.int .i64 c.c5) ∧ w'.cell? ⟨W.heap.size + os.size, 6, none⟩ = some (.int .i64 c.c6) ∧ w'.cell? ⟨W.heap.size + os.size, 7, none⟩ = some (.int .i64 c.c7)) ∧ (w'.cell? ⟨W.heap.size + os.size + 1 + os1.size, 0, none⟩ = some (.int .i64 c.im.a) ∧ w'.cell? ⟨W.heap.size + os.size + 1 + os1.size, 1, none⟩ = some (.int .i64 c.im.b) ∧ w'.cell? ⟨W.heap.size + os.size + 1 + os1.size, 2, none⟩ = some (.int .i64 c.im.c) ∧ w'.cell? ⟨W.heap.size + os.size + 1 + os1.size, 3, none⟩ = some (.int .i64 c.im.d)) ∧ (w'.cell? ⟨W.heap.size + os.size + 1 + os1.size + 1 + os2.size + 1 + os3.size + 1 + os4.size, 0, none⟩ = some (.int .i64 (C8.siR (C8.miR c)).a) ∧ w'.cell? ⟨W.heap.size + os.size + 1 + os1.size + 1 + os2.size + 1 + os3.size + 1 + os4.size, 1, none⟩ = some (.int .i64 (C8.siR (C8.miR c)).b) ∧ w'.cell? ⟨W.heap.size + os.size + 1 + os1.size + 1 + os2.size + 1 + os3.size + 1 + os4.size, 2, none⟩ = some (.int .i64 (C8.siR (C8.miR c)).c) ∧ w'.cell? ⟨W.heap.size + os.size + 1 + os1.size + 1 + os2.size + 1 + os3.size + 1 + os4.size, 3, none⟩ = some (.int .i64 (C8.siR (C8.miR c)).d)))) (by kernel_rfl) (by simp [go_sem, *]) (fun hHeld => ?_)
        refine wpAnyH_take (i := 0) (oi := ⟨some 57, .move (.tmp 9), _, _, _, _⟩) (v := ?_) rfl (by kernel_rfl) (by kernel_rfl) (by kernel_rfl) (fun _ _ _ h => h) (Or.inl ⟨by rfl, ?_⟩) (by assumption) ?_
        rotate_left
        focus
          intro w hSw
          (try dsimp only at hSw)
          go_simp
          all_goals with_reducible rfl
        try simp only [Act.put, List.setIfInBounds_toArray, List.set_cons_zero, List.set_cons_succ]
        refine wpAnyH_take (i := 1) (oi := ⟨some 58, .unOp .not _ (.tmp 57), _, _, _, _⟩) (v := ?_) rfl (by kernel_rfl) (by kernel_rfl) (by kernel_rfl) (fun _ _ _ h => h) (Or.inl ⟨by rfl, ?_⟩) (by assumption) ?_
        rotate_left
        focus
          intro w hSw
          (try dsimp only at hSw)
          go_simp
          all_goals with_reducible rfl
        try simp only [Act.put, List.setIfInBounds_toArray, List.set_cons_zero, List.set_cons_succ]
        refine wpAnyH_take (i := 2) (oi := ⟨some 59, .move (.tmp 58), _, _, _, _⟩) (v := ?_) rfl (by kernel_rfl) (by kernel_rfl) (by kernel_rfl) (fun _ _ _ h => h) (Or.inl ⟨by rfl, ?_⟩) (by assumption) ?_
        rotate_left
        focus
          intro w hSw
          (try dsimp only at hSw)
          go_simp
          all_goals with_reducible rfl
        try simp only [Act.put, List.setIfInBounds_toArray, List.set_cons_zero, List.set_cons_succ]
        refine wpAnyH_take (i := 3) (oi := ⟨some 60, _, _, _, _, _⟩) (v := undef) rfl (by kernel_rfl) (by kernel_rfl) (by kernel_rfl) (fun _ _ _ h => h) (Or.inr ⟨by rfl, rfl⟩) (by assumption) ?_
        try simp only [Act.put, List.setIfInBounds_toArray, List.set_cons_zero, List.set_cons_succ]
        refine wpAnyH_take (i := 4) (oi := ⟨some 61, _, _, _, _, _⟩) (v := undef) rfl (by kernel_rfl) (by kernel_rfl) (by kernel_rfl) (fun _ _ _ h => h) (Or.inr ⟨by rfl, rfl⟩) (by assumption) ?_
        try simp only [Act.put, List.setIfInBounds_toArray, List.set_cons_zero, List.set_cons_succ]
        refine wpAnyH_take (i := 5) (oi := ⟨some 62, _, _, _, _, _⟩) (v := undef) rfl (by kernel_rfl) (by kernel_rfl) (by kernel_rfl) (fun _ _ _ h => h) (Or.inr ⟨by rfl, rfl⟩) (by assumption) ?_
        try simp only [Act.put, List.setIfInBounds_toArray, List.set_cons_zero, List.set_cons_succ]
        refine wpAnyH_take (i := 6) (oi := ⟨some 63, _, _, _, _, _⟩) (v := undef) rfl (by kernel_rfl) (by kernel_rfl) (by kernel_rfl) (fun _ _ _ h => h) (Or.inr ⟨by rfl, rfl⟩) (by assumption) ?_
        try simp only [Act.put, List.setIfInBounds_toArray, List.set_cons_zero, List.set_cons_succ]
        refine wpAnyH_take (i := 7) (oi := ⟨some 64, _, _, _, _, _⟩) (v := undef) rfl (by kernel_rfl) (by kernel_rfl) (by kernel_rfl) (fun _ _ _ h => h) (Or.inr ⟨by rfl, rfl⟩) (by assumption) ?_
        try simp only [Act.put, List.setIfInBounds_toArray, List.set_cons_zero, List.set_cons_succ]
        refine wpAnyH_take (i := 8) (oi := ⟨some 65, _, _, _, _, _⟩) (v := undef) rfl (by kernel_rfl) (by kernel_rfl) (by kernel_rfl) (fun _ _ _ h => h) (Or.inr ⟨by rfl, rfl⟩) (by assumption) ?_
        try simp only [Act.put, List.setIfInBounds_toArray, List.set_cons_zero, List.set_cons_succ]
        refine wpAnyH_take (i := 9) (oi := ⟨some 66, _, _, _, _, _⟩) (v := undef) rfl (by kernel_rfl) (by kernel_rfl) (by kernel_rfl) (fun _ _ _ h => h) (Or.inr ⟨by rfl, rfl⟩) (by assumption) ?_
        try simp only [Act.put, List.setIfInBounds_toArray, List.set_cons_zero, List.set_cons_succ]
        refine wpAnyH_take (i := 10) (oi := ⟨some 67, _, _, _, _, _⟩) (v := undef) rfl (by kernel_rfl) (by kernel_rfl) (by kernel_rfl) (fun _ _ _ h => h) (Or.inr ⟨by rfl, rfl⟩) (by assumption) ?_
        try simp only [Act.put, List.setIfInBounds_toArray, List.set_cons_zero, List.set_cons_succ]
        refine wpAnyH_take (i := 11) (oi := ⟨some 68, _, _, _, _, _⟩) (v := undef) rfl (by kernel_rfl) (by kernel_rfl) (by kernel_rfl) (fun _ _ _ h => h) (Or.inr ⟨by rfl, rfl⟩) (by assumption) ?_
        try simp only [Act.put, List.setIfInBounds_toArray, List.set_cons_zero, List.set_cons_succ]
        refine wpAnyH_take (i := 12) (oi := ⟨some 69, _, _, _, _, _⟩) (v := undef) rfl (by kernel_rfl) (by kernel_rfl) (by kernel_rfl) (fun _ _ _ h => h) (Or.inr ⟨by rfl, rfl⟩) (by assumption) ?_
        try simp only [Act.put, List.setIfInBounds_toArray, List.set_cons_zero, List.set_cons_succ]
        refine wpAnyH_take (i := 13) (oi := ⟨some 70, _, _, _, _, _⟩) (v := undef) rfl (by kernel_rfl) (by kernel_rfl) (by kernel_rfl) (fun _ _ _ h => h) (Or.inr ⟨by rfl, rfl⟩) (by assumption) ?_
        try simp only [Act.put, List.setIfInBounds_toArray, List.set_cons_zero, List.set_cons_succ]
        refine wpAnyH_take (i := 14) (oi := ⟨some 71, _, _, _, _, _⟩) (v := undef) rfl (by kernel_rfl) (by kernel_rfl) (by kernel_rfl) (fun _ _ _ h => h) (Or.inr ⟨by rfl, rfl⟩) (by assumption) ?_
        try simp only [Act.put, List.setIfInBounds_toArray, List.set_cons_zero, List.set_cons_succ]
        refine wpAnyH_take (i := 15) (oi := ⟨some 72, _, _, _, _, _⟩) (v := undef) rfl (by kernel_rfl) (by kernel_rfl) (by kernel_rfl) (fun _ _ _ h => h) (Or.inr ⟨by rfl, rfl⟩) (by assumption) ?_
        try simp only [Act.put, List.setIfInBounds_toArray, List.set_cons_zero, List.set_cons_succ]
        refine wpAnyH_take (i := 16) (oi := ⟨some 73, _, _, _, _, _⟩) (v := undef) rfl (by kernel_rfl) (by kernel_rfl) (by kernel_rfl) (fun _ _ _ h => h) (Or.inr ⟨by rfl, rfl⟩) (by assumption) ?_
        try simp only [Act.put, List.setIfInBounds_toArray, List.set_cons_zero, List.set_cons_succ]
        refine wpAnyH_take (i := 17) (oi := ⟨some 74, _, _, _, _, _⟩) (v := undef) rfl (by kernel_rfl) (by kernel_rfl) (by kernel_rfl) (fun _ _ _ h => h) (Or.inr ⟨by rfl, rfl⟩) (by assumption) ?_
        try simp only [Act.put, List.setIfInBounds_toArray, List.set_cons_zero, List.set_cons_succ]
        refine wpAnyH_take (i := 18) (oi := ⟨some 75, _, _, _, _, _⟩) (v := undef) rfl (by kernel_rfl) (by kernel_rfl) (by kernel_rfl) (fun _ _ _ h => h) (Or.inr ⟨by rfl, rfl⟩) (by assumption) ?_
        try simp only [Act.put, List.setIfInBounds_toArray, List.set_cons_zero, List.set_cons_succ]
        refine wpAnyH_take (i := 19) (oi := ⟨some 76, _, _, _, _, _⟩) (v := undef) rfl (by kernel_rfl) (by kernel_rfl) (by kernel_rfl) (fun _ _ _ h => h) (Or.inr ⟨by rfl, rfl⟩) (by assumption) ?_
        try simp only [Act.put, List.setIfInBounds_toArray, List.set_cons_zero, List.set_cons_succ]
        refine wpAnyH_take (i := 20) (oi := ⟨some 77, _, _, _, _, _⟩) (v := undef) rfl (by kernel_rfl) (by kernel_rfl) (by kernel_rfl) (fun _ _ _ h => h) (Or.inr ⟨by rfl, rfl⟩) (by assumption) ?_
        try simp only [Act.put, List.setIfInBounds_toArray, List.set_cons_zero, List.set_cons_succ]
        refine wpAnyH_take (i := 21) (oi := ⟨some 78, .pick (.tmp 59) _ (.tmp 77), _, _, _, _⟩) (v := ?_) rfl (by kernel_rfl) (by kernel_rfl) (by kernel_rfl) (fun _ _ _ h => h) (Or.inl ⟨by rfl, ?_⟩) (by assumption) ?_
        rotate_left
        focus
          intro w hSw
          (try dsimp only at hSw)
          go_simp
          all_goals with_reducible rfl
        try simp only [Act.put, List.setIfInBounds_toArray, List.set_cons_zero, List.set_cons_succ]
        refine wpAnyH_take (i := 22) (oi := ⟨some 79, .move (.tmp 78), _, _, _, _⟩) (v := ?_) rfl (by kernel_rfl) (by kernel_rfl) (by kernel_rfl) (fun _ _ _ h => h) (Or.inl ⟨by rfl, ?_⟩) (by assumption) ?_
        rotate_left
        focus
          intro w hSw
          (try dsimp only at hSw)
          go_simp
          all_goals with_reducible rfl
        try simp only [Act.put, List.setIfInBounds_toArray, List.set_cons_zero, List.set_cons_succ]
        refine wpAnyH_take (i := 23) (oi := ⟨some 80, .load _ (.tmp 4), _, _, _, _⟩) (v := ?_) rfl (by kernel_rfl) (by kernel_rfl) (by kernel_rfl) (fun _ _ _ h => h) (Or.inl ⟨by rfl, ?_⟩) (by assumption) ?_
        rotate_left
        focus
          intro w hSw
          (try dsimp only at hSw)
          go_simp
          all_goals with_reducible rfl
        try simp only [Act.put, List.setIfInBounds_toArray, List.set_cons_zero, List.set_cons_succ]
        refine wpAnyH_take (i := 24) (oi := ⟨some 81, .build _ _, _, _, _, _⟩) (v := ?_) rfl (by kernel_rfl) (by kernel_rfl) (by kernel_rfl) (fun _ _ _ h => h) (Or.inl ⟨by rfl, ?_⟩) (by assumption) ?_
        rotate_left
        focus
          intro w hSw
          (try dsimp only at hSw)
          go_simp
          all_goals with_reducible rfl
        try simp only [Act.put, List.setIfInBounds_toArray, List.set_cons_zero, List.set_cons_succ]
        refine wpAnyH_take (i := 25) (oi := ⟨some 82, .binOp .eql _ (.tmp 80) (.tmp 81) _, _, _, _, _⟩) (v := ?_) rfl (by kernel_rfl) (by kernel_rfl) (by kernel_rfl) (fun _ _ _ h => h) (Or.inl ⟨by rfl, ?_⟩) (by assumption) ?_
        rotate_left
        focus
          intro w hSw
          (try dsimp only at hSw)
          go_simp
          all_goals with_reducible rfl
        try simp only [Act.put, List.setIfInBounds_toArray, List.set_cons_zero, List.set_cons_succ]
        refine wpAnyH_take (i := 26) (oi := ⟨some 83, .load _ (.tmp 3), _, _, _, _⟩) (v := ?_) rfl (by kernel_rfl) (by kernel_rfl) (by kernel_rfl) (fun _ _ _ h => h) (Or.inl ⟨by rfl, ?_⟩) (by assumption) ?_
        rotate_left
        focus
          intro w hSw
          (try dsimp only at hSw)
          go_simp
          all_goals with_reducible rfl
        try simp only [Act.put, List.setIfInBounds_toArray, List.set_cons_zero, List.set_cons_succ]
        refine wpAnyH_ready (rs := [27]) (by kernel_rfl) (by simp) ?_
        refine AllReadyH.cons (o := ⟨some 84, .call _, _, _, _, _⟩) rfl (fun K hK => ?_) AllReadyH.nil
        go_simp
        refine (cycReal_any _ _).mono ?_
        rintro e w' ⟨rfl, hb⟩; obtain ⟨os5, d5, rfl⟩ := more_of_below hb; clear hb
        go_wp2_with fail
        refine hK.out _ _ ?_ (fun hHeld2 => ?_)
        focus
          (try dsimp only)
          simp [go_sem, *]
        clear hK K
        try simp only [Act.put, List.setIfInBounds_toArray, List.set_cons_zero, List.set_cons_succ]
        refine wpAnyH_take (i := 28) (oi := ⟨some 85, .binOp .eql _ (.tmp 82) (.tmp 84) _, _, _, _, _⟩) (v := ?_) rfl (by kernel_rfl) (by kernel_rfl) (by kernel_rfl) (fun _ _ _ h => h) (Or.inl ⟨by rfl, ?_⟩) (by assumption) ?_
        rotate_left
        focus
          intro w hSw
          (try dsimp only at hSw)
          go_simp
          all_goals with_reducible rfl
        try simp only [Act.put, List.setIfInBounds_toArray, List.set_cons_zero, List.set_cons_succ]
        refine wpAnyH_take (i := 29) (oi := ⟨some 86, .pick (.tmp 79) (.tmp 85) _, _, _, _, _⟩) (v := ?_) rfl (by kernel_rfl) (by kernel_rfl) (by kernel_rfl) (fun _ _ _ h => h) (Or.inl ⟨by rfl, ?_⟩) (by assumption) ?_
        rotate_left
        focus
          intro w hSw
          (try dsimp only at hSw)
          go_simp
          all_goals with_reducible rfl
        try simp only [Act.put, List.setIfInBounds_toArray, List.set_cons_zero, List.set_cons_succ]
        refine wpAnyH_take (i := 30) (oi := ⟨some 2, .assign (.tmp 86), _, _, _, _⟩) (v := ?_) rfl (by kernel_rfl) (by kernel_rfl) (by kernel_rfl) (fun _ _ _ h => h) (Or.inl ⟨by rfl, ?_⟩) (by assumption) ?_
        rotate_left
        focus
          intro w hSw
          (try dsimp only at hSw)
          go_simp
          all_goals with_reducible rfl
        try simp only [Act.put, List.setIfInBounds_toArray, List.set_cons_zero, List.set_cons_succ]
        refine wpAnyH_done (by kernel_rfl) ?_ _
        go_wp2
        go_ret
        exact ⟨rfl, by repeat' (first | (with_reducible exact Below.refl _ _) | (with_reducible assumption) | (with_reducible refine Below.alloc ?_ ?_ _) | (with_reducible refine below_more ?_ ?_ _ _) | (with_reducible refine below_rd ?_ ?_ _ _) | (with_reducible refine Below.drew ?_) | (with_reducible refine Below.setCell ?_ ?_ _) | go_size)⟩
    · go_wp2_with (first
        | (go_at_call 16; refine (specSurdIm_any _ _).mono ?_; rintro e w' ⟨rfl, hb⟩; obtain ⟨os, d, rfl⟩ := more_of_below hb; clear hb)
        | (go_at_call 15; refine (surdIm_any _ _).mono ?_; rintro e w' ⟨rfl, hb⟩; obtain ⟨os, d, rfl⟩ := more_of_below hb; clear hb))
      go_ret
      exact ⟨rfl, by repeat' (first | (with_reducible exact Below.refl _ _) | (with_reducible assumption) | (with_reducible refine Below.alloc ?_ ?_ _) | (with_reducible refine below_more ?_ ?_ _ _) | (with_reducible refine below_rd ?_ ?_ _ _) | (with_reducible refine Below.drew ?_) | (with_reducible refine Below.setCell ?_ ?_ _) | go_size)⟩
  · go_enter Try.func3, Try.ntmps3
    go_wp2
    go_ret
    exact ⟨rfl, by repeat' (first | (with_reducible exact Below.refl _ _) | (with_reducible assumption) | (with_reducible refine Below.alloc ?_ ?_ _) | (with_reducible refine below_more ?_ ?_ _ _) | (with_reducible refine below_rd ?_ ?_ _ _) | (with_reducible refine Below.drew ?_) | (with_reducible refine Below.setCell ?_ ?_ _) | go_size)⟩

set_option maxRecDepth 100000 in
theorem fnIm_lifted (os : Os) (started : os.Started) (H : Type) (enc : TypeId × Value → H) :
    ReturnsInHanded {} Try.checked os 3 .any (Rows.fnImSpec.pre6 enc Try.prog Try.f3 Rows.fnImRow.domain false) (Rows.fnImSpec.post enc Try.prog Try.f3 false true false false) := by
  refine returnsInHanded_of_change (C := Try.checked) own started (by kernel_rfl) Try.func3
    (ChangeSpec.witness6 (enc := enc) (C := Try.checked) false ⟨#[], #[.slice none 0 0], []⟩ 8 (by kernel_rfl) (by kernel_rfl) (by kernel_rfl) (by kernel_rfl)) ?_
  intro W base args ds gs before hval0 hW hcnd _
  have hval : ∀ (j : Nat) t v, Try.f3.params[j]? = some t → args[j]? = some v → Value.okWide Try.prog W .any base t v := hval0
  have hW' := hW
  obtain ⟨p, q, hA0, hV, rfl, hfz, hnd⟩ := hW
  have hA : DataW.TrodAll enc Try.prog W 0 (fun _ => true) true Try.f3.params.toList args.toList ds p := hA0
  rw [Try.params3] at hA hval
  obtain ⟨v0, vs0, d0, ds0, p0, q0, hargs, rfl, rfl, h0, r0⟩ := trodAll_cons hA
  obtain ⟨rfl, rfl, rfl⟩ := trodAll_nil r0
  obtain rfl : args = #[v0] := by cases args; simp_all
  obtain ⟨rfl, rfl⟩ := trodVars_none hV
  obtain ⟨a0, len0, cap0, rfl⟩ := okWide_slice Try.underlying22 (hval 0 22 v0 rfl rfl)
  have k0 := h0
  have lt0 : ∀ x ∈ p0, x.block < W.heap.size := by obtain ⟨m, hm⟩ := k0; exact DataW.trod_lt m _ _ _ hm
  obtain ⟨hv, hc⟩ : HasB W W.heap.size a0 len0 ∧ len0 ≤ cap0 := by
    obtain ⟨fuel, hf⟩ := h0
    rcases open_ints Try.underlying22 Try.underlying5 (by kernel_rfl) hf with ⟨hcs, _⟩ | ⟨x, l, c, zs, hcs, _, hl, hm, hz, _, hcell, hwz⟩
    · simp [Value.cells] at hcs
      obtain ⟨rfl, rfl, rfl⟩ := hcs
      exact ⟨Or.inl rfl, Nat.le_refl _⟩
    · simp [Value.cells] at hcs
      obtain ⟨rfl, rfl, rfl⟩ := hcs
      exact ⟨hasB_of_cells (by have : zs.length = cap0 := by simpa using hz
                               omega) hcell hwz, hl⟩
  clear hA0 hval0
  refine (fnIm_any a0 len0 cap0 W hv hc).mono fun e W' ⟨he, bel⟩ => ?_
  subst he
  exact ⟨_, rfl, _, _, _, [], _, [], hW', trodAll_mk1 (shut_bool Try.underlying4 _), (trodAll_cons_mk (Below.trod laidOut (by kernel_rfl) (of_decide_eq_true (by kernel_rfl)) k0 bel lt0) trodAll_mk0), rfl, bel.frame _, fun h => by cases h⟩

theorem fnIm_holds : Rows.FnImSaid :=
  OpenClaim.holds_of_wide 3 Try.f3 rfl rfl rfl rfl rfl rfl rfl ⟨rfl, rfl, rfl, rfl, rfl⟩ rfl rfl rfl rfl rfl (by kernel_rfl) Try.func3 (by kernel_rfl)
    (of_decide_eq_true (by kernel_rfl)) (by unfold Func.isWrapper; first | (rw [if_pos (by decide +kernel)]; kernel_rfl) | (rw [if_neg (by decide +kernel)]; exact ⟨rfl, rfl⟩))
    (fun os started H enc _ => fnIm_lifted os started H enc)
#print axioms fnIm_holds

end Go.Proofs.Ytklmlodapinflaa
