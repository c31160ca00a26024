/- Contracts: re, im of the program; l3Re, l3Im of the reference. -/
import Derived.Test.YtklmlodapinflaaCosA
import Derived.Test.YtklmlodapinflaaSurdB
import Derived.Deep.RegionHeld3
import Derived.Deep.RegionWith
import Derived.Deep.DrawnRows
import Derived.IntWalk
namespace Go.Proofs.Ytklmlodapinflaa
open Go.RowKit
attribute [local go_sem ↓] Go.wp_at_zero Go.wp_at_succ

theorem sumS_round {x : C8} (h : C8.lim 1000000000 x) (f : Nat → Nat) (k : Nat) (hk : k < 8) :
    ((-1000000000000 ≤ (x.sumS f k).a ∧ (x.sumS f k).a ≤ 1000000000000) ∧ (-1000000000000 ≤ (x.sumS f k).b ∧ (x.sumS f k).b ≤ 1000000000000) ∧ (-1000000000000 ≤ (x.sumS f k).c ∧ (x.sumS f k).c ≤ 1000000000000) ∧ (-1000000000000 ≤ (x.sumS f k).d ∧ (x.sumS f k).d ≤ 1000000000000)) ∧
    ((-1000000000000 ≤ x.g k * (cosT (f k)).a ∧ x.g k * (cosT (f k)).a ≤ 1000000000000) ∧ (-1000000000000 ≤ x.g k * (cosT (f k)).b ∧ x.g k * (cosT (f k)).b ≤ 1000000000000) ∧ (-1000000000000 ≤ x.g k * (cosT (f k)).c ∧ x.g k * (cosT (f k)).c ≤ 1000000000000) ∧ (-1000000000000 ≤ x.g k * (cosT (f k)).d ∧ x.g k * (cosT (f k)).d ≤ 1000000000000)) := by
  have h1 := C8.sumS_bd h f k
  have h2 := scl_bd (g_lim h (by omega) k) (f k)
  simp only [S4.lim, S4.scl] at h1 h2
  omega

set_option maxRecDepth 100000 in
set_option maxHeartbeats 2000000 in
theorem cre_any (x : C8) (h : C8.lim 1000000000 x) (w : World) :
    Calls Try.prog 69 #[cv x] w fun e w' => e = .returned (sS x.re) ∧ Below w.heap.size w w' := by
  have HR := Lib.hid (C8.re_8 x)
  go_enter Try.func69, Try.ntmps69
  go_wp2
  go_loopw [8] (fun s wr => ∃ k : Nat, k ≤ 8 ∧ s = .int .i64 k ∧ ∃ os d, wr = more (((w.alloc (.cells (row x) 25)).alloc (.cells #[.int .i64 0, .int .i64 0, .int .i64 0, .int .i64 0] 28)).alloc (.cells #[.int .i64 (x.sumS id k).a, .int .i64 (x.sumS id k).b, .int .i64 (x.sumS id k).c, .int .i64 (x.sumS id k).d] 28)) os d) (fun s _ => 8 - (intOf s).toNat)
  case atStart => exact ⟨0, by omega, rfl, _, _, more_self _⟩
  case round =>
    obtain ⟨k, hk, rfl, os, d, rfl⟩ := hrel
    by_cases hlt : k < 8
    · have ixk := ix8 x k hlt
      have hk24 : k < 24 := by omega
      have H := Lib.hid (sumS_round h id k hlt)
      go_wp2_with fail
      go_region_with (first
          | (go_at_call 102; refine (cosine_any _ hk24 _).mono ?_; rintro e w' ⟨rfl, hb⟩; obtain ⟨os, d, rfl⟩ := more_of_below hb; clear hb)
          | (go_at_call 104; refine (sscaled_any _ _ _ _ _ _ H.out.2).mono ?_; rintro e w' ⟨rfl, hb⟩; obtain ⟨os, d, rfl⟩ := more_of_below hb; clear hb)
          | (go_at_call 82; refine (splus_any _ _ _ _ _ _ _ _ _ H.out.1 H.out.2).mono ?_; rintro e w' ⟨rfl, hb⟩; obtain ⟨os, d, rfl⟩ := more_of_below hb; clear hb))
      all_goals
        go_wp2
        go_roundw
        case rel => exact ⟨k + 1, by omega, by go_num, _, _, rfl⟩
        case measure => simp [intOf]; omega
    · obtain rfl : k = 8 := by omega
      go_wp2
      go_returns
      exact ⟨by rw [HR.out], by repeat' (first | (with_reducible exact Below.refl _ _) | (with_reducible assumption) | (with_reducible refine Below.alloc ?_ ?_ _) | (with_reducible refine below_more ?_ ?_ _ _) | (with_reducible refine below_rd ?_ ?_ _ _) | (with_reducible refine Below.drew ?_) | (with_reducible refine Below.setCell ?_ ?_ _) | go_size)⟩
/-- The imaginary parts' turns. -/
def imF (k : Nat) : Nat := (k + 18) % 24
set_option maxRecDepth 100000 in
set_option maxHeartbeats 2000000 in
theorem cim_any (x : C8) (h : C8.lim 1000000000 x) (w : World) :
    Calls Try.prog 55 #[cv x] w fun e w' => e = .returned (sS x.im) ∧ Below w.heap.size w w' := by
  have HR := Lib.hid (show x.sumS imF 8 = x.im from C8.im_8 x)
  go_enter Try.func55, Try.ntmps55
  go_wp2
  go_loopw [8] (fun s wr => ∃ k : Nat, k ≤ 8 ∧ s = .int .i64 k ∧ ∃ os d, wr = more (((w.alloc (.cells (row x) 25)).alloc (.cells #[.int .i64 0, .int .i64 0, .int .i64 0, .int .i64 0] 28)).alloc (.cells #[.int .i64 (x.sumS imF k).a, .int .i64 (x.sumS imF k).b, .int .i64 (x.sumS imF k).c, .int .i64 (x.sumS imF k).d] 28)) os d) (fun s _ => 8 - (intOf s).toNat)
  case atStart => exact ⟨0, by omega, rfl, _, _, more_self _⟩
  case round =>
    obtain ⟨k, hk, rfl, os, d, rfl⟩ := hrel
    by_cases hlt : k < 8
    · have ixk := ix8 x k hlt
      have hm24 : imF k < 24 := Nat.mod_lt _ (by omega)
      have ek : ((k : Int) - 6) % 24 = (imF k : Int) := by unfold imF; omega
      have EK := Lib.hid ek
      clear ek
      have wk : IntKind.i64.wrap ((k : Int) - 6) = (k : Int) - 6 := IntWalk.i64_in _ (by omega)
      have H := Lib.hid (sumS_round h imF k hlt)
      go_wp2_with fail
      go_region_with (first
          | (go_at_call 103; refine (turnOf_any _ (by omega) (by omega) _).mono ?_; rw [EK.out]; rintro e w' ⟨rfl, rfl⟩)
          | (go_at_call 102; refine (cosine_any _ hm24 _).mono ?_; rintro e w' ⟨rfl, hb⟩; obtain ⟨os, d, rfl⟩ := more_of_below hb; clear hb)
          | (go_at_call 104; refine (sscaled_any _ _ _ _ _ _ H.out.2).mono ?_; rintro e w' ⟨rfl, hb⟩; obtain ⟨os, d, rfl⟩ := more_of_below hb; clear hb)
          | (go_at_call 82; refine (splus_any _ _ _ _ _ _ _ _ _ H.out.1 H.out.2).mono ?_; rintro e w' ⟨rfl, hb⟩; obtain ⟨os, d, rfl⟩ := more_of_below hb; clear hb))
      all_goals
        go_wp2
        go_roundw
        case rel => exact ⟨k + 1, by omega, by go_num, _, _, rfl⟩
        case measure => simp [intOf]; omega
    · obtain rfl : k = 8 := by omega
      go_wp2
      go_returns
      exact ⟨by rw [HR.out], by repeat' (first | (with_reducible exact Below.refl _ _) | (with_reducible assumption) | (with_reducible refine Below.alloc ?_ ?_ _) | (with_reducible refine below_more ?_ ?_ _ _) | (with_reducible refine below_rd ?_ ?_ _ _) | (with_reducible refine Below.drew ?_) | (with_reducible refine Below.setCell ?_ ?_ _) | go_size)⟩

set_option maxRecDepth 100000 in
theorem l3Re_any (x : C8) (h : C8.lim 1000000000 x) (w : World) :
    Calls Try.prog 70 #[cv x] w fun e w' => e = .returned (sS x.re) ∧ Below w.heap.size w w' := by
  obtain ⟨⟨p0, q0⟩, ⟨p1, q1⟩, ⟨p2, q2⟩, ⟨p3, q3⟩, ⟨p4, q4⟩, ⟨p5, q5⟩, ⟨p6, q6⟩, ⟨p7, q7⟩⟩ := h
  go_enter Try.func70, Try.ntmps70
  go_wp2
  go_returns
  exact ⟨rfl, by repeat' (first | (with_reducible exact Below.refl _ _) | (with_reducible assumption) | (with_reducible refine Below.alloc ?_ ?_ _) | (with_reducible refine below_more ?_ ?_ _ _) | (with_reducible refine below_rd ?_ ?_ _ _) | (with_reducible refine Below.drew ?_) | (with_reducible refine Below.setCell ?_ ?_ _) | go_size)⟩
set_option maxRecDepth 100000 in
theorem l3Im_any (x : C8) (h : C8.lim 1000000000 x) (w : World) :
    Calls Try.prog 59 #[cv x] w fun e w' => e = .returned (sS x.im) ∧ Below w.heap.size w w' := by
  obtain ⟨⟨p0, q0⟩, ⟨p1, q1⟩, ⟨p2, q2⟩, ⟨p3, q3⟩, ⟨p4, q4⟩, ⟨p5, q5⟩, ⟨p6, q6⟩, ⟨p7, q7⟩⟩ := h
  have e0 : x.im = ⟨2 * x.c2 + 4 * x.c6, -x.c1 + 2 * x.c3 + x.c5 + x.c7, 2 * x.c4, x.c1 + x.c5 + x.c7⟩ := by apply S4.ext' <;> simp only [C8.im] <;> omega
  go_enter Try.func59, Try.ntmps59
  go_wp2
  go_returns
  exact ⟨by rw [e0], by repeat' (first | (with_reducible exact Below.refl _ _) | (with_reducible assumption) | (with_reducible refine Below.alloc ?_ ?_ _) | (with_reducible refine below_more ?_ ?_ _ _) | (with_reducible refine below_rd ?_ ?_ _ _) | (with_reducible refine Below.drew ?_) | (with_reducible refine Below.setCell ?_ ?_ _) | go_size)⟩
end Go.Proofs.Ytklmlodapinflaa
