/- Contracts on exact points: the reference's sum of a multiple, its step, and steps done so many times. -/
import Derived.Test.YtklmlodapinflaaCycA
namespace Go.Proofs.Ytklmlodapinflaa
open Go.RowKit

theorem l2Sum_any (a : C8) (n : Int) (b : C8) (w : World) :
    Calls Try.prog 85 #[cv a, .int .i64 n, cv b] w fun e w' => e = .returned (cv (a.sumW n b)) ∧ Below w.heap.size w w' := by
  go_enter Try.func85, Try.ntmps85
  go_wp2
  go_loopw [7] (fun s wr => ∃ k : Nat, k ≤ 8 ∧ s = .int .i64 k ∧ ∃ os d, wr = more (((w.alloc (.cells (row (a.sumTo n b k)) 25)).alloc (.cells (row b) 25)).alloc (.cells (row C8.zero) 25)) os d) (fun s _ => 8 - (intOf s).toNat)
  case atStart => exact ⟨0, by omega, rfl, _, _, more_self _⟩
  case round =>
    obtain ⟨k, hk, rfl, os, d, rfl⟩ := hrel
    by_cases hlt : k < 8
    · have r1 := row_g (a.sumTo n b k) k hlt
      have r2 := row_g b k hlt
      go_wp2
      go_region
      all_goals
        go_wp2
        go_roundw
        case rel => exact ⟨k + 1, by omega, by go_num, _, _, rfl⟩
        case measure => simp [intOf]; omega
    · obtain rfl : k = 8 := by omega
      go_wp2
      go_returns
      exact ⟨by rw [C8.sumTo_8], by repeat' (first | (with_reducible exact Below.refl _ _) | (with_reducible assumption) | (with_reducible refine Below.alloc ?_ ?_ _) | (with_reducible refine below_more ?_ ?_ _ _) | (with_reducible refine below_rd ?_ ?_ _ _) | (with_reducible refine Below.drew ?_) | (with_reducible refine Below.setCell ?_ ?_ _) | go_size)⟩

theorem l2Step_any (a : C8) (w : World) :
    Calls Try.prog 125 #[cv a] w fun e w' => e = .returned (cv a.stpW) ∧ Below w.heap.size w w' := by
  go_enter Try.func125, Try.ntmps125
  go_wp2
  go_loopw [4] (fun s wr => ∃ k : Nat, k ≤ 7 ∧ s = .int .i64 (k + 1) ∧ wr = ((w.alloc (.cells (row a) 25)).alloc (.cells (row C8.zero) 25)).alloc (.cells (row (a.stpTo k)) 25)) (fun s _ => 8 - (intOf s).toNat)
  case atStart => exact ⟨0, by omega, rfl, rfl⟩
  case round =>
    obtain ⟨k, hk, rfl, rfl⟩ := hrel
    by_cases hlt : k < 7
    · have r1 := row_g a k (by omega)
      have r2 := row_g (a.stpTo k) (k + 1) (by omega)
      go_wp2
      go_roundw
      case rel => exact ⟨k + 1, by omega, by go_num, rfl⟩
      case measure => simp [intOf]; omega
    · obtain rfl : k = 7 := by omega
      go_wp2
      go_returns
      exact ⟨by rw [C8.stpTo_7], by repeat' (first | (with_reducible exact Below.refl _ _) | (with_reducible assumption) | (with_reducible refine Below.alloc ?_ ?_ _) | (with_reducible refine below_more ?_ ?_ _ _) | (with_reducible refine below_rd ?_ ?_ _ _) | (with_reducible refine Below.drew ?_) | (with_reducible refine Below.setCell ?_ ?_ _) | go_size)⟩

theorem l2Turned_any (a : C8) (n : Nat) (hn : n < 24) (w : World) :
    Calls Try.prog 121 #[cv a, .int .i64 n] w fun e w' => e = .returned (cv (a.turnW n)) ∧ Below w.heap.size w w' := by
  go_enter Try.func121, Try.ntmps121
  go_wp2
  go_loopw [5] (fun s wr => ∃ k : Nat, k ≤ n ∧ s = .int .i64 k ∧ ∃ os d, wr = more ((w.alloc (.cells (row (a.turnW k)) 25)).alloc (.cells (row C8.zero) 25)) os d) (fun s _ => n - (intOf s).toNat)
  case atStart => exact ⟨0, by omega, rfl, _, _, more_self _⟩
  case round =>
    obtain ⟨k, hk, rfl, os, d, rfl⟩ := hrel
    by_cases hlt : k < n
    · go_wp2_with (go_at_call 125; refine (l2Step_any _ _).mono ?_; rintro e w' ⟨rfl, hb⟩; obtain ⟨os, d, rfl⟩ := more_of_below hb; clear hb)
      go_roundw
      case rel => exact ⟨k + 1, by omega, by go_num, _, _, rfl⟩
      case measure => simp [intOf]; omega
    · obtain rfl : k = n := by omega
      go_wp2
      go_returns
      exact ⟨rfl, by repeat' (first | (with_reducible exact Below.refl _ _) | (with_reducible assumption) | (with_reducible refine Below.alloc ?_ ?_ _) | (with_reducible refine below_more ?_ ?_ _ _) | (with_reducible refine below_rd ?_ ?_ _ _) | (with_reducible refine Below.drew ?_) | (with_reducible refine Below.setCell ?_ ?_ _) | go_size)⟩

theorem l1Mod_any (n : Int) (h1 : -1000000000 ≤ n) (h2 : n ≤ 1000000000) (w : World) :
    Calls Try.prog 122 #[.int .i64 n] w fun e w' => e = .returned (.int .i64 (n % 24)) ∧ w = w' := by
  by_cases h0 : 0 ≤ n
  · go_enter Try.func122, Try.ntmps122
    go_wp2
    all_goals (go_ret; exact ⟨ret_int (by omega), rfl⟩)
  · have e : n.tmod 24 = -((-n) % 24) := by rw [← Int.tmod_eq_emod_of_nonneg (by omega : 0 ≤ -n), Int.neg_tmod]; omega
    by_cases h3 : n.tmod 24 < 0
    all_goals
      go_enter Try.func122, Try.ntmps122
      go_wp2
      all_goals (go_ret; exact ⟨ret_int (by omega), rfl⟩)

theorem l1Is_any (n : Int) (w : World) :
    Calls Try.prog 89 #[.int .i64 n] w fun e w' => e = .returned (.bool (inB n 0 23)) ∧ w = w' := by
  go_enter Try.func89, Try.ntmps89
  go_wp2_with (go_at_call 105; refine (l6In_any _ _ _ _).mono ?_; rintro e w' ⟨rfl, rfl⟩)
  go_ret
  exact ⟨rfl, rfl⟩

theorem specRoot_yes (n : Nat) (h : n < 24) (w : World) :
    Calls Try.prog 100 #[.int .i64 n] w fun e w' => e = .returned (.tuple #[cv (C8.rt n), .bool true]) ∧ Below w.heap.size w w' := by
  have hin : inB n 0 23 = true := inB_iff.2 (by omega)
  have K := Lib.hid (C8.rtW n h)
  go_enter Try.func100, Try.ntmps100
  go_wp2_with (first
    | (go_at_call 89; refine (l1Is_any _ _).mono ?_; rintro e w' ⟨rfl, rfl⟩)
    | (go_at_call 121; refine (l2Turned_any C8.one n h _).mono ?_; rw [K.out]; rintro e w' ⟨rfl, hb⟩; obtain ⟨os, d, rfl⟩ := more_of_below hb; clear hb))
  go_returns
  exact ⟨rfl, by repeat' (first | (with_reducible exact Below.refl _ _) | (with_reducible assumption) | (with_reducible refine Below.alloc ?_ ?_ _) | (with_reducible refine below_more ?_ ?_ _ _) | (with_reducible refine below_rd ?_ ?_ _ _) | (with_reducible refine Below.drew ?_) | (with_reducible refine Below.setCell ?_ ?_ _) | go_size)⟩

theorem specRoot_no (n : Int) (h : inB n 0 23 = false) (w : World) :
    Calls Try.prog 100 #[.int .i64 n] w fun e w' => e = .returned (.tuple #[cv C8.zero, .bool false]) ∧ Below w.heap.size w w' := by
  go_enter Try.func100, Try.ntmps100
  go_wp2_with (go_at_call 89; refine (l1Is_any _ _).mono ?_; rintro e w' ⟨rfl, rfl⟩)
  go_returns
  exact ⟨rfl, by repeat' (first | (with_reducible exact Below.refl _ _) | (with_reducible assumption) | (with_reducible refine Below.alloc ?_ ?_ _) | (with_reducible refine below_more ?_ ?_ _ _) | (with_reducible refine below_rd ?_ ?_ _ _) | (with_reducible refine Below.drew ?_) | (with_reducible refine Below.setCell ?_ ?_ _) | go_size)⟩
end Go.Proofs.Ytklmlodapinflaa
