/- Contracts on exact points: the reference's products and mirrored points. -/
import Derived.Test.YtklmlodapinflaaCycB
import Derived.StillTailTactics
import Derived.Deep.RegionHeld3
namespace Go.Proofs.Ytklmlodapinflaa
open Go.RowKit

set_option maxRecDepth 100000 in
theorem l2Times_any (a b : C8) (w : World) :
    Calls Try.prog 108 #[cv a, cv b] w fun e w' => e = .returned (cv (C8.mulToW a b 8)) ∧ Below w.heap.size w w' := by
  go_enter Try.func108, Try.ntmps108
  go_wp2
  go_loopw [6] (fun s wr => ∃ k : Nat, k ≤ 8 ∧ s = .int .i64 k ∧ ∃ os d, wr = more ((((w.alloc (.cells (row a) 25)).alloc (.cells (row (b.turnW k)) 25)).alloc (.cells (row C8.zero) 25)).alloc (.cells (row (C8.mulToW a b k)) 25)) os d) (fun s _ => 8 - (intOf s).toNat)
  case atStart => exact ⟨0, by omega, rfl, _, _, more_self _⟩
  case round =>
    obtain ⟨k, hk, rfl, os, d, rfl⟩ := hrel
    by_cases hlt : k < 8
    · have r1 := row_g a k hlt
      go_wp2
      (refine still_tail 6 (by kernel_rfl) (by kernel_rfl) ?_; simp only [List.take_succ_cons, List.take_zero, List.drop_succ_cons, List.drop_zero]; (repeat still_step); try refine wpStill_nil ?_)
      go_wp2_with (first
        | (go_at_call 85; refine (l2Sum_any _ _ _ _).mono ?_; rintro e w' ⟨rfl, hb⟩; obtain ⟨os, d, rfl⟩ := more_of_below hb; clear hb)
        | (go_at_call 125; refine (l2Step_any _ _).mono ?_; rintro e w' ⟨rfl, hb⟩; obtain ⟨os, d, rfl⟩ := more_of_below hb; clear hb))
      go_roundw
      case rel => exact ⟨k + 1, by omega, by go_num, _, _, rfl⟩
      case measure => simp [intOf]; omega
    · obtain rfl : k = 8 := by omega
      go_wp2
      go_returns
      exact ⟨rfl, by repeat' (first | (with_reducible exact Below.refl _ _) | (with_reducible assumption) | (with_reducible refine Below.alloc ?_ ?_ _) | (with_reducible refine below_more ?_ ?_ _ _) | (with_reducible refine below_rd ?_ ?_ _ _) | (with_reducible refine Below.drew ?_) | (with_reducible refine Below.setCell ?_ ?_ _) | go_size)⟩

set_option maxRecDepth 100000 in
set_option maxHeartbeats 1000000 in
theorem l2Mirror_any (a : C8) (w : World) :
    Calls Try.prog 109 #[cv a] w fun e w' => e = .returned (cv a.mir.wr) ∧ Below w.heap.size w w' := by
  have HM : Hid (a.mirToW 8 = a.mir.wr) := (C8.mirToW_succ a 7).trans (by rw [C8.mirTo_8])
  go_enter Try.func109, Try.ntmps109
  go_wp2
  go_loopw [4] (fun s wr => ∃ k : Nat, k ≤ 8 ∧ s = .int .i64 k ∧ ∃ os d, wr = more (((w.alloc (.cells (row a) 25)).alloc (.cells (row C8.zero) 25)).alloc (.cells (row (a.mirToW k)) 25)) os d) (fun s _ => 8 - (intOf s).toNat)
  case atStart => exact ⟨0, by omega, rfl, _, _, more_self _⟩
  case round =>
    obtain ⟨k, hk, rfl, os0, d0, rfl⟩ := hrel
    by_cases hlt : k < 8
    · have r1 := row_g a k hlt
      obtain ⟨m, hm⟩ : ∃ m : Nat, (24 - k) % 24 = m := ⟨_, rfl⟩
      have hm24 : m < 24 := by omega
      have ek : (-(k : Int)) % 24 = (m : Int) := by omega
      have EK := Lib.hid ek
      have HM2 := Lib.hid hm
      clear ek hm
      go_wp2_with (first
        | (go_at_call 122; refine (l1Mod_any _ (by omega) (by omega) _).mono ?_; rw [EK.out]; rintro e w' ⟨rfl, rfl⟩)
        | (go_at_call 100; refine (specRoot_yes _ hm24 _).mono ?_; rintro e w' ⟨rfl, hb⟩; obtain ⟨os, d, rfl⟩ := more_of_below hb; clear hb))
      (refine still_tail 6 (by kernel_rfl) (by kernel_rfl) ?_; simp only [List.take_succ_cons, List.take_zero, List.drop_succ_cons, List.drop_zero]; (repeat still_step); try refine wpStill_nil ?_)
      go_wp2_with (go_at_call 85; refine (l2Sum_any _ _ _ _).mono ?_; rintro e w' ⟨rfl, hb⟩; obtain ⟨os, d, rfl⟩ := more_of_below hb; clear hb)
      go_roundw
      case rel => exact ⟨k + 1, by omega, by go_num, _, _, by rw [more_alloc, more_more, ← HM2.out]; rfl⟩
      case measure => simp [intOf]; omega
    · obtain rfl : k = 8 := by omega
      go_wp2
      go_returns
      exact ⟨by rw [HM.out], by repeat' (first | (with_reducible exact Below.refl _ _) | (with_reducible assumption) | (with_reducible refine Below.alloc ?_ ?_ _) | (with_reducible refine below_more ?_ ?_ _ _) | (with_reducible refine below_rd ?_ ?_ _ _) | (with_reducible refine Below.drew ?_) | (with_reducible refine Below.setCell ?_ ?_ _) | go_size)⟩
end Go.Proofs.Ytklmlodapinflaa
