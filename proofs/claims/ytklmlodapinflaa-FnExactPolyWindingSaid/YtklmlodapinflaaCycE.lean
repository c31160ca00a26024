/- Contracts on exact points: the program's products, roots, turned and mirrored points, sums. -/
import Derived.Test.YtklmlodapinflaaCycD
import Derived.Test.YtklmlodapinflaaCycQ
import Derived.Test.YtklmlodapinflaaCycR
import Derived.StillTailTactics
import Derived.Deep.RegionHeld3
namespace Go.Proofs.Ytklmlodapinflaa
open Go.RowKit

theorem mk15 (w : World) : (Instr.makeSlice 116 (.int .i64 15) (.int .i64 15)).run Try.prog w = .ok (.slice (some ⟨w.heap.size, 0, none⟩) 15 15) (w.alloc (.cells (vals (zeros 15)) 3)) := by kernel_rfl

set_option maxRecDepth 100000 in
set_option maxHeartbeats 1000000 in
theorem ctimes_any (a b : C8) (w : World) :
    Calls Try.prog 111 #[cv a, cv b] w fun e w' => e = .returned (cv (C8.mul a b).wr) ∧ Below w.heap.size w w' := by
  have hmk := mk15
  go_enter Try.func111, Try.ntmps111
  go_wp2
  go_loopw [13] (fun s wr => ∃ i : Nat, i ≤ 8 ∧ s = .int .i64 i ∧ ∃ os d, wr = more ((((w.alloc (.cells (row a) 25)).alloc (.cells (row b) 25)).alloc (.cells (row C8.zero) 25)).alloc (.cells (vals (outM a b i)) 3)) os d) (fun s _ => 8 - (intOf s).toNat)
  case atStart => exact ⟨0, by omega, rfl, _, _, more_self _⟩
  case round =>
    obtain ⟨i, hi, rfl, os, d, rfl⟩ := hrel
    by_cases hlt : i < 8
    · have ixa := ix8 a i hlt
      go_wp2
      go_loopw [19] (fun s wr => ∃ k : Nat, k ≤ 8 ∧ s = .int .i64 k ∧ ∃ os d, wr = more ((((w.alloc (.cells (row a) 25)).alloc (.cells (row b) 25)).alloc (.cells (row C8.zero) 25)).alloc (.cells (vals (inM (a.g i) b i (outM a b i) k)) 3)) os d) (fun s _ => 8 - (intOf s).toNat)
      case atStart => exact ⟨0, by omega, rfl, _, _, rfl⟩
      case round =>
        obtain ⟨k, hk, rfl, os, d, rfl⟩ := hrel
        by_cases hltk : k < 8
        · have ixb := ix8 b k hltk
          have g1 := vals_gt (inM (a.g i) b i (outM a b i) k) (i + k) (by rw [inM_len, outM_len]; omega)
          go_wp2
          go_roundw
          case rel => exact ⟨k + 1, by omega, by go_num, _, _, rfl⟩
          case measure => simp [intOf]; omega
        · obtain rfl : k = 8 := by omega
          go_wp2
          go_roundw
          case rel => exact ⟨i + 1, by omega, by go_num, _, _, rfl⟩
          case measure => simp [intOf]; omega
    · obtain rfl : i = 8 := by omega
      go_wp2_with (go_at_call 107; refine (reduced_at (((w.alloc (.cells (row a) 25)).alloc (.cells (row b) 25)).alloc (.cells (row C8.zero) 25)) _ (by simp) (outM a b 8) os d 15 (outM_len a b 8) (by omega) (by omega) _ (C8.red_mul a b)).mono ?_; rintro e w' ⟨rfl, hb⟩; obtain ⟨os, d, rfl⟩ := more_of_below hb; clear hb)
      go_returns
      exact ⟨rfl, by repeat' (first | (with_reducible exact Below.refl _ _) | (with_reducible assumption) | (with_reducible refine Below.alloc ?_ ?_ _) | (with_reducible refine below_more ?_ ?_ _ _) | (with_reducible refine below_rd ?_ ?_ _ _) | (with_reducible refine Below.drew ?_) | (with_reducible refine Below.setCell ?_ ?_ _) | go_size)⟩

theorem mk24 (w : World) : (Instr.makeSlice 116 (.int .i64 24) (.int .i64 24)).run Try.prog w = .ok (.slice (some ⟨w.heap.size, 0, none⟩) 24 24) (w.alloc (.cells (vals (zeros 24)) 3)) := by kernel_rfl

set_option maxRecDepth 100000 in
theorem root_any (n : Nat) (hn : n < 24) (w : World) :
    Calls Try.prog 112 #[.int .i64 n] w fun e w' => e = .returned (cv (C8.rt n)) ∧ Below w.heap.size w w' := by
  have hmk := mk24
  have g1 := vals_gt (zeros 24) n (by rw [zeros_len]; exact hn)
  go_enter Try.func112, Try.ntmps112
  go_wp2_with (go_at_call 107; refine (reduced_new (w.alloc (.cells (row C8.zero) 25)) _ (by simp) ((zeros 24).set n 1) 24 (by rw [List.length_set, zeros_len]) (by omega) (by omega) _ (C8.red_root n hn)).mono ?_; rintro e w' ⟨rfl, hb⟩; obtain ⟨os, d, rfl⟩ := more_of_below hb; clear hb)
  go_returns
  exact ⟨rfl, by repeat' (first | (with_reducible exact Below.refl _ _) | (with_reducible assumption) | (with_reducible refine Below.alloc ?_ ?_ _) | (with_reducible refine below_more ?_ ?_ _ _) | (with_reducible refine below_rd ?_ ?_ _ _) | (with_reducible refine Below.drew ?_) | (with_reducible refine Below.setCell ?_ ?_ _) | go_size)⟩

theorem turnOf_any (n : Int) (h1 : -1000000000 ≤ n) (h2 : n ≤ 1000000000) (w : World) :
    Calls Try.prog 103 #[.int .i64 n] w fun e w' => e = .returned (.int .i64 (n % 24)) ∧ w = w' := by
  have e : n.tmod 24 = n % 24 ∨ (n.tmod 24 = n % 24 - 24 ∧ 0 < n % 24) := by
    by_cases h0 : 0 ≤ n
    · left; exact Int.tmod_eq_emod_of_nonneg h0
    · have : n.tmod 24 = -((-n) % 24) := by rw [← Int.tmod_eq_emod_of_nonneg (by omega : 0 ≤ -n), Int.neg_tmod]; omega
      omega
  have e1 : -24 < n.tmod 24 := by omega
  have e2 : n.tmod 24 < 24 := by omega
  have E := Lib.hid e
  clear e
  go_enter Try.func103, Try.ntmps103
  go_wp2
  go_ret
  exact ⟨ret_int (by have := E.out; omega), rfl⟩

theorem turnValid_any (n : Int) (w : World) :
    Calls Try.prog 71 #[.int .i64 n] w fun e w' => e = .returned (.bool (inB n 0 23)) ∧ w = w' := by
  go_enter Try.func71, Try.ntmps71
  go_wp2_with (go_at_call 110; refine (within_any _ _ _ _).mono ?_; rintro e w' ⟨rfl, rfl⟩)
  go_ret
  exact ⟨rfl, rfl⟩

theorem mk25 (w : World) : (Instr.makeSlice 116 (.int .i64 25) (.int .i64 25)).run Try.prog w = .ok (.slice (some ⟨w.heap.size, 0, none⟩) 25 25) (w.alloc (.cells (vals (zeros 25)) 3)) := by kernel_rfl

set_option maxRecDepth 100000 in
set_option maxHeartbeats 1000000 in
theorem cmirror_any (a : C8) (w : World) :
    Calls Try.prog 60 #[cv a] w fun e w' => e = .returned (cv a.mir.wr) ∧ Below w.heap.size w w' := by
  have hmk := mk25
  go_enter Try.func60, Try.ntmps60
  go_wp2
  go_loopw [9] (fun s wr => ∃ k : Nat, k ≤ 8 ∧ s = .int .i64 k ∧ ∃ os d, wr = more (((w.alloc (.cells (row a) 25)).alloc (.cells (row C8.zero) 25)).alloc (.cells (vals (mirM a k)) 3)) os d) (fun s _ => 8 - (intOf s).toNat)
  case atStart => exact ⟨0, by omega, rfl, _, _, more_self _⟩
  case round =>
    obtain ⟨k, hk, rfl, os, d, rfl⟩ := hrel
    by_cases hltk : k < 8
    · have ixb := ix8 a k hltk
      have g1 := vals_gt (mirM a k) ((24 - k) % 24) (by rw [mirM_len]; omega)
      have ek : ((24 : Int) - (k : Int)) % 24 = (((24 - k) % 24 : Nat) : Int) := by omega
      go_wp2
      go_roundw
      case rel => exact ⟨k + 1, by omega, by go_num, _, _, rfl⟩
      case measure => simp [intOf]; omega
    · obtain rfl : k = 8 := by omega
      go_wp2_with (go_at_call 107; refine (reduced_at ((w.alloc (.cells (row a) 25)).alloc (.cells (row C8.zero) 25)) _ (by simp) (mirM a 8) os d 25 (mirM_len a 8) (by omega) (by omega) _ (C8.red_mir a)).mono ?_; rintro e w' ⟨rfl, hb⟩; obtain ⟨os, d, rfl⟩ := more_of_below hb; clear hb)
      go_returns
      exact ⟨rfl, by repeat' (first | (with_reducible exact Below.refl _ _) | (with_reducible assumption) | (with_reducible refine Below.alloc ?_ ?_ _) | (with_reducible refine below_more ?_ ?_ _ _) | (with_reducible refine below_rd ?_ ?_ _ _) | (with_reducible refine Below.drew ?_) | (with_reducible refine Below.setCell ?_ ?_ _) | go_size)⟩

set_option maxRecDepth 100000 in
theorem cplus_any (a b : C8) (w : World) :
    Calls Try.prog 119 #[cv a, cv b] w fun e w' => e = .returned (cv (C8.add a b).wr) ∧ Below w.heap.size w w' := by
  go_enter Try.func119, Try.ntmps119
  go_wp2
  go_loopw [9] (fun s wr => ∃ k : Nat, k ≤ 8 ∧ s = .int .i64 k ∧ wr = ((w.alloc (.cells (row (C8.addTo a b k)) 25)).alloc (.cells (row b) 25)).alloc (.cells (row C8.zero) 25)) (fun s _ => 8 - (intOf s).toNat)
  case atStart => exact ⟨0, by omega, rfl, rfl⟩
  case round =>
    obtain ⟨k, hk, rfl, rfl⟩ := hrel
    by_cases hltk : k < 8
    · have ixb := ix8 b k hltk
      have r1 := row_g (C8.addTo a b k) k hltk
      go_wp2
      go_roundw
      case rel => exact ⟨k + 1, by omega, by go_num, rfl⟩
      case measure => simp [intOf]; omega
    · obtain rfl : k = 8 := by omega
      go_wp2
      go_returns
      exact ⟨by rw [C8.addTo_8], by repeat' (first | (with_reducible exact Below.refl _ _) | (with_reducible assumption) | (with_reducible refine Below.alloc ?_ ?_ _) | (with_reducible refine below_more ?_ ?_ _ _) | (with_reducible refine below_rd ?_ ?_ _ _) | (with_reducible refine Below.drew ?_) | (with_reducible refine Below.setCell ?_ ?_ _) | go_size)⟩

set_option maxHeartbeats 1000000 in
theorem cturned_any (a : C8) (n : Int) (h1 : -1000000000 ≤ n) (h2 : n ≤ 1000000000) (w : World) :
    Calls Try.prog 72 #[cv a, .int .i64 n] w fun e w' => e = .returned (cv (C8.mul a (C8.rt (n % 24).toNat)).wr) ∧ Below w.heap.size w w' := by
  obtain ⟨k, hk, hk24⟩ : ∃ k : Nat, n % 24 = k ∧ k < 24 := ⟨(n % 24).toNat, by omega, by omega⟩
  have HK := Lib.hid hk
  rw [hk, Int.toNat_natCast]
  clear hk
  go_enter Try.func72, Try.ntmps72
  go_wp2_with fail
  go_region_held3 (fun w' => w'.cell? ⟨w.heap.size, 0, none⟩ = some (.int .i64 a.c0) ∧ w'.cell? ⟨w.heap.size, 1, none⟩ = some (.int .i64 a.c1) ∧ w'.cell? ⟨w.heap.size, 2, none⟩ = some (.int .i64 a.c2) ∧ w'.cell? ⟨w.heap.size, 3, none⟩ = some (.int .i64 a.c3) ∧ w'.cell? ⟨w.heap.size, 4, none⟩ = some (.int .i64 a.c4) ∧ w'.cell? ⟨w.heap.size, 5, none⟩ = some (.int .i64 a.c5) ∧ w'.cell? ⟨w.heap.size, 6, none⟩ = some (.int .i64 a.c6) ∧ w'.cell? ⟨w.heap.size, 7, none⟩ = some (.int .i64 a.c7)) (simp [go_sem])
    (first
      | (go_at_call 103; refine (turnOf_any _ h1 h2 _).mono ?_; rw [HK.out]; rintro e w' ⟨rfl, rfl⟩)
      | (go_at_call 112; refine (root_any _ hk24 _).mono ?_; rintro e w' ⟨rfl, hb⟩; obtain ⟨os, d, rfl⟩ := more_of_below hb; clear hb)
      | (go_at_call 111; refine (ctimes_any _ _ _).mono ?_; rintro e w' ⟨rfl, hb⟩; obtain ⟨os, d, rfl⟩ := more_of_below hb; clear hb))
  all_goals
    go_wp2
    go_returns
    exact ⟨rfl, by repeat' (first | (with_reducible exact Below.refl _ _) | (with_reducible assumption) | (with_reducible refine Below.alloc ?_ ?_ _) | (with_reducible refine below_more ?_ ?_ _ _) | (with_reducible refine below_rd ?_ ?_ _ _) | (with_reducible refine Below.drew ?_) | (with_reducible refine Below.setCell ?_ ?_ _) | go_size)⟩
end Go.Proofs.Ytklmlodapinflaa
