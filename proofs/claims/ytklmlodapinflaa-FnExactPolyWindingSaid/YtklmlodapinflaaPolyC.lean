/- Crosses of two points: small, cross, PolyCross, of the program and of the reference. -/
import Derived.Test.YtklmlodapinflaaSurdG
import Derived.Test.YtklmlodapinflaaCycI
import Derived.Deep.RegionHeld3
namespace Go.Proofs.Ytklmlodapinflaa
open Go.RowKit

/-- The cross of two points. -/
def crs (a b : C8) : S4 := (C8.mul a.mir b).im
/-- How far a point goes along another one. -/
def alg (a b : C8) : S4 := (C8.mul a.mir b).re
theorem crs_lim {a b : C8} (ha : C8.lim 1000 a) (hb : C8.lim 1000 b) : a.mir.wr = a.mir ∧ (C8.mul a.mir b).wr = C8.mul a.mir b ∧ C8.lim 1000000000 (C8.mul a.mir b) := by
  have h1 := lim_mir ha
  have h2 := lim_mul (by omega) (by omega) h1 hb
  exact ⟨wr_lim (by omega) h1, wr_lim (by omega) h2, C8.lim_mono h2 (by omega)⟩
theorem crs_swap (a b : C8) : crs b a = (crs a b).neg := by
  unfold crs
  rw [← im_mir, C8.mir_mul, C8.mir_mir, C8.mul_comm]
theorem crs_self (a : C8) : crs a a = S4.zero := by
  have h := crs_swap a a
  have h1 : (crs a a).a = -(crs a a).a := congrArg S4.a h
  have h2 : (crs a a).b = -(crs a a).b := congrArg S4.b h
  have h3 : (crs a a).c = -(crs a a).c := congrArg S4.c h
  have h4 : (crs a a).d = -(crs a a).d := congrArg S4.d h
  apply S4.ext' <;> simp only [S4.zero] <;> omega

theorem smallM_any (a : C8) (m : Int) (hm : 0 ≤ m) (hm2 : m ≤ 1000000) (w : World) :
    Calls Try.prog 66 #[cv a, .int .i64 m] w fun e w' => e = .returned (.bool (okM a m)) ∧ Below w.heap.size w w' := by
  go_enter Try.func66, Try.ntmps66
  go_wp2
  go_loop [9] (fun s => ∃ k : Nat, k ≤ 8 ∧ s = .int .i64 k ∧ Hid (∀ j, j < k → inB (a.g j) (-m) m = true)) (fun s => 8 - (intOf s).toNat)
  case atStart => exact ⟨0, by omega, rfl, fun j hj => by omega⟩
  case round =>
    obtain ⟨k, hk, rfl, hall⟩ := hrel
    by_cases hlt : k < 8
    · have ixk := ix8 a k hlt
      rcases Bool.eq_false_or_eq_true (inB (a.g k) (-m) m) with hin | hin
      · go_wp2_with (go_at_call 110; refine (within_any _ _ _ _).mono ?_; rintro e w' ⟨rfl, rfl⟩)
        go_round
        case rel => exact ⟨k + 1, by omega, by go_num, fun j hj => by rcases Nat.lt_succ_iff_lt_or_eq.1 hj with h | rfl; exact hall j h; exact hin⟩
        case measure => simp [intOf]; omega
      · go_wp2_with (go_at_call 110; refine (within_any _ _ _ _).mono ?_; rintro e w' ⟨rfl, rfl⟩)
        go_ret
        exact ⟨by rw [okM_no hlt hin]; rfl, by repeat' (first | (with_reducible exact Below.refl _ _) | (with_reducible assumption) | (with_reducible refine Below.alloc ?_ ?_ _) | (with_reducible refine below_more ?_ ?_ _ _) | (with_reducible refine below_rd ?_ ?_ _ _) | (with_reducible refine Below.drew ?_) | (with_reducible refine Below.setCell ?_ ?_ _) | go_size)⟩
    · have hok : okM a m = true := okM_iff.2 fun j hj => hall j (by omega)
      go_wp2
      go_ret
      exact ⟨by first | rfl | (rw [hok]; rfl), by repeat' (first | (with_reducible exact Below.refl _ _) | (with_reducible assumption) | (with_reducible refine Below.alloc ?_ ?_ _) | (with_reducible refine below_more ?_ ?_ _ _) | (with_reducible refine below_rd ?_ ?_ _ _) | (with_reducible refine Below.drew ?_) | (with_reducible refine Below.setCell ?_ ?_ _) | go_size)⟩
theorem l8Small_any (a : C8) (m : Int) (hm : 0 ≤ m) (hm2 : m ≤ 1000000) (w : World) :
    Calls Try.prog 63 #[cv a, .int .i64 m] w fun e w' => e = .returned (.bool (okM a m)) ∧ Below w.heap.size w w' := by
  go_enter Try.func63, Try.ntmps63
  go_wp2
  go_loop [5] (fun s => ∃ k : Nat, k ≤ 8 ∧ s = .int .i64 k ∧ Hid (∀ j, j < k → inB (a.g j) (-m) m = true)) (fun s => 8 - (intOf s).toNat)
  case atStart => exact ⟨0, by omega, rfl, fun j hj => by omega⟩
  case round =>
    obtain ⟨k, hk, rfl, hall⟩ := hrel
    by_cases hlt : k < 8
    · have ixk := row_g a k hlt
      rcases Bool.eq_false_or_eq_true (inB (a.g k) (-m) m) with hin | hin
      · go_wp2_with (go_at_call 105; refine (l6In_any _ _ _ _).mono ?_; rintro e w' ⟨rfl, rfl⟩)
        go_round
        case rel => exact ⟨k + 1, by omega, by go_num, fun j hj => by rcases Nat.lt_succ_iff_lt_or_eq.1 hj with h | rfl; exact hall j h; exact hin⟩
        case measure => simp [intOf]; omega
      · go_wp2_with (go_at_call 105; refine (l6In_any _ _ _ _).mono ?_; rintro e w' ⟨rfl, rfl⟩)
        go_ret
        exact ⟨by rw [okM_no hlt hin]; rfl, by repeat' (first | (with_reducible exact Below.refl _ _) | (with_reducible assumption) | (with_reducible refine Below.alloc ?_ ?_ _) | (with_reducible refine below_more ?_ ?_ _ _) | (with_reducible refine below_rd ?_ ?_ _ _) | (with_reducible refine Below.drew ?_) | (with_reducible refine Below.setCell ?_ ?_ _) | go_size)⟩
    · have hok : okM a m = true := okM_iff.2 fun j hj => hall j (by omega)
      go_wp2
      go_ret
      exact ⟨by first | rfl | (rw [hok]; rfl), by repeat' (first | (with_reducible exact Below.refl _ _) | (with_reducible assumption) | (with_reducible refine Below.alloc ?_ ?_ _) | (with_reducible refine below_more ?_ ?_ _ _) | (with_reducible refine below_rd ?_ ?_ _ _) | (with_reducible refine Below.drew ?_) | (with_reducible refine Below.setCell ?_ ?_ _) | go_size)⟩
set_option maxRecDepth 100000 in
set_option maxHeartbeats 2000000 in
theorem cross_any (a b : C8) (ha : C8.lim 1000 a) (hb : C8.lim 1000 b) (w : World) :
    Calls Try.prog 67 #[cv a, cv b] w fun e w' => e = .returned (sS (crs a b)) ∧ Below w.heap.size w w' := by
  obtain ⟨k1, k2, k3⟩ := crs_lim ha hb
  have K1 := Lib.hid k1
  have K2 := Lib.hid k2
  have K3 := Lib.hid k3
  clear k1 k2 k3 ha hb
  go_enter Try.func67, Try.ntmps67
  go_wp2_with fail
  go_region_held3 (fun w' => (w'.cell? ⟨w.heap.size, 0, none⟩ = some (.int .i64 a.c0) ∧ w'.cell? ⟨w.heap.size, 1, none⟩ = some (.int .i64 a.c1) ∧ w'.cell? ⟨w.heap.size, 2, none⟩ = some (.int .i64 a.c2) ∧ w'.cell? ⟨w.heap.size, 3, none⟩ = some (.int .i64 a.c3) ∧ w'.cell? ⟨w.heap.size, 4, none⟩ = some (.int .i64 a.c4) ∧ w'.cell? ⟨w.heap.size, 5, none⟩ = some (.int .i64 a.c5) ∧ w'.cell? ⟨w.heap.size, 6, none⟩ = some (.int .i64 a.c6) ∧ w'.cell? ⟨w.heap.size, 7, none⟩ = some (.int .i64 a.c7)) ∧ (w'.cell? ⟨w.heap.size + 1, 0, none⟩ = some (.int .i64 b.c0) ∧ w'.cell? ⟨w.heap.size + 1, 1, none⟩ = some (.int .i64 b.c1) ∧ w'.cell? ⟨w.heap.size + 1, 2, none⟩ = some (.int .i64 b.c2) ∧ w'.cell? ⟨w.heap.size + 1, 3, none⟩ = some (.int .i64 b.c3) ∧ w'.cell? ⟨w.heap.size + 1, 4, none⟩ = some (.int .i64 b.c4) ∧ w'.cell? ⟨w.heap.size + 1, 5, none⟩ = some (.int .i64 b.c5) ∧ w'.cell? ⟨w.heap.size + 1, 6, none⟩ = some (.int .i64 b.c6) ∧ w'.cell? ⟨w.heap.size + 1, 7, none⟩ = some (.int .i64 b.c7))) (simp [go_sem])
    (first
      | (go_at_call 60; refine (cmirror_any _ _).mono ?_; rw [K1.out]; rintro e w' ⟨rfl, hb⟩; obtain ⟨os, d, rfl⟩ := more_of_below hb; clear hb)
      | (go_at_call 111; refine (ctimes_any _ _ _).mono ?_; rw [K2.out]; rintro e w' ⟨rfl, hb⟩; obtain ⟨os, d, rfl⟩ := more_of_below hb; clear hb)
      | (go_at_call 55; refine (cim_any _ K3.out _).mono ?_; rintro e w' ⟨rfl, hb⟩; obtain ⟨os, d, rfl⟩ := more_of_below hb; clear hb))
  all_goals
    go_wp2
    go_returns
    exact ⟨rfl, by repeat' (first | (with_reducible exact Below.refl _ _) | (with_reducible assumption) | (with_reducible refine Below.alloc ?_ ?_ _) | (with_reducible refine below_more ?_ ?_ _ _) | (with_reducible refine below_rd ?_ ?_ _ _) | (with_reducible refine Below.drew ?_) | (with_reducible refine Below.setCell ?_ ?_ _) | go_size)⟩
set_option maxRecDepth 100000 in
set_option maxHeartbeats 2000000 in
theorem along_any (a b : C8) (ha : C8.lim 1000 a) (hb : C8.lim 1000 b) (w : World) :
    Calls Try.prog 117 #[cv a, cv b] w fun e w' => e = .returned (sS (alg a b)) ∧ Below w.heap.size w w' := by
  obtain ⟨k1, k2, k3⟩ := crs_lim ha hb
  have K1 := Lib.hid k1
  have K2 := Lib.hid k2
  have K3 := Lib.hid k3
  clear k1 k2 k3 ha hb
  go_enter Try.func117, Try.ntmps117
  go_wp2_with fail
  go_region_held3 (fun w' => (w'.cell? ⟨w.heap.size, 0, none⟩ = some (.int .i64 a.c0) ∧ w'.cell? ⟨w.heap.size, 1, none⟩ = some (.int .i64 a.c1) ∧ w'.cell? ⟨w.heap.size, 2, none⟩ = some (.int .i64 a.c2) ∧ w'.cell? ⟨w.heap.size, 3, none⟩ = some (.int .i64 a.c3) ∧ w'.cell? ⟨w.heap.size, 4, none⟩ = some (.int .i64 a.c4) ∧ w'.cell? ⟨w.heap.size, 5, none⟩ = some (.int .i64 a.c5) ∧ w'.cell? ⟨w.heap.size, 6, none⟩ = some (.int .i64 a.c6) ∧ w'.cell? ⟨w.heap.size, 7, none⟩ = some (.int .i64 a.c7)) ∧ (w'.cell? ⟨w.heap.size + 1, 0, none⟩ = some (.int .i64 b.c0) ∧ w'.cell? ⟨w.heap.size + 1, 1, none⟩ = some (.int .i64 b.c1) ∧ w'.cell? ⟨w.heap.size + 1, 2, none⟩ = some (.int .i64 b.c2) ∧ w'.cell? ⟨w.heap.size + 1, 3, none⟩ = some (.int .i64 b.c3) ∧ w'.cell? ⟨w.heap.size + 1, 4, none⟩ = some (.int .i64 b.c4) ∧ w'.cell? ⟨w.heap.size + 1, 5, none⟩ = some (.int .i64 b.c5) ∧ w'.cell? ⟨w.heap.size + 1, 6, none⟩ = some (.int .i64 b.c6) ∧ w'.cell? ⟨w.heap.size + 1, 7, none⟩ = some (.int .i64 b.c7))) (simp [go_sem])
    (first
      | (go_at_call 60; refine (cmirror_any _ _).mono ?_; rw [K1.out]; rintro e w' ⟨rfl, hb⟩; obtain ⟨os, d, rfl⟩ := more_of_below hb; clear hb)
      | (go_at_call 111; refine (ctimes_any _ _ _).mono ?_; rw [K2.out]; rintro e w' ⟨rfl, hb⟩; obtain ⟨os, d, rfl⟩ := more_of_below hb; clear hb)
      | (go_at_call 69; refine (cre_any _ K3.out _).mono ?_; rintro e w' ⟨rfl, hb⟩; obtain ⟨os, d, rfl⟩ := more_of_below hb; clear hb))
  all_goals
    go_wp2
    go_returns
    exact ⟨rfl, by repeat' (first | (with_reducible exact Below.refl _ _) | (with_reducible assumption) | (with_reducible refine Below.alloc ?_ ?_ _) | (with_reducible refine below_more ?_ ?_ _ _) | (with_reducible refine below_rd ?_ ?_ _ _) | (with_reducible refine Below.drew ?_) | (with_reducible refine Below.setCell ?_ ?_ _) | go_size)⟩
set_option maxRecDepth 100000 in
set_option maxHeartbeats 2000000 in
theorem l8Cross_any (a b : C8) (ha : C8.lim 1000 a) (hb : C8.lim 1000 b) (w : World) :
    Calls Try.prog 64 #[cv a, cv b] w fun e w' => e = .returned (sS (crs a b)) ∧ Below w.heap.size w w' := by
  obtain ⟨k1, k2, k3⟩ := crs_lim ha hb
  have K1 := Lib.hid k1
  have K2 := Lib.hid ((C8.mulToW_succ a.mir b 7).trans k2)
  have K3 := Lib.hid k3
  clear k1 k2 k3 ha hb
  go_enter Try.func64, Try.ntmps64
  go_wp2_with fail
  go_region_held3 (fun w' => (w'.cell? ⟨w.heap.size, 0, none⟩ = some (.int .i64 a.c0) ∧ w'.cell? ⟨w.heap.size, 1, none⟩ = some (.int .i64 a.c1) ∧ w'.cell? ⟨w.heap.size, 2, none⟩ = some (.int .i64 a.c2) ∧ w'.cell? ⟨w.heap.size, 3, none⟩ = some (.int .i64 a.c3) ∧ w'.cell? ⟨w.heap.size, 4, none⟩ = some (.int .i64 a.c4) ∧ w'.cell? ⟨w.heap.size, 5, none⟩ = some (.int .i64 a.c5) ∧ w'.cell? ⟨w.heap.size, 6, none⟩ = some (.int .i64 a.c6) ∧ w'.cell? ⟨w.heap.size, 7, none⟩ = some (.int .i64 a.c7)) ∧ (w'.cell? ⟨w.heap.size + 1, 0, none⟩ = some (.int .i64 b.c0) ∧ w'.cell? ⟨w.heap.size + 1, 1, none⟩ = some (.int .i64 b.c1) ∧ w'.cell? ⟨w.heap.size + 1, 2, none⟩ = some (.int .i64 b.c2) ∧ w'.cell? ⟨w.heap.size + 1, 3, none⟩ = some (.int .i64 b.c3) ∧ w'.cell? ⟨w.heap.size + 1, 4, none⟩ = some (.int .i64 b.c4) ∧ w'.cell? ⟨w.heap.size + 1, 5, none⟩ = some (.int .i64 b.c5) ∧ w'.cell? ⟨w.heap.size + 1, 6, none⟩ = some (.int .i64 b.c6) ∧ w'.cell? ⟨w.heap.size + 1, 7, none⟩ = some (.int .i64 b.c7))) (simp [go_sem])
    (first
      | (go_at_call 109; refine (l2Mirror_any _ _).mono ?_; rw [K1.out]; rintro e w' ⟨rfl, hb⟩; obtain ⟨os, d, rfl⟩ := more_of_below hb; clear hb)
      | (go_at_call 108; refine (l2Times_any _ _ _).mono ?_; rw [K2.out]; rintro e w' ⟨rfl, hb⟩; obtain ⟨os, d, rfl⟩ := more_of_below hb; clear hb)
      | (go_at_call 59; refine (l3Im_any _ K3.out _).mono ?_; rintro e w' ⟨rfl, hb⟩; obtain ⟨os, d, rfl⟩ := more_of_below hb; clear hb))
  all_goals
    go_wp2
    go_returns
    exact ⟨rfl, by repeat' (first | (with_reducible exact Below.refl _ _) | (with_reducible assumption) | (with_reducible refine Below.alloc ?_ ?_ _) | (with_reducible refine below_more ?_ ?_ _ _) | (with_reducible refine below_rd ?_ ?_ _ _) | (with_reducible refine Below.drew ?_) | (with_reducible refine Below.setCell ?_ ?_ _) | go_size)⟩

/-- The cross is told. -/
def pcOk (a b : C8) : Bool := okM a 1000 && okM b 1000 && okT (crs a b)
def pcR (a b : C8) : S4 := if pcOk a b = true then crs a b else S4.zero
theorem polyCross_yes (a b : C8) (w : World) (h : pcOk a b = true) :
    Calls Try.prog 21 #[cv a, cv b] w fun e w' => e = .returned (.tuple #[sS (crs a b), .bool true]) ∧ Below w.heap.size w w' := by
  simp only [pcOk, Bool.and_eq_true] at h
  obtain ⟨⟨h1, h2⟩, h3⟩ := h
  have HA := Lib.hid (okM_lim h1)
  have HB := Lib.hid (okM_lim h2)
  have H3 := Lib.hid (show okS (crs a b).a (crs a b).b (crs a b).c (crs a b).d = true from h3)
  clear h3
  go_enter Try.func21, Try.ntmps21
  go_wp2_with (first
    | (go_at_call 66; refine (smallM_any _ _ (by omega) (by omega) _).mono ?_; rintro e w' ⟨rfl, hb⟩; obtain ⟨os, d, rfl⟩ := more_of_below hb; clear hb)
    | (go_at_call 67; refine (cross_any _ _ HA.out HB.out _).mono ?_; rintro e w' ⟨rfl, hb⟩; obtain ⟨os, d, rfl⟩ := more_of_below hb; clear hb)
    | (go_at_call 56; refine (made_yes _ _ _ _ _ H3.out).mono ?_; rintro e w' ⟨rfl, hb⟩; obtain ⟨os, d, rfl⟩ := more_of_below hb; clear hb))
  go_returns
  exact ⟨rfl, by repeat' (first | (with_reducible exact Below.refl _ _) | (with_reducible assumption) | (with_reducible refine Below.alloc ?_ ?_ _) | (with_reducible refine below_more ?_ ?_ _ _) | (with_reducible refine below_rd ?_ ?_ _ _) | (with_reducible refine Below.drew ?_) | (with_reducible refine Below.setCell ?_ ?_ _) | go_size)⟩
theorem polyCross_no (a b : C8) (w : World) (h : pcOk a b = false) :
    Calls Try.prog 21 #[cv a, cv b] w fun e w' => e = .returned (.tuple #[sv 0 0 0 0, .bool false]) ∧ Below w.heap.size w w' := by
  rcases Bool.eq_false_or_eq_true (okM a 1000) with h1 | h1
  · rcases Bool.eq_false_or_eq_true (okM b 1000) with h2 | h2
    · have HA := Lib.hid (okM_lim h1)
      have HB := Lib.hid (okM_lim h2)
      have H3 := Lib.hid (show okS (crs a b).a (crs a b).b (crs a b).c (crs a b).d = false by simpa [pcOk, okT, h1, h2] using h)
      clear h
      go_enter Try.func21, Try.ntmps21
      go_wp2_with (first
        | (go_at_call 66; refine (smallM_any _ _ (by omega) (by omega) _).mono ?_; rintro e w' ⟨rfl, hb⟩; obtain ⟨os, d, rfl⟩ := more_of_below hb; clear hb)
        | (go_at_call 67; refine (cross_any _ _ HA.out HB.out _).mono ?_; rintro e w' ⟨rfl, hb⟩; obtain ⟨os, d, rfl⟩ := more_of_below hb; clear hb)
        | (go_at_call 56; refine (made_no _ _ _ _ _ H3.out).mono ?_; rintro e w' ⟨rfl, hb⟩; obtain ⟨os, d, rfl⟩ := more_of_below hb; clear hb))
      go_returns
      exact ⟨rfl, by repeat' (first | (with_reducible exact Below.refl _ _) | (with_reducible assumption) | (with_reducible refine Below.alloc ?_ ?_ _) | (with_reducible refine below_more ?_ ?_ _ _) | (with_reducible refine below_rd ?_ ?_ _ _) | (with_reducible refine Below.drew ?_) | (with_reducible refine Below.setCell ?_ ?_ _) | go_size)⟩
    · clear h
      go_enter Try.func21, Try.ntmps21
      go_wp2_with (go_at_call 66; refine (smallM_any _ _ (by omega) (by omega) _).mono ?_; rintro e w' ⟨rfl, hb⟩; obtain ⟨os, d, rfl⟩ := more_of_below hb; clear hb)
      go_returns
      exact ⟨rfl, by repeat' (first | (with_reducible exact Below.refl _ _) | (with_reducible assumption) | (with_reducible refine Below.alloc ?_ ?_ _) | (with_reducible refine below_more ?_ ?_ _ _) | (with_reducible refine below_rd ?_ ?_ _ _) | (with_reducible refine Below.drew ?_) | (with_reducible refine Below.setCell ?_ ?_ _) | go_size)⟩
  · clear h
    go_enter Try.func21, Try.ntmps21
    go_wp2_with (go_at_call 66; refine (smallM_any _ _ (by omega) (by omega) _).mono ?_; rintro e w' ⟨rfl, hb⟩; obtain ⟨os, d, rfl⟩ := more_of_below hb; clear hb)
    go_returns
    exact ⟨rfl, by repeat' (first | (with_reducible exact Below.refl _ _) | (with_reducible assumption) | (with_reducible refine Below.alloc ?_ ?_ _) | (with_reducible refine below_more ?_ ?_ _ _) | (with_reducible refine below_rd ?_ ?_ _ _) | (with_reducible refine Below.drew ?_) | (with_reducible refine Below.setCell ?_ ?_ _) | go_size)⟩
theorem polyCross_any (a b : C8) (w : World) :
    Calls Try.prog 21 #[cv a, cv b] w fun e w' => e = .returned (.tuple #[sS (pcR a b), .bool (pcOk a b)]) ∧ Below w.heap.size w w' := by
  rcases Bool.eq_false_or_eq_true (pcOk a b) with h | h
  · rw [h, show pcR a b = crs a b by simp [pcR, h]]; exact polyCross_yes a b w h
  · rw [h, show pcR a b = S4.zero by simp [pcR, h]]; exact polyCross_no a b w h

theorem specPolyCross_yes (a b : C8) (w : World) (h : pcOk a b = true) :
    Calls Try.prog 19 #[cv a, cv b] w fun e w' => e = .returned (.tuple #[sS (crs a b), .bool true]) ∧ Below w.heap.size w w' := by
  simp only [pcOk, Bool.and_eq_true] at h
  obtain ⟨⟨h1, h2⟩, h3⟩ := h
  have HA := Lib.hid (okM_lim h1)
  have HB := Lib.hid (okM_lim h2)
  have H3 := Lib.hid (show okS (crs a b).a (crs a b).b (crs a b).c (crs a b).d = true from h3)
  clear h3
  go_enter Try.func19, Try.ntmps19
  go_wp2_with (first
    | (go_at_call 63; refine (l8Small_any _ _ (by omega) (by omega) _).mono ?_; rintro e w' ⟨rfl, hb⟩; obtain ⟨os, d, rfl⟩ := more_of_below hb; clear hb)
    | (go_at_call 64; refine (l8Cross_any _ _ HA.out HB.out _).mono ?_; rintro e w' ⟨rfl, hb⟩; obtain ⟨os, d, rfl⟩ := more_of_below hb; clear hb)
    | (go_at_call 58; refine (done_yes _ _ _ _ _ H3.out).mono ?_; rintro e w' ⟨rfl, hb⟩; obtain ⟨os, d, rfl⟩ := more_of_below hb; clear hb))
  go_returns
  exact ⟨rfl, by repeat' (first | (with_reducible exact Below.refl _ _) | (with_reducible assumption) | (with_reducible refine Below.alloc ?_ ?_ _) | (with_reducible refine below_more ?_ ?_ _ _) | (with_reducible refine below_rd ?_ ?_ _ _) | (with_reducible refine Below.drew ?_) | (with_reducible refine Below.setCell ?_ ?_ _) | go_size)⟩
theorem specPolyCross_no (a b : C8) (w : World) (h : pcOk a b = false) :
    Calls Try.prog 19 #[cv a, cv b] w fun e w' => e = .returned (.tuple #[sv 0 0 0 0, .bool false]) ∧ Below w.heap.size w w' := by
  rcases Bool.eq_false_or_eq_true (okM a 1000) with h1 | h1
  · rcases Bool.eq_false_or_eq_true (okM b 1000) with h2 | h2
    · have HA := Lib.hid (okM_lim h1)
      have HB := Lib.hid (okM_lim h2)
      have H3 := Lib.hid (show okS (crs a b).a (crs a b).b (crs a b).c (crs a b).d = false by simpa [pcOk, okT, h1, h2] using h)
      clear h
      go_enter Try.func19, Try.ntmps19
      go_wp2_with (first
        | (go_at_call 63; refine (l8Small_any _ _ (by omega) (by omega) _).mono ?_; rintro e w' ⟨rfl, hb⟩; obtain ⟨os, d, rfl⟩ := more_of_below hb; clear hb)
        | (go_at_call 64; refine (l8Cross_any _ _ HA.out HB.out _).mono ?_; rintro e w' ⟨rfl, hb⟩; obtain ⟨os, d, rfl⟩ := more_of_below hb; clear hb)
        | (go_at_call 58; refine (done_no _ _ _ _ _ H3.out).mono ?_; rintro e w' ⟨rfl, hb⟩; obtain ⟨os, d, rfl⟩ := more_of_below hb; clear hb))
      go_returns
      exact ⟨rfl, by repeat' (first | (with_reducible exact Below.refl _ _) | (with_reducible assumption) | (with_reducible refine Below.alloc ?_ ?_ _) | (with_reducible refine below_more ?_ ?_ _ _) | (with_reducible refine below_rd ?_ ?_ _ _) | (with_reducible refine Below.drew ?_) | (with_reducible refine Below.setCell ?_ ?_ _) | go_size)⟩
    · clear h
      go_enter Try.func19, Try.ntmps19
      go_wp2_with (go_at_call 63; refine (l8Small_any _ _ (by omega) (by omega) _).mono ?_; rintro e w' ⟨rfl, hb⟩; obtain ⟨os, d, rfl⟩ := more_of_below hb; clear hb)
      go_returns
      exact ⟨rfl, by repeat' (first | (with_reducible exact Below.refl _ _) | (with_reducible assumption) | (with_reducible refine Below.alloc ?_ ?_ _) | (with_reducible refine below_more ?_ ?_ _ _) | (with_reducible refine below_rd ?_ ?_ _ _) | (with_reducible refine Below.drew ?_) | (with_reducible refine Below.setCell ?_ ?_ _) | go_size)⟩
  · clear h
    go_enter Try.func19, Try.ntmps19
    go_wp2_with (go_at_call 63; refine (l8Small_any _ _ (by omega) (by omega) _).mono ?_; rintro e w' ⟨rfl, hb⟩; obtain ⟨os, d, rfl⟩ := more_of_below hb; clear hb)
    go_returns
    exact ⟨rfl, by repeat' (first | (with_reducible exact Below.refl _ _) | (with_reducible assumption) | (with_reducible refine Below.alloc ?_ ?_ _) | (with_reducible refine below_more ?_ ?_ _ _) | (with_reducible refine below_rd ?_ ?_ _ _) | (with_reducible refine Below.drew ?_) | (with_reducible refine Below.setCell ?_ ?_ _) | go_size)⟩
theorem specPolyCross_any (a b : C8) (w : World) :
    Calls Try.prog 19 #[cv a, cv b] w fun e w' => e = .returned (.tuple #[sS (pcR a b), .bool (pcOk a b)]) ∧ Below w.heap.size w w' := by
  rcases Bool.eq_false_or_eq_true (pcOk a b) with h | h
  · rw [h, show pcR a b = crs a b by simp [pcR, h]]; exact specPolyCross_yes a b w h
  · rw [h, show pcR a b = S4.zero by simp [pcR, h]]; exact specPolyCross_no a b w h
end Go.Proofs.Ytklmlodapinflaa
