/- The public functions on exact points: turned, mirrored, sums, roots, whole points: of the program and of the reference. Printed by mkpub.py. -/
import Derived.Test.YtklmlodapinflaaCycF
namespace Go.Proofs.Ytklmlodapinflaa
open Go.RowKit

/-! Turned points. -/
def tuOk (a : C8) (n : Int) : Bool := okC a && inB n 0 23 && okC (a.turn n.toNat)
theorem tuOk_yes {a : C8} {n : Int} (h : tuOk a n = true) : okC a = true ∧ inB n 0 23 = true ∧ okC (a.turn n.toNat) = true ∧ ∃ k : Nat, n = k ∧ k < 24 := by
  simp only [tuOk, Bool.and_eq_true] at h
  obtain ⟨⟨h1, h2⟩, h3⟩ := h
  have := inB_iff.1 h2
  exact ⟨h1, h2, h3, n.toNat, by omega, by omega⟩

theorem cycTurned_yes (a : C8) (n : Int) (w : World) (h : tuOk a n = true) :
    Calls Try.prog 27 #[cv a, .int .i64 n] w fun e w' => e = .returned (.tuple #[cv (a.turn n.toNat), .bool true]) ∧ Below w.heap.size w w' := by
  obtain ⟨h1, h2, h3, k, rfl, hk⟩ := tuOk_yes h
  clear h
  rw [Int.toNat_natCast] at h3 ⊢
  have K := Lib.hid (show (C8.mul a (C8.rt (((k : Int) % 24).toNat))).wr = a.turn k by rw [show ((k : Int) % 24).toNat = k by omega, C8.mul_rt, C8.turn_wr h1 k hk])
  go_enter Try.func27, Try.ntmps27
  go_wp2_with (first
    | (go_at_call 54; refine (cvalid_any _ _).mono ?_; rintro e w' ⟨rfl, hb⟩; obtain ⟨os, d, rfl⟩ := more_of_below hb; clear hb)
    | (go_at_call 71; refine (turnValid_any _ _).mono ?_; rintro e w' ⟨rfl, rfl⟩)
    | (go_at_call 72; refine (cturned_any _ _ (by omega) (by omega) _).mono ?_; rw [K.out]; rintro e w' ⟨rfl, hb⟩; obtain ⟨os, d, rfl⟩ := more_of_below hb; clear hb)
    | (go_at_call 61; refine (cmade_yes _ _ h3).mono ?_; rintro e w' ⟨rfl, hb⟩; obtain ⟨os, d, rfl⟩ := more_of_below hb; clear hb))
  go_returns
  exact ⟨rfl, by repeat' (first | (with_reducible exact Below.refl _ _) | (with_reducible assumption) | (with_reducible refine Below.alloc ?_ ?_ _) | (with_reducible refine below_more ?_ ?_ _ _) | (with_reducible refine below_rd ?_ ?_ _ _) | (with_reducible refine Below.drew ?_) | (with_reducible refine Below.setCell ?_ ?_ _) | go_size)⟩

set_option maxHeartbeats 1000000 in
theorem cycTurned_no (a : C8) (n : Int) (w : World) (h : tuOk a n = false) :
    Calls Try.prog 27 #[cv a, .int .i64 n] w fun e w' => e = .returned (.tuple #[cv C8.zero, .bool false]) ∧ Below w.heap.size w w' := by
  rcases Bool.eq_false_or_eq_true (okC a) with h1 | h1
  · rcases Bool.eq_false_or_eq_true (inB n 0 23) with h2 | h2
    · have h3 : okC (a.turn n.toNat) = false := by simpa [tuOk, h1, h2] using h
      obtain ⟨k, rfl, hk⟩ : ∃ k : Nat, n = k ∧ k < 24 := ⟨n.toNat, by have := inB_iff.1 h2; omega, by have := inB_iff.1 h2; omega⟩
      rw [Int.toNat_natCast] at h3
      have K := Lib.hid (show (C8.mul a (C8.rt (((k : Int) % 24).toNat))).wr = a.turn k by rw [show ((k : Int) % 24).toNat = k by omega, C8.mul_rt, C8.turn_wr h1 k hk])
      clear h
      go_enter Try.func27, Try.ntmps27
      go_wp2_with (first
        | (go_at_call 54; refine (cvalid_any _ _).mono ?_; rintro e w' ⟨rfl, hb⟩; obtain ⟨os, d, rfl⟩ := more_of_below hb; clear hb)
        | (go_at_call 71; refine (turnValid_any _ _).mono ?_; rintro e w' ⟨rfl, rfl⟩)
        | (go_at_call 72; refine (cturned_any _ _ (by omega) (by omega) _).mono ?_; rw [K.out]; rintro e w' ⟨rfl, hb⟩; obtain ⟨os, d, rfl⟩ := more_of_below hb; clear hb)
        | (go_at_call 61; refine (cmade_no _ _ h3).mono ?_; rintro e w' ⟨rfl, hb⟩; obtain ⟨os, d, rfl⟩ := more_of_below hb; clear hb))
      go_returns
      exact ⟨rfl, by repeat' (first | (with_reducible exact Below.refl _ _) | (with_reducible assumption) | (with_reducible refine Below.alloc ?_ ?_ _) | (with_reducible refine below_more ?_ ?_ _ _) | (with_reducible refine below_rd ?_ ?_ _ _) | (with_reducible refine Below.drew ?_) | (with_reducible refine Below.setCell ?_ ?_ _) | go_size)⟩
    · clear h
      go_enter Try.func27, Try.ntmps27
      go_wp2_with (first
        | (go_at_call 54; refine (cvalid_any _ _).mono ?_; rintro e w' ⟨rfl, hb⟩; obtain ⟨os, d, rfl⟩ := more_of_below hb; clear hb)
        | (go_at_call 71; refine (turnValid_any _ _).mono ?_; rintro e w' ⟨rfl, rfl⟩))
      go_returns
      exact ⟨rfl, by repeat' (first | (with_reducible exact Below.refl _ _) | (with_reducible assumption) | (with_reducible refine Below.alloc ?_ ?_ _) | (with_reducible refine below_more ?_ ?_ _ _) | (with_reducible refine below_rd ?_ ?_ _ _) | (with_reducible refine Below.drew ?_) | (with_reducible refine Below.setCell ?_ ?_ _) | go_size)⟩
  · clear h
    go_enter Try.func27, Try.ntmps27
    go_wp2_with (go_at_call 54; refine (cvalid_any _ _).mono ?_; rintro e w' ⟨rfl, hb⟩; obtain ⟨os, d, rfl⟩ := more_of_below hb; clear hb)
    go_returns
    exact ⟨rfl, by repeat' (first | (with_reducible exact Below.refl _ _) | (with_reducible assumption) | (with_reducible refine Below.alloc ?_ ?_ _) | (with_reducible refine below_more ?_ ?_ _ _) | (with_reducible refine below_rd ?_ ?_ _ _) | (with_reducible refine Below.drew ?_) | (with_reducible refine Below.setCell ?_ ?_ _) | go_size)⟩



/-! Mirrored points, sums. -/
def miOk (a : C8) : Bool := okC a && okC a.mir
def adOk (a b : C8) : Bool := okC a && okC b && okC (C8.add a b)

theorem cycMirror_yes (a : C8) (w : World) (h : miOk a = true) :
    Calls Try.prog 17 #[cv a] w fun e w' => e = .returned (.tuple #[cv a.mir, .bool true]) ∧ Below w.heap.size w w' := by
  simp only [miOk, Bool.and_eq_true] at h
  obtain ⟨h1, h3⟩ := h
  have K := Lib.hid (C8.mir_wr h1)
  go_enter Try.func17, Try.ntmps17
  go_wp2_with (first
    | (go_at_call 54; refine (cvalid_any _ _).mono ?_; rintro e w' ⟨rfl, hb⟩; obtain ⟨os, d, rfl⟩ := more_of_below hb; clear hb)
    | (go_at_call 60; refine (cmirror_any _ _).mono ?_; rw [K.out]; rintro e w' ⟨rfl, hb⟩; obtain ⟨os, d, rfl⟩ := more_of_below hb; clear hb)
    | (go_at_call 61; refine (cmade_yes _ _ h3).mono ?_; rintro e w' ⟨rfl, hb⟩; obtain ⟨os, d, rfl⟩ := more_of_below hb; clear hb))
  go_returns
  exact ⟨rfl, by repeat' (first | (with_reducible exact Below.refl _ _) | (with_reducible assumption) | (with_reducible refine Below.alloc ?_ ?_ _) | (with_reducible refine below_more ?_ ?_ _ _) | (with_reducible refine below_rd ?_ ?_ _ _) | (with_reducible refine Below.drew ?_) | (with_reducible refine Below.setCell ?_ ?_ _) | go_size)⟩

set_option maxHeartbeats 1000000 in
theorem cycMirror_no (a : C8) (w : World) (h : miOk a = false) :
    Calls Try.prog 17 #[cv a] w fun e w' => e = .returned (.tuple #[cv C8.zero, .bool false]) ∧ Below w.heap.size w w' := by
  rcases Bool.eq_false_or_eq_true (okC a) with h1 | h1
  · have h3 : okC a.mir = false := by simpa [miOk, h1] using h
    have K := Lib.hid (C8.mir_wr h1)
    clear h
    go_enter Try.func17, Try.ntmps17
    go_wp2_with (first
      | (go_at_call 54; refine (cvalid_any _ _).mono ?_; rintro e w' ⟨rfl, hb⟩; obtain ⟨os, d, rfl⟩ := more_of_below hb; clear hb)
      | (go_at_call 60; refine (cmirror_any _ _).mono ?_; rw [K.out]; rintro e w' ⟨rfl, hb⟩; obtain ⟨os, d, rfl⟩ := more_of_below hb; clear hb)
      | (go_at_call 61; refine (cmade_no _ _ h3).mono ?_; rintro e w' ⟨rfl, hb⟩; obtain ⟨os, d, rfl⟩ := more_of_below hb; clear hb))
    go_returns
    exact ⟨rfl, by repeat' (first | (with_reducible exact Below.refl _ _) | (with_reducible assumption) | (with_reducible refine Below.alloc ?_ ?_ _) | (with_reducible refine below_more ?_ ?_ _ _) | (with_reducible refine below_rd ?_ ?_ _ _) | (with_reducible refine Below.drew ?_) | (with_reducible refine Below.setCell ?_ ?_ _) | go_size)⟩
  · clear h
    go_enter Try.func17, Try.ntmps17
    go_wp2_with (go_at_call 54; refine (cvalid_any _ _).mono ?_; rintro e w' ⟨rfl, hb⟩; obtain ⟨os, d, rfl⟩ := more_of_below hb; clear hb)
    go_returns
    exact ⟨rfl, by repeat' (first | (with_reducible exact Below.refl _ _) | (with_reducible assumption) | (with_reducible refine Below.alloc ?_ ?_ _) | (with_reducible refine below_more ?_ ?_ _ _) | (with_reducible refine below_rd ?_ ?_ _ _) | (with_reducible refine Below.drew ?_) | (with_reducible refine Below.setCell ?_ ?_ _) | go_size)⟩



theorem specCycMirror_yes (a : C8) (w : World) (h : miOk a = true) :
    Calls Try.prog 73 #[cv a] w fun e w' => e = .returned (.tuple #[cv a.mir, .bool true]) ∧ Below w.heap.size w w' := by
  simp only [miOk, Bool.and_eq_true] at h
  obtain ⟨h1, h3⟩ := h
  have K := Lib.hid (C8.mir_wr h1)
  go_enter Try.func73, Try.ntmps73
  go_wp2_with (first
    | (go_at_call 57; refine (specCValid_any _ _).mono ?_; rintro e w' ⟨rfl, hb⟩; obtain ⟨os, d, rfl⟩ := more_of_below hb; clear hb)
    | (go_at_call 109; refine (l2Mirror_any _ _).mono ?_; rw [K.out]; rintro e w' ⟨rfl, hb⟩; obtain ⟨os, d, rfl⟩ := more_of_below hb; clear hb)
    | (go_at_call 90; refine (cdone_yes _ _ h3).mono ?_; rintro e w' ⟨rfl, hb⟩; obtain ⟨os, d, rfl⟩ := more_of_below hb; clear hb))
  go_returns
  exact ⟨rfl, by repeat' (first | (with_reducible exact Below.refl _ _) | (with_reducible assumption) | (with_reducible refine Below.alloc ?_ ?_ _) | (with_reducible refine below_more ?_ ?_ _ _) | (with_reducible refine below_rd ?_ ?_ _ _) | (with_reducible refine Below.drew ?_) | (with_reducible refine Below.setCell ?_ ?_ _) | go_size)⟩

set_option maxHeartbeats 1000000 in
theorem specCycMirror_no (a : C8) (w : World) (h : miOk a = false) :
    Calls Try.prog 73 #[cv a] w fun e w' => e = .returned (.tuple #[cv C8.zero, .bool false]) ∧ Below w.heap.size w w' := by
  rcases Bool.eq_false_or_eq_true (okC a) with h1 | h1
  · have h3 : okC a.mir = false := by simpa [miOk, h1] using h
    have K := Lib.hid (C8.mir_wr h1)
    clear h
    go_enter Try.func73, Try.ntmps73
    go_wp2_with (first
      | (go_at_call 57; refine (specCValid_any _ _).mono ?_; rintro e w' ⟨rfl, hb⟩; obtain ⟨os, d, rfl⟩ := more_of_below hb; clear hb)
      | (go_at_call 109; refine (l2Mirror_any _ _).mono ?_; rw [K.out]; rintro e w' ⟨rfl, hb⟩; obtain ⟨os, d, rfl⟩ := more_of_below hb; clear hb)
      | (go_at_call 90; refine (cdone_no _ _ h3).mono ?_; rintro e w' ⟨rfl, hb⟩; obtain ⟨os, d, rfl⟩ := more_of_below hb; clear hb))
    go_returns
    exact ⟨rfl, by repeat' (first | (with_reducible exact Below.refl _ _) | (with_reducible assumption) | (with_reducible refine Below.alloc ?_ ?_ _) | (with_reducible refine below_more ?_ ?_ _ _) | (with_reducible refine below_rd ?_ ?_ _ _) | (with_reducible refine Below.drew ?_) | (with_reducible refine Below.setCell ?_ ?_ _) | go_size)⟩
  · clear h
    go_enter Try.func73, Try.ntmps73
    go_wp2_with (go_at_call 57; refine (specCValid_any _ _).mono ?_; rintro e w' ⟨rfl, hb⟩; obtain ⟨os, d, rfl⟩ := more_of_below hb; clear hb)
    go_returns
    exact ⟨rfl, by repeat' (first | (with_reducible exact Below.refl _ _) | (with_reducible assumption) | (with_reducible refine Below.alloc ?_ ?_ _) | (with_reducible refine below_more ?_ ?_ _ _) | (with_reducible refine below_rd ?_ ?_ _ _) | (with_reducible refine Below.drew ?_) | (with_reducible refine Below.setCell ?_ ?_ _) | go_size)⟩



/-! Roots; whole points. -/


/-- A whole point. -/
def C8.gs (x y : Int) : C8 := ⟨x, 0, 0, 0, 0, 0, y, 0⟩
theorem gs_upd (x y : Int) : ((C8.zero.upd 0 x).upd 6 y) = C8.gs x y := by apply C8.ext' <;> simp [C8.upd, C8.gs, C8.zero]




theorem l2Gauss_any (x y : Int) (w : World) :
    Calls Try.prog 101 #[.int .i64 x, .int .i64 y] w fun e w' => e = .returned (cv (C8.gs x y)) ∧ Below w.heap.size w w' := by
  go_enter Try.func101, Try.ntmps101
  go_wp2
  all_goals (try go_region)
  all_goals (try go_wp2)
  all_goals go_returns
  all_goals exact ⟨by rw [gs_upd], by repeat' (first | (with_reducible exact Below.refl _ _) | (with_reducible assumption) | (with_reducible refine Below.alloc ?_ ?_ _) | (with_reducible refine below_more ?_ ?_ _ _) | (with_reducible refine below_rd ?_ ?_ _ _) | (with_reducible refine Below.drew ?_) | (with_reducible refine Below.setCell ?_ ?_ _) | go_size)⟩



end Go.Proofs.Ytklmlodapinflaa
