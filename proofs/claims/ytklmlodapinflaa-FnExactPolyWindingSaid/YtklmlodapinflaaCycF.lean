/- The public functions on exact points, of the program and of the reference: both return the same. -/
import Derived.Test.YtklmlodapinflaaCycC
import Derived.Test.YtklmlodapinflaaCycE
import Derived.Test.YtklmlodapinflaaCycQ
namespace Go.Proofs.Ytklmlodapinflaa
open Go.RowKit

/-! Products. -/
def tmOk (a b : C8) : Bool := okC a && okC b && okC (C8.mul a b)

theorem cycTimes_yes (a b : C8) (w : World) (h : tmOk a b = true) :
    Calls Try.prog 75 #[cv a, cv b] w fun e w' => e = .returned (.tuple #[cv (C8.mul a b), .bool true]) ∧ Below w.heap.size w w' := by
  simp only [tmOk, Bool.and_eq_true] at h
  obtain ⟨⟨h1, h2⟩, h3⟩ := h
  have K := Lib.hid (C8.mul_wr h1 h2)
  go_enter Try.func75, Try.ntmps75
  go_wp2_with (first
    | (go_at_call 54; refine (cvalid_any _ _).mono ?_; rintro e w' ⟨rfl, hb⟩; obtain ⟨os, d, rfl⟩ := more_of_below hb; clear hb)
    | (go_at_call 111; refine (ctimes_any _ _ _).mono ?_; rw [K.out]; rintro e w' ⟨rfl, hb⟩; obtain ⟨os, d, rfl⟩ := more_of_below hb; clear hb)
    | (go_at_call 61; refine (cmade_yes _ _ h3).mono ?_; rintro e w' ⟨rfl, hb⟩; obtain ⟨os, d, rfl⟩ := more_of_below hb; clear hb))
  go_returns
  exact ⟨rfl, by repeat' (first | (with_reducible exact Below.refl _ _) | (with_reducible assumption) | (with_reducible refine Below.alloc ?_ ?_ _) | (with_reducible refine below_more ?_ ?_ _ _) | (with_reducible refine below_rd ?_ ?_ _ _) | (with_reducible refine Below.drew ?_) | (with_reducible refine Below.setCell ?_ ?_ _) | go_size)⟩

set_option maxHeartbeats 1000000 in
theorem cycTimes_no (a b : C8) (w : World) (h : tmOk a b = false) :
    Calls Try.prog 75 #[cv a, cv b] w fun e w' => e = .returned (.tuple #[cv C8.zero, .bool false]) ∧ Below w.heap.size w w' := by
  rcases Bool.eq_false_or_eq_true (okC a) with h1 | h1
  · rcases Bool.eq_false_or_eq_true (okC b) with h2 | h2
    · have h3 : okC (C8.mul a b) = false := by simpa [tmOk, h1, h2] using h
      have K := Lib.hid (C8.mul_wr h1 h2)
      clear h
      go_enter Try.func75, Try.ntmps75
      go_wp2_with (first
        | (go_at_call 54; refine (cvalid_any _ _).mono ?_; rintro e w' ⟨rfl, hb⟩; obtain ⟨os, d, rfl⟩ := more_of_below hb; clear hb)
        | (go_at_call 111; refine (ctimes_any _ _ _).mono ?_; rw [K.out]; rintro e w' ⟨rfl, hb⟩; obtain ⟨os, d, rfl⟩ := more_of_below hb; clear hb)
        | (go_at_call 61; refine (cmade_no _ _ h3).mono ?_; rintro e w' ⟨rfl, hb⟩; obtain ⟨os, d, rfl⟩ := more_of_below hb; clear hb))
      go_returns
      exact ⟨rfl, by repeat' (first | (with_reducible exact Below.refl _ _) | (with_reducible assumption) | (with_reducible refine Below.alloc ?_ ?_ _) | (with_reducible refine below_more ?_ ?_ _ _) | (with_reducible refine below_rd ?_ ?_ _ _) | (with_reducible refine Below.drew ?_) | (with_reducible refine Below.setCell ?_ ?_ _) | go_size)⟩
    all_goals
      clear h
      go_enter Try.func75, Try.ntmps75
      go_wp2_with (go_at_call 54; refine (cvalid_any _ _).mono ?_; rintro e w' ⟨rfl, hb⟩; obtain ⟨os, d, rfl⟩ := more_of_below hb; clear hb)
      go_returns
      exact ⟨rfl, by repeat' (first | (with_reducible exact Below.refl _ _) | (with_reducible assumption) | (with_reducible refine Below.alloc ?_ ?_ _) | (with_reducible refine below_more ?_ ?_ _ _) | (with_reducible refine below_rd ?_ ?_ _ _) | (with_reducible refine Below.drew ?_) | (with_reducible refine Below.setCell ?_ ?_ _) | go_size)⟩
  · clear h
    go_enter Try.func75, Try.ntmps75
    go_wp2_with (go_at_call 54; refine (cvalid_any _ _).mono ?_; rintro e w' ⟨rfl, hb⟩; obtain ⟨os, d, rfl⟩ := more_of_below hb; clear hb)
    go_returns
    exact ⟨rfl, by repeat' (first | (with_reducible exact Below.refl _ _) | (with_reducible assumption) | (with_reducible refine Below.alloc ?_ ?_ _) | (with_reducible refine below_more ?_ ?_ _ _) | (with_reducible refine below_rd ?_ ?_ _ _) | (with_reducible refine Below.drew ?_) | (with_reducible refine Below.setCell ?_ ?_ _) | go_size)⟩

theorem specCycTimes_yes (a b : C8) (w : World) (h : tmOk a b = true) :
    Calls Try.prog 74 #[cv a, cv b] w fun e w' => e = .returned (.tuple #[cv (C8.mul a b), .bool true]) ∧ Below w.heap.size w w' := by
  simp only [tmOk, Bool.and_eq_true] at h
  obtain ⟨⟨h1, h2⟩, h3⟩ := h
  have K := Lib.hid ((C8.mulToW_succ a b 7).trans (C8.mul_wr h1 h2))
  go_enter Try.func74, Try.ntmps74
  go_wp2_with (first
    | (go_at_call 57; refine (specCValid_any _ _).mono ?_; rintro e w' ⟨rfl, hb⟩; obtain ⟨os, d, rfl⟩ := more_of_below hb; clear hb)
    | (go_at_call 108; refine (l2Times_any _ _ _).mono ?_; rw [K.out]; rintro e w' ⟨rfl, hb⟩; obtain ⟨os, d, rfl⟩ := more_of_below hb; clear hb)
    | (go_at_call 90; refine (cdone_yes _ _ h3).mono ?_; rintro e w' ⟨rfl, hb⟩; obtain ⟨os, d, rfl⟩ := more_of_below hb; clear hb))
  go_returns
  exact ⟨rfl, by repeat' (first | (with_reducible exact Below.refl _ _) | (with_reducible assumption) | (with_reducible refine Below.alloc ?_ ?_ _) | (with_reducible refine below_more ?_ ?_ _ _) | (with_reducible refine below_rd ?_ ?_ _ _) | (with_reducible refine Below.drew ?_) | (with_reducible refine Below.setCell ?_ ?_ _) | go_size)⟩

set_option maxHeartbeats 1000000 in
theorem specCycTimes_no (a b : C8) (w : World) (h : tmOk a b = false) :
    Calls Try.prog 74 #[cv a, cv b] w fun e w' => e = .returned (.tuple #[cv C8.zero, .bool false]) ∧ Below w.heap.size w w' := by
  rcases Bool.eq_false_or_eq_true (okC a) with h1 | h1
  · rcases Bool.eq_false_or_eq_true (okC b) with h2 | h2
    · have h3 : okC (C8.mul a b) = false := by simpa [tmOk, h1, h2] using h
      have K := Lib.hid ((C8.mulToW_succ a b 7).trans (C8.mul_wr h1 h2))
      clear h
      go_enter Try.func74, Try.ntmps74
      go_wp2_with (first
        | (go_at_call 57; refine (specCValid_any _ _).mono ?_; rintro e w' ⟨rfl, hb⟩; obtain ⟨os, d, rfl⟩ := more_of_below hb; clear hb)
        | (go_at_call 108; refine (l2Times_any _ _ _).mono ?_; rw [K.out]; rintro e w' ⟨rfl, hb⟩; obtain ⟨os, d, rfl⟩ := more_of_below hb; clear hb)
        | (go_at_call 90; refine (cdone_no _ _ h3).mono ?_; rintro e w' ⟨rfl, hb⟩; obtain ⟨os, d, rfl⟩ := more_of_below hb; clear hb))
      go_returns
      exact ⟨rfl, by repeat' (first | (with_reducible exact Below.refl _ _) | (with_reducible assumption) | (with_reducible refine Below.alloc ?_ ?_ _) | (with_reducible refine below_more ?_ ?_ _ _) | (with_reducible refine below_rd ?_ ?_ _ _) | (with_reducible refine Below.drew ?_) | (with_reducible refine Below.setCell ?_ ?_ _) | go_size)⟩
    all_goals
      clear h
      go_enter Try.func74, Try.ntmps74
      go_wp2_with (go_at_call 57; refine (specCValid_any _ _).mono ?_; rintro e w' ⟨rfl, hb⟩; obtain ⟨os, d, rfl⟩ := more_of_below hb; clear hb)
      go_returns
      exact ⟨rfl, by repeat' (first | (with_reducible exact Below.refl _ _) | (with_reducible assumption) | (with_reducible refine Below.alloc ?_ ?_ _) | (with_reducible refine below_more ?_ ?_ _ _) | (with_reducible refine below_rd ?_ ?_ _ _) | (with_reducible refine Below.drew ?_) | (with_reducible refine Below.setCell ?_ ?_ _) | go_size)⟩
  · clear h
    go_enter Try.func74, Try.ntmps74
    go_wp2_with (go_at_call 57; refine (specCValid_any _ _).mono ?_; rintro e w' ⟨rfl, hb⟩; obtain ⟨os, d, rfl⟩ := more_of_below hb; clear hb)
    go_returns
    exact ⟨rfl, by repeat' (first | (with_reducible exact Below.refl _ _) | (with_reducible assumption) | (with_reducible refine Below.alloc ?_ ?_ _) | (with_reducible refine below_more ?_ ?_ _ _) | (with_reducible refine below_rd ?_ ?_ _ _) | (with_reducible refine Below.drew ?_) | (with_reducible refine Below.setCell ?_ ?_ _) | go_size)⟩
end Go.Proofs.Ytklmlodapinflaa
