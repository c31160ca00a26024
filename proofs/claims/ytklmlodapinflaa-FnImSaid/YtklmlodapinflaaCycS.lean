/- CycReal of the program and of the reference: contracts with an open argument. -/
import Derived.Test.YtklmlodapinflaaCycEq
import Derived.Deep.RegionWith
namespace Go.Proofs.Ytklmlodapinflaa
open Go.RowKit

def reOk (a : C8) : Bool := okC a && eqC a a.mir

set_option maxRecDepth 100000 in
set_option maxHeartbeats 1000000 in
theorem creal_any (a : C8) (h : okC a = true) (w : World) :
    Calls Try.prog 62 #[cv a] w fun e w' => e = .returned (.bool (eqC a a.mir)) ∧ Below w.heap.size w w' := by
  have K := Lib.hid (C8.mir_wr h)
  go_enter Try.func62, Try.ntmps62
  go_wp2_with fail
  go_region_held3 (fun w' => w'.cell? ⟨w.heap.size, 0, none⟩ = some (.int .i64 a.c0) ∧ w'.cell? ⟨w.heap.size, 1, none⟩ = some (.int .i64 a.c1) ∧ w'.cell? ⟨w.heap.size, 2, none⟩ = some (.int .i64 a.c2) ∧ w'.cell? ⟨w.heap.size, 3, none⟩ = some (.int .i64 a.c3) ∧ w'.cell? ⟨w.heap.size, 4, none⟩ = some (.int .i64 a.c4) ∧ w'.cell? ⟨w.heap.size, 5, none⟩ = some (.int .i64 a.c5) ∧ w'.cell? ⟨w.heap.size, 6, none⟩ = some (.int .i64 a.c6) ∧ w'.cell? ⟨w.heap.size, 7, none⟩ = some (.int .i64 a.c7)) (simp [go_sem])
    (first
      | (go_at_call 60; refine (cmirror_any _ _).mono ?_; rw [K.out]; rintro e w' ⟨rfl, hb⟩; obtain ⟨os, d, rfl⟩ := more_of_below hb; clear hb))
  all_goals
    go_wp2
    go_returns
    exact ⟨rfl, by repeat' (first | (with_reducible exact Below.refl _ _) | (with_reducible assumption) | (with_reducible refine Below.alloc ?_ ?_ _) | (with_reducible refine below_more ?_ ?_ _ _) | (with_reducible refine below_rd ?_ ?_ _ _) | (with_reducible refine Below.drew ?_) | (with_reducible refine Below.setCell ?_ ?_ _) | go_size)⟩

theorem cycReal_any (a : C8) (w : World) :
    Calls Try.prog 18 #[cv a] w fun e w' => e = .returned (.bool (reOk a)) ∧ Below w.heap.size w w' := by
  rcases Bool.eq_false_or_eq_true (okC a) with h1 | h1
  · rw [show reOk a = eqC a a.mir by simp [reOk, h1]]
    go_enter Try.func18, Try.ntmps18
    go_wp2_with (first
      | (go_at_call 54; refine (cvalid_any _ _).mono ?_; rintro e w' ⟨rfl, hb⟩; obtain ⟨os, d, rfl⟩ := more_of_below hb; clear hb)
      | (go_at_call 62; refine (creal_any _ h1 _).mono ?_; rintro e w' ⟨rfl, hb⟩; obtain ⟨os, d, rfl⟩ := more_of_below hb; clear hb))
    go_returns
    exact ⟨rfl, by repeat' (first | (with_reducible exact Below.refl _ _) | (with_reducible assumption) | (with_reducible refine Below.alloc ?_ ?_ _) | (with_reducible refine below_more ?_ ?_ _ _) | (with_reducible refine below_rd ?_ ?_ _ _) | (with_reducible refine Below.drew ?_) | (with_reducible refine Below.setCell ?_ ?_ _) | go_size)⟩
  · rw [show reOk a = false by simp [reOk, h1]]
    go_enter Try.func18, Try.ntmps18
    go_wp2_with (go_at_call 54; refine (cvalid_any _ _).mono ?_; rintro e w' ⟨rfl, hb⟩; obtain ⟨os, d, rfl⟩ := more_of_below hb; clear hb)
    go_returns
    exact ⟨rfl, by repeat' (first | (with_reducible exact Below.refl _ _) | (with_reducible assumption) | (with_reducible refine Below.alloc ?_ ?_ _) | (with_reducible refine below_more ?_ ?_ _ _) | (with_reducible refine below_rd ?_ ?_ _ _) | (with_reducible refine Below.drew ?_) | (with_reducible refine Below.setCell ?_ ?_ _) | go_size)⟩

end Go.Proofs.Ytklmlodapinflaa
