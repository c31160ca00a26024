/- The reference's draws of exact points: whatever the code, some point comes back, and only the reader's block has turned. -/
import Derived.Test.YthojdoiffkdikaaGreatDoorOpen
import Derived.Test.YthojdoiffkdikaaGreatDoorCycD
import Derived.Deep.RegionHeld3
namespace Go.Proofs.YthojdoiffkdikaaGreatDoor
open Go.RowKit

/-- Behind a draw: the reader stands somewhat further on. -/
def DrawPost (w : World) (g : Nat) (v : Value) (p m : Int) (x : Value) (e : Ending) (w' : World) : Prop :=
  ∃ p', p ≤ p' ∧ p' ≤ p + m ∧ e = .returned x ∧ IsMore (rd w g v p') w'

theorem DrawPost.mk {w w' : World} {g : Nat} {v x : Value} {p m p' : Int} (h : IsMore (rd w g v p') w') (h1 : p ≤ p') (h2 : p' ≤ p + m) : DrawPost w g v p m x (.returned x) w' := ⟨p', h1, h2, rfl, h⟩

theorem l2GaussD (x y : Int) (w : World) :
    Calls Tryz.prog 97 #[.int .i64 x, .int .i64 y] w fun e w' => e = .returned (cv ((C8.zero.upd 0 x).upd 6 y)) ∧ Below w.heap.size w w' := by
  go_enter Tryz.func97, Tryz.ntmps97
  go_wp2
  go_returns
  exact ⟨rfl, by repeat' (first | (with_reducible exact Below.refl _ _) | (with_reducible assumption) | (with_reducible refine Below.alloc ?_ ?_ _) | (with_reducible refine below_more ?_ ?_ _ _) | (with_reducible refine below_rd ?_ ?_ _ _) | (with_reducible refine Below.drew ?_) | (with_reducible refine Below.setCell ?_ ?_ _) | go_size)⟩

def CycPost (w : World) (g : Nat) (v : Value) (p : Int) (e : Ending) (w' : World) : Prop := ∃ c : C8, DrawPost w g v p 20 (cv c) e w'

set_option maxRecDepth 100000 in
set_option maxHeartbeats 4000000 in
theorem l91Cyc_rd (w w0 : World) (B g : Nat) (a : Option Addr) (len cap : Nat) (p : Int) (hg : g < w.heap.size) (hv : HasB w0 B a len) (hbel : Below B w0 w) (hB : B ≤ g) (hl : len ≤ 2000) (hp : 0 ≤ p) (hp2 : p ≤ 100000) :
    Calls Tryz.prog 65 #[.pointer (some ⟨g, 0, none⟩)] (rd w g (.slice a len cap) p) (CycPost w g (.slice a len cap) p) := by
  go_enter Tryz.func65, Tryz.ntmps65
  go_wp2_with fail
  (go_at_call 45; refine (pick_any _ w0 B g a len cap _ _ (by ((repeat (first | (refine (heap_alloc_past _ _ ?_).trans ?_; focus (first | omega | (simp; omega) | (simp; done))) | (refine (heap_more_past _ _ _ ?_).trans ?_; focus (first | omega | (simp; omega) | (simp; done))))); exact heap_rd_same (by (first | omega | (simp; omega) | (simp; done))))) hv (by repeat' (first | (with_reducible assumption) | (with_reducible exact Below.refl _ _) | (with_reducible refine Below.alloc ?_ ?_ _) | (with_reducible refine below_more ?_ ?_ _ _) | (with_reducible refine below_rd ?_ ?_ _ _) | (with_reducible refine Below.drew ?_) | (first | omega | (simp; omega) | (simp; done)))) hB hl (by omega) (by omega) (by omega)).mono ?_; rintro e w' ⟨k, dk, rfl, ⟨hk0, hk1, -⟩, rfl⟩; have hk1 := hk1 (by omega))
  have hks : k = 0 ∨ k = 1 ∨ k = 2 ∨ 3 ≤ k := by omega
  rcases hks with rfl | rfl | rfl | hk3
  · clear hk0 hk1
    go_wp2_with fail
    (go_at_call 45; refine (pick_any _ w0 B g a len cap _ _ (by ((repeat (first | (refine (heap_alloc_past _ _ ?_).trans ?_; focus (first | omega | (simp; omega) | (simp; done))) | (refine (heap_more_past _ _ _ ?_).trans ?_; focus (first | omega | (simp; omega) | (simp; done))))); exact heap_rd_same (by (first | omega | (simp; omega) | (simp; done))))) hv (by repeat' (first | (with_reducible assumption) | (with_reducible exact Below.refl _ _) | (with_reducible refine Below.alloc ?_ ?_ _) | (with_reducible refine below_more ?_ ?_ _ _) | (with_reducible refine below_rd ?_ ?_ _ _) | (with_reducible refine Below.drew ?_) | (first | omega | (simp; omega) | (simp; done)))) hB hl (by omega) (by omega) (by omega)).mono ?_; rintro e w' ⟨k, dk, rfl, ⟨hk0, hk1, -⟩, rfl⟩; have hk1 := hk1 (by omega))
    obtain ⟨n, rfl⟩ := Int.eq_ofNat_of_zero_le hk0
    have hn24 : n < 24 := by omega
    go_wp2_with (go_at_call 96; refine (specRoot_yes n hn24 _).mono ?_; rintro e w' ⟨rfl, hb⟩; obtain ⟨os, d, rfl⟩ := more_of_below hb; clear hb)
    go_returns
    (apply Exists.intro; apply DrawPost.mk; (focus (repeat' (first | (with_reducible exact IsMore.refl _) | (with_reducible refine IsMore.alloc ?_ _) | (with_reducible refine IsMore.more ?_ _ _) | (with_reducible refine IsMore.drew ?_)))); all_goals omega)
  · clear hk0 hk1
    go_wp2_with (first | (go_at_call 45; refine (pick_any _ w0 B g a len cap _ _ (by ((repeat (first | (refine (heap_alloc_past _ _ ?_).trans ?_; focus (first | omega | (simp; omega) | (simp; done))) | (refine (heap_more_past _ _ _ ?_).trans ?_; focus (first | omega | (simp; omega) | (simp; done))))); exact heap_rd_same (by (first | omega | (simp; omega) | (simp; done))))) hv (by repeat' (first | (with_reducible assumption) | (with_reducible exact Below.refl _ _) | (with_reducible refine Below.alloc ?_ ?_ _) | (with_reducible refine below_more ?_ ?_ _ _) | (with_reducible refine below_rd ?_ ?_ _ _) | (with_reducible refine Below.drew ?_) | (first | omega | (simp; omega) | (simp; done)))) hB hl (by omega) (by omega) (by omega)).mono ?_; rintro e w' ⟨k, dk, rfl, ⟨hk0, hk1, -⟩, rfl⟩; have hk1 := hk1 (by omega)) | (go_at_call 97; refine (l2GaussD _ _ _).mono ?_; rintro e w' ⟨rfl, hb⟩; obtain ⟨os, d, rfl⟩ := more_of_below hb; clear hb))
    go_returns
    (apply Exists.intro; apply DrawPost.mk; (focus (repeat' (first | (with_reducible exact IsMore.refl _) | (with_reducible refine IsMore.alloc ?_ _) | (with_reducible refine IsMore.more ?_ _ _) | (with_reducible refine IsMore.drew ?_)))); all_goals omega)
  · clear hk0 hk1
    go_wp2
    go_returns
    (apply Exists.intro; apply DrawPost.mk; (focus (repeat' (first | (with_reducible exact IsMore.refl _) | (with_reducible refine IsMore.alloc ?_ _) | (with_reducible refine IsMore.more ?_ _ _) | (with_reducible refine IsMore.drew ?_)))); all_goals omega)
  · have e0 : (k == 0) = false := by rw [beq_eq_false_iff_ne]; omega
    have e1 : (k == 1) = false := by rw [beq_eq_false_iff_ne]; omega
    have e2 : (k == 2) = false := by rw [beq_eq_false_iff_ne]; omega
    go_wp2_with fail
    (go_at_call 45; refine (pick_any _ w0 B g a len cap _ _ (by ((repeat (first | (refine (heap_alloc_past _ _ ?_).trans ?_; focus (first | omega | (simp; omega) | (simp; done))) | (refine (heap_more_past _ _ _ ?_).trans ?_; focus (first | omega | (simp; omega) | (simp; done))))); exact heap_rd_same (by (first | omega | (simp; omega) | (simp; done))))) hv (by repeat' (first | (with_reducible assumption) | (with_reducible exact Below.refl _ _) | (with_reducible refine Below.alloc ?_ ?_ _) | (with_reducible refine below_more ?_ ?_ _ _) | (with_reducible refine below_rd ?_ ?_ _ _) | (with_reducible refine Below.drew ?_) | (first | omega | (simp; omega) | (simp; done)))) hB hl (by omega) (by omega) (by omega)).mono ?_; rintro e w' ⟨kn, dn, rfl, ⟨hkn0, hkn1, -⟩, rfl⟩; have hkn1 := hkn1 (by omega))
    go_wp2_with fail
    go_loopw [7] (fun s wr => ∃ i : Nat, (i : Int) ≤ 1 + kn ∧ s = .int .i64 i ∧ ∃ (c : C8) (p' : Int) (os : Array Obj) (d : Nat), p + 2 ≤ p' ∧ p' ≤ p + 2 + 2 * i ∧ wr = more (((rd w g (.slice a len cap) p').alloc (.cells (row C8.zero) 59)).alloc (.cells (row c) 59)) os d) (fun s _ => 4 - (intOf s).toNat)
    case atStart => exact ⟨0, by omega, rfl, C8.zero, p + 1 + 1, _, _, by omega, by omega, rfl⟩
    case round =>
      obtain ⟨i, hi, rfl, c, p', os, d, hp3, hp4, rfl⟩ := hrel
      by_cases hlt : (i : Int) < 1 + kn
      · go_wp2_with fail
        (go_at_call 45; refine (pick_any _ w0 B g a len cap _ _ (by ((repeat (first | (refine (heap_alloc_past _ _ ?_).trans ?_; focus (first | omega | (simp; omega) | (simp; done))) | (refine (heap_more_past _ _ _ ?_).trans ?_; focus (first | omega | (simp; omega) | (simp; done))))); exact heap_rd_same (by (first | omega | (simp; omega) | (simp; done))))) hv (by repeat' (first | (with_reducible assumption) | (with_reducible exact Below.refl _ _) | (with_reducible refine Below.alloc ?_ ?_ _) | (with_reducible refine below_more ?_ ?_ _ _) | (with_reducible refine below_rd ?_ ?_ _ _) | (with_reducible refine Below.drew ?_) | (first | omega | (simp; omega) | (simp; done)))) hB hl (by omega) (by omega) (by omega)).mono ?_; rintro e w' ⟨kx, dx, rfl, ⟨hkx0, hkx1, -⟩, rfl⟩; have hkx1 := hkx1 (by omega))
        obtain ⟨j, rfl⟩ := Int.eq_ofNat_of_zero_le hkx0
        have hj8 : j < 8 := by omega
        go_wp2_with fail
        (go_at_call 45; refine (pick_any _ w0 B g a len cap _ _ (by ((repeat (first | (refine (heap_alloc_past _ _ ?_).trans ?_; focus (first | omega | (simp; omega) | (simp; done))) | (refine (heap_more_past _ _ _ ?_).trans ?_; focus (first | omega | (simp; omega) | (simp; done))))); exact heap_rd_same (by (first | omega | (simp; omega) | (simp; done))))) hv (by repeat' (first | (with_reducible assumption) | (with_reducible exact Below.refl _ _) | (with_reducible refine Below.alloc ?_ ?_ _) | (with_reducible refine below_more ?_ ?_ _ _) | (with_reducible refine below_rd ?_ ?_ _ _) | (with_reducible refine Below.drew ?_) | (first | omega | (simp; omega) | (simp; done)))) hB hl (by omega) (by omega) (by omega)).mono ?_; rintro e w' ⟨ky, dy, rfl, ⟨hky0, hky1, -⟩, rfl⟩; have hky1 := hky1 (by omega))
        have r1 := row_g c j hj8
        go_wp2
        go_roundw
        case rel => exact ⟨i + 1, by omega, by go_num, _, _, _, _, by omega, by omega, rfl⟩
        case measure => simp [intOf]; omega
      · go_wp2_with fail
        (go_at_call 45; refine (pick_any _ w0 B g a len cap _ _ (by ((repeat (first | (refine (heap_alloc_past _ _ ?_).trans ?_; focus (first | omega | (simp; omega) | (simp; done))) | (refine (heap_more_past _ _ _ ?_).trans ?_; focus (first | omega | (simp; omega) | (simp; done))))); exact heap_rd_same (by (first | omega | (simp; omega) | (simp; done))))) hv (by repeat' (first | (with_reducible assumption) | (with_reducible exact Below.refl _ _) | (with_reducible refine Below.alloc ?_ ?_ _) | (with_reducible refine below_more ?_ ?_ _ _) | (with_reducible refine below_rd ?_ ?_ _ _) | (with_reducible refine Below.drew ?_) | (first | omega | (simp; omega) | (simp; done)))) hB hl (by omega) (by omega) (by omega)).mono ?_; rintro e w' ⟨kz, dz, rfl, ⟨hkz0, hkz1, -⟩, rfl⟩; have hkz1 := hkz1 (by omega))
        have hkz : kz = 0 ∨ kz = 1 ∨ 2 ≤ kz := by omega
        rcases hkz with rfl | rfl | h2
        · clear hkz0 hkz1
          go_wp2
          go_returns
          (apply Exists.intro; apply DrawPost.mk; (focus (repeat' (first | (with_reducible exact IsMore.refl _) | (with_reducible refine IsMore.alloc ?_ _) | (with_reducible refine IsMore.more ?_ _ _) | (with_reducible refine IsMore.drew ?_)))); all_goals omega)
        · clear hkz0 hkz1
          go_wp2
          go_returns
          (apply Exists.intro; apply DrawPost.mk; (focus (repeat' (first | (with_reducible exact IsMore.refl _) | (with_reducible refine IsMore.alloc ?_ _) | (with_reducible refine IsMore.more ?_ _ _) | (with_reducible refine IsMore.drew ?_)))); all_goals omega)
        · have z0 : (kz == 0) = false := by rw [beq_eq_false_iff_ne]; omega
          have z1 : (kz == 1) = false := by rw [beq_eq_false_iff_ne]; omega
          go_wp2
          go_returns
          (apply Exists.intro; apply DrawPost.mk; (focus (repeat' (first | (with_reducible exact IsMore.refl _) | (with_reducible refine IsMore.alloc ?_ _) | (with_reducible refine IsMore.more ?_ _ _) | (with_reducible refine IsMore.drew ?_)))); all_goals omega)
end Go.Proofs.YthojdoiffkdikaaGreatDoor
