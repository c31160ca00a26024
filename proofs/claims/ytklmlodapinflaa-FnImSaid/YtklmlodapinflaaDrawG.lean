/- Whole points drawn; points and turns drawn; points that are often real drawn. -/
import Derived.Test.YtklmlodapinflaaDrawE
import Derived.Test.YtklmlodapinflaaDrawF
import Derived.Test.YtklmlodapinflaaCycI
namespace Go.Proofs.Ytklmlodapinflaa
open Go.RowKit

def DrewNN (W : World) (e : Ending) (w' : World) : Prop := (∃ m n : Int, e = .returned (.tuple #[.int .i64 m, .int .i64 n])) ∧ Below W.heap.size W w'




theorem drawSurdRe_any (a : Option Addr) (len cap B : Nat) (W W0 : World) (hv : HasB W0 B a len) (hbel : Below B W0 W) (hB : B ≤ W.heap.size) (hl : len ≤ 1048576) (hc : len ≤ cap) :
    Calls Try.prog 24 #[.slice a len cap] W (Drew1 W) := by
  go_enter Try.func24, Try.ntmps24
  go_wp2_with (first | (go_at_call 53; refine (open_any _ _ _ _ hl hc).mono ?_; rintro e w' ⟨len', hl1, hl2, rfl, rfl⟩) | (go_at_call 52; refine (l91Cyc_any _ W0 B _ a len' cap 0 (by (first | exact heap_alloc_at _ _ (by (first | omega | (simp; omega) | (simp; done))) | ((repeat (first | (refine (heap_alloc_past _ _ ?_).trans ?_; focus (first | omega | (simp; omega) | (simp; done))) | (refine (heap_more_past _ _ _ ?_).trans ?_; focus (first | omega | (simp; omega) | (simp; done))))); exact heap_rd_same (by (first | omega | (simp; omega) | (simp; done)))))) (hv.less hl1) (by repeat' (first | (with_reducible assumption) | (with_reducible exact Below.refl _ _) | (with_reducible refine Below.alloc ?_ ?_ _) | (with_reducible refine below_more ?_ ?_ _ _) | (with_reducible refine below_rd ?_ ?_ _ _) | (with_reducible refine Below.drew ?_) | (first | omega | (simp; omega) | (simp; done)))) (by (first | omega | (simp; omega) | (simp; done))) hl2 (by omega) (by omega)).mono ?_; rintro e w' ⟨c1, p1, hp1, hp2, rfl, os1, d1, rfl⟩))
  go_returns
  exact ⟨⟨_, rfl⟩, by repeat' (first | (with_reducible exact Below.refl _ _) | (with_reducible assumption) | (with_reducible refine Below.alloc ?_ ?_ _) | (with_reducible refine below_more ?_ ?_ _ _) | (with_reducible refine below_rd ?_ ?_ _ _) | (with_reducible refine Below.drew ?_) | (with_reducible refine Below.setCell ?_ ?_ _) | go_size)⟩

theorem drawSurdIm_any (a : Option Addr) (len cap B : Nat) (W W0 : World) (hv : HasB W0 B a len) (hbel : Below B W0 W) (hB : B ≤ W.heap.size) (hl : len ≤ 1048576) (hc : len ≤ cap) :
    Calls Try.prog 14 #[.slice a len cap] W (Drew1 W) := by
  go_enter Try.func14, Try.ntmps14
  go_wp2_with (first | (go_at_call 53; refine (open_any _ _ _ _ hl hc).mono ?_; rintro e w' ⟨len', hl1, hl2, rfl, rfl⟩) | (go_at_call 52; refine (l91Cyc_any _ W0 B _ a len' cap 0 (by (first | exact heap_alloc_at _ _ (by (first | omega | (simp; omega) | (simp; done))) | ((repeat (first | (refine (heap_alloc_past _ _ ?_).trans ?_; focus (first | omega | (simp; omega) | (simp; done))) | (refine (heap_more_past _ _ _ ?_).trans ?_; focus (first | omega | (simp; omega) | (simp; done))))); exact heap_rd_same (by (first | omega | (simp; omega) | (simp; done)))))) (hv.less hl1) (by repeat' (first | (with_reducible assumption) | (with_reducible exact Below.refl _ _) | (with_reducible refine Below.alloc ?_ ?_ _) | (with_reducible refine below_more ?_ ?_ _ _) | (with_reducible refine below_rd ?_ ?_ _ _) | (with_reducible refine Below.drew ?_) | (first | omega | (simp; omega) | (simp; done)))) (by (first | omega | (simp; omega) | (simp; done))) hl2 (by omega) (by omega)).mono ?_; rintro e w' ⟨c1, p1, hp1, hp2, rfl, os1, d1, rfl⟩))
  go_returns
  exact ⟨⟨_, rfl⟩, by repeat' (first | (with_reducible exact Below.refl _ _) | (with_reducible assumption) | (with_reducible refine Below.alloc ?_ ?_ _) | (with_reducible refine below_more ?_ ?_ _ _) | (with_reducible refine below_rd ?_ ?_ _ _) | (with_reducible refine Below.drew ?_) | (with_reducible refine Below.setCell ?_ ?_ _) | go_size)⟩

theorem drawSurdNorm_any (a : Option Addr) (len cap B : Nat) (W W0 : World) (hv : HasB W0 B a len) (hbel : Below B W0 W) (hB : B ≤ W.heap.size) (hl : len ≤ 1048576) (hc : len ≤ cap) :
    Calls Try.prog 30 #[.slice a len cap] W (Drew1 W) := by
  go_enter Try.func30, Try.ntmps30
  go_wp2_with (first | (go_at_call 53; refine (open_any _ _ _ _ hl hc).mono ?_; rintro e w' ⟨len', hl1, hl2, rfl, rfl⟩) | (go_at_call 52; refine (l91Cyc_any _ W0 B _ a len' cap 0 (by (first | exact heap_alloc_at _ _ (by (first | omega | (simp; omega) | (simp; done))) | ((repeat (first | (refine (heap_alloc_past _ _ ?_).trans ?_; focus (first | omega | (simp; omega) | (simp; done))) | (refine (heap_more_past _ _ _ ?_).trans ?_; focus (first | omega | (simp; omega) | (simp; done))))); exact heap_rd_same (by (first | omega | (simp; omega) | (simp; done)))))) (hv.less hl1) (by repeat' (first | (with_reducible assumption) | (with_reducible exact Below.refl _ _) | (with_reducible refine Below.alloc ?_ ?_ _) | (with_reducible refine below_more ?_ ?_ _ _) | (with_reducible refine below_rd ?_ ?_ _ _) | (with_reducible refine Below.drew ?_) | (first | omega | (simp; omega) | (simp; done)))) (by (first | omega | (simp; omega) | (simp; done))) hl2 (by omega) (by omega)).mono ?_; rintro e w' ⟨c1, p1, hp1, hp2, rfl, os1, d1, rfl⟩))
  go_returns
  exact ⟨⟨_, rfl⟩, by repeat' (first | (with_reducible exact Below.refl _ _) | (with_reducible assumption) | (with_reducible refine Below.alloc ?_ ?_ _) | (with_reducible refine below_more ?_ ?_ _ _) | (with_reducible refine below_rd ?_ ?_ _ _) | (with_reducible refine Below.drew ?_) | (with_reducible refine Below.setCell ?_ ?_ _) | go_size)⟩

theorem drawPolyCross_any (a : Option Addr) (len cap B : Nat) (W W0 : World) (hv : HasB W0 B a len) (hbel : Below B W0 W) (hB : B ≤ W.heap.size) (hl : len ≤ 1048576) (hc : len ≤ cap) :
    Calls Try.prog 23 #[.slice a len cap] W (Drew2 W) := by
  go_enter Try.func23, Try.ntmps23
  go_wp2_with (go_at_call 68; refine (l91Points_any _ _ _ B _ W0 hv (by repeat' (first | (with_reducible assumption) | (with_reducible exact Below.refl _ _) | (with_reducible refine Below.alloc ?_ ?_ _) | (with_reducible refine below_more ?_ ?_ _ _) | (with_reducible refine below_rd ?_ ?_ _ _) | (with_reducible refine Below.drew ?_) | (first | omega | (simp; omega) | (simp; done)))) (by (first | omega | (simp; omega) | (simp; done))) hl hc).mono ?_; rintro e w' ⟨⟨c, d, rfl⟩, hb⟩; obtain ⟨os, dd, rfl⟩ := more_of_below hb; clear hb)
  go_returns
  exact ⟨⟨_, _, rfl⟩, by repeat' (first | (with_reducible exact Below.refl _ _) | (with_reducible assumption) | (with_reducible refine Below.alloc ?_ ?_ _) | (with_reducible refine below_more ?_ ?_ _ _) | (with_reducible refine below_rd ?_ ?_ _ _) | (with_reducible refine Below.drew ?_) | (with_reducible refine Below.setCell ?_ ?_ _) | go_size)⟩
end Go.Proofs.Ytklmlodapinflaa
