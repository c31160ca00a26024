/- Two points drawn. -/
import Derived.Test.YtklmlodapinflaaDrawD
namespace Go.Proofs.Ytklmlodapinflaa
open Go.RowKit

@[go_sem] theorem rd_setCell {w : World} {g : Nat} {v : Value} {p : Int} (n i : Nat) (x : Value) (hn : n ≠ g) : (rd w g v p).setCell ⟨n, i, none⟩ x = rd (w.setCell ⟨n, i, none⟩ x) g v p := by
  unfold rd World.setCell; congr 1; apply Array.ext_getElem?; intro k
  simp only [Array.getElem?_modify, Array.getElem?_setIfInBounds, Array.size_modify]
  by_cases h : g = k
  · subst h; simp [hn]
  · simp [h]
@[go_sem] theorem rd_alloc_obj {w : World} {g : Nat} {v v0 : Value} {p p0 : Int} (hn : g = w.heap.size) : rd (w.alloc (rdObj v0 p0)) g v p = w.alloc (rdObj v p) := by
  subst hn
  unfold rd World.alloc; congr 1; apply Array.ext_getElem?; intro k
  simp only [Array.getElem?_setIfInBounds, Array.getElem?_push, Array.size_push]
  by_cases h : w.heap.size = k
  · subst h; simp
  · rw [if_neg h, if_neg (fun e => h e.symm), if_neg (fun e => h e.symm)]

set_option maxRecDepth 100000 in
set_option maxHeartbeats 4000000 in
theorem l91Points_any (a : Option Addr) (len cap B : Nat) (W W0 : World) (hv : HasB W0 B a len) (hbel : Below B W0 W) (hB : B ≤ W.heap.size) (hl : len ≤ 1048576) (hc : len ≤ cap) :
    Calls Try.prog 68 #[.slice a len cap] W (Drew2 W) := by
  go_enter Try.func68, Try.ntmps68
  go_wp2_with (first | (go_at_call 53; refine (open_any _ _ _ _ hl hc).mono ?_; rintro e w' ⟨len', hl1, hl2, rfl, rfl⟩) | (go_at_call 52; refine (l91Cyc_any _ W0 B _ a len' cap 0 (by (first | exact heap_alloc_at _ _ (by (first | omega | (simp; omega) | (simp; done))) | ((repeat (first | (refine (heap_alloc_past _ _ ?_).trans ?_; focus (first | omega | (simp; omega) | (simp; done))) | (refine (heap_more_past _ _ _ ?_).trans ?_; focus (first | omega | (simp; omega) | (simp; done))))); exact heap_rd_same (by (first | omega | (simp; omega) | (simp; done)))))) (hv.less hl1) (by repeat' (first | (with_reducible assumption) | (with_reducible exact Below.refl _ _) | (with_reducible refine Below.alloc ?_ ?_ _) | (with_reducible refine below_more ?_ ?_ _ _) | (with_reducible refine below_rd ?_ ?_ _ _) | (with_reducible refine Below.drew ?_) | (first | omega | (simp; omega) | (simp; done)))) (by (first | omega | (simp; omega) | (simp; done))) hl2 (by omega) (by omega)).mono ?_; rintro e w' ⟨c1, p1, hp1, hp2, rfl, os1, d1, rfl⟩))
  have e0 : W.heap.size ≠ W.heap.size + 1 + 1 := by omega
  have e1 : W.heap.size + 1 ≠ W.heap.size + 1 + 1 := by omega
  have hne : W.heap.size + 1 + 1 + 1 + os1.size ≠ W.heap.size + 1 + 1 := by omega
  have hlt : W.heap.size + 1 + 1 < W.heap.size + 1 + 1 + 1 + os1.size := by omega
  go_region_held3 (fun w' => w'.cell? ⟨(W.heap.size + 1 + 1 + 1 + os1.size), 0, none⟩ = some (.int .i64 c1.c0) ∧ w'.cell? ⟨(W.heap.size + 1 + 1 + 1 + os1.size), 1, none⟩ = some (.int .i64 c1.c1) ∧ w'.cell? ⟨(W.heap.size + 1 + 1 + 1 + os1.size), 2, none⟩ = some (.int .i64 c1.c2) ∧ w'.cell? ⟨(W.heap.size + 1 + 1 + 1 + os1.size), 3, none⟩ = some (.int .i64 c1.c3) ∧ w'.cell? ⟨(W.heap.size + 1 + 1 + 1 + os1.size), 4, none⟩ = some (.int .i64 c1.c4) ∧ w'.cell? ⟨(W.heap.size + 1 + 1 + 1 + os1.size), 5, none⟩ = some (.int .i64 c1.c5) ∧ w'.cell? ⟨(W.heap.size + 1 + 1 + 1 + os1.size), 6, none⟩ = some (.int .i64 c1.c6) ∧ w'.cell? ⟨(W.heap.size + 1 + 1 + 1 + os1.size), 7, none⟩ = some (.int .i64 c1.c7)) (simp [go_sem, *])
    (first | (go_at_call 52; refine (l91Cyc_any _ W0 B _ a len' cap p1 (by first | ((repeat (first | (refine (heap_alloc_past _ _ ?_).trans ?_; focus (first | omega | (simp; omega) | (simp; done))) | (refine (heap_more_past _ _ _ ?_).trans ?_; focus (first | omega | (simp; omega) | (simp; done))))); exact heap_alloc_at _ _ (by (first | omega | (simp; omega) | (simp; done)))) | ((repeat (first | (refine (heap_alloc_past _ _ ?_).trans ?_; focus (first | omega | (simp; omega) | (simp; done))) | (refine (heap_more_past _ _ _ ?_).trans ?_; focus (first | omega | (simp; omega) | (simp; done))))); exact heap_rd_same (by (first | omega | (simp; omega) | (simp; done))))) (hv.less hl1) (by repeat' (first | (with_reducible assumption) | (with_reducible exact Below.refl _ _) | (with_reducible refine Below.alloc ?_ ?_ _) | (with_reducible refine below_more ?_ ?_ _ _) | (with_reducible refine below_rd ?_ ?_ _ _) | (with_reducible refine Below.drew ?_) | (first | omega | (simp; omega) | (simp; done)))) (by (first | omega | (simp; omega) | (simp; done))) hl2 (by omega) (by omega)).mono ?_; rintro e w' ⟨c2, p2, hp3, hp4, rfl, os2, d2, rfl⟩))
  all_goals
    go_wp2
    go_returns
    exact ⟨⟨_, _, rfl⟩, by repeat' (first | (with_reducible exact Below.refl _ _) | (with_reducible assumption) | (with_reducible refine Below.alloc ?_ ?_ _) | (with_reducible refine below_more ?_ ?_ _ _) | (with_reducible refine below_rd ?_ ?_ _ _) | (with_reducible refine Below.drew ?_) | (with_reducible refine Below.setCell ?_ ?_ _) | go_size)⟩
end Go.Proofs.Ytklmlodapinflaa
