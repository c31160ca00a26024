/- The reference's draws of swings with a number. -/
import Derived.Test.YthhdmokocddeiaaDrawS
namespace Go.Proofs.Ythhdmokocddeiaa
open Go.RowKit
theorem div19 {k : Int} (h0 : 0 ≤ k) (h1 : k < 20) : k.tdiv 19 = (if k = 19 then 1 else 0) := by
  rw [Int.tdiv_eq_ediv_of_nonneg h0]; split <;> omega
def DrewSN (W : World) (e : Ending) (w' : World) : Prop := (∃ (x y : Nat) (t s k : Int), x < 4294967296 ∧ y < 4294967296 ∧ -1000 ≤ k ∧ k ≤ 1000 ∧ e = .returned (.tuple #[swv x y t s, .int .i64 k])) ∧ Below W.heap.size W w'
theorem DrewSN.mk {W w' : World} {x y : Nat} {t s k : Int} (hx : x < 4294967296) (hy : y < 4294967296) (h1 : -1000 ≤ k) (h2 : k ≤ 1000) (hb : Below W.heap.size W w') : DrewSN W (.returned (.tuple #[swv x y t s, .int .i64 k])) w' := ⟨⟨x, y, t, s, k, hx, hy, h1, h2, rfl⟩, hb⟩
theorem steps_bd {u v w : Int} (u0 : 0 ≤ u) (u1 : u < 200) (v0 : 0 ≤ v) (v1 : v < 20) (w0 : 0 ≤ w) (w1 : w < 20) :
    -1000 ≤ IntKind.i64.wrap (IntKind.i64.wrap (u - IntKind.i64.wrap (IntKind.i64.wrap (v.tdiv 19) * 201)) + IntKind.i64.wrap (IntKind.i64.wrap (w.tdiv 19) * 400)) ∧
    IntKind.i64.wrap (IntKind.i64.wrap (u - IntKind.i64.wrap (IntKind.i64.wrap (v.tdiv 19) * 201)) + IntKind.i64.wrap (IntKind.i64.wrap (w.tdiv 19) * 400)) ≤ 1000 := by
  rw [div19 v0 v1, div19 w0 w1]
  simp only [IntKind.wrap_i64]
  split <;> split <;> omega
theorem path_bd {u v : Int} (u0 : 0 ≤ u) (u1 : u < 20) (v0 : 0 ≤ v) (v1 : v < 20) :
    -1000 ≤ IntKind.i64.wrap (u + IntKind.i64.wrap (IntKind.i64.wrap (v.tdiv 19) * 90)) ∧ IntKind.i64.wrap (u + IntKind.i64.wrap (IntKind.i64.wrap (v.tdiv 19) * 90)) ≤ 1000 := by
  rw [div19 v0 v1]
  simp only [IntKind.wrap_i64]
  split <;> omega
set_option maxRecDepth 100000 in
set_option maxHeartbeats 4000000 in
theorem l92Steps_any (a : Option Addr) (len cap B : Nat) (W W0 : World) (hv : HasB W0 B a len) (hbel : Below B W0 W) (hB : B ≤ W.heap.size) (hl : len ≤ 1048576) (hc : len ≤ cap) :
    Calls Try.prog 46 #[.slice a len cap] W (DrewSN W) := by
  go_enter Try.func46, Try.ntmps46
  go_wp2_with (first | (go_at_call 40; refine (open_any _ _ _ _ hl hc).mono ?_; rintro e w' ⟨len', hl1, hl2, rfl, rfl⟩) | (go_at_call 39; refine (l92Swing_any _ W0 B _ a len' cap 0 (by (first | exact heap_alloc_at _ _ (by (first | omega | (simp; omega) | (simp; done))) | ((repeat (first | (refine (heap_alloc_past _ _ ?_).trans ?_; focus (first | omega | (simp; omega) | (simp; done))) | (refine (heap_more_past _ _ _ ?_).trans ?_; focus (first | omega | (simp; omega) | (simp; done))))); exact heap_rd_same (by (first | omega | (simp; omega) | (simp; done)))))) (hv.less hl1) (by repeat' (first | (with_reducible assumption) | (with_reducible exact Below.refl _ _) | (with_reducible refine Below.alloc ?_ ?_ _) | (with_reducible refine below_more ?_ ?_ _ _) | (with_reducible refine below_rd ?_ ?_ _ _) | (with_reducible refine Below.drew ?_) | (first | omega | (simp; omega) | (simp; done)))) (by (first | omega | (simp; omega) | (simp; done))) hl2 (by omega) (by omega)).mono ?_; rintro e w' ⟨x, y, t, s, hx, hy, p1, hp1, hp2, rfl, os1, d1, rfl⟩))
  have e0 : W.heap.size ≠ W.heap.size + 1 := by omega
  have hne : W.heap.size + 1 + 1 + os1.size ≠ W.heap.size + 1 := by omega
  have hlt : W.heap.size + 1 < W.heap.size + 1 + 1 + os1.size := by omega
  go_region_held3 (fun w' => w'.cell? ⟨W.heap.size + 1 + 1 + os1.size, 0, none⟩ = some (.complex .f32 x y) ∧ w'.cell? ⟨W.heap.size + 1 + 1 + os1.size, 1, none⟩ = some (.int .i64 t) ∧ w'.cell? ⟨W.heap.size + 1 + 1 + os1.size, 2, none⟩ = some (.int .i64 s)) (simp [go_sem, *])
    (first | (go_at_call 53; refine (pick_any _ W0 B _ a len' cap _ _ (by first | (first | exact heap_alloc_at _ _ (by (first | omega | (simp; omega) | (simp; done))) | ((repeat (first | (refine (heap_alloc_past _ _ ?_).trans ?_; focus (first | omega | (simp; omega) | (simp; done))) | (refine (heap_more_past _ _ _ ?_).trans ?_; focus (first | omega | (simp; omega) | (simp; done))))); exact heap_rd_same (by (first | omega | (simp; omega) | (simp; done))))) | ((repeat (first | (refine (heap_alloc_past _ _ ?_).trans ?_; focus (first | omega | (simp; omega) | (simp; done))) | (refine (heap_more_past _ _ _ ?_).trans ?_; focus (first | omega | (simp; omega) | (simp; done))))); exact heap_alloc_at _ _ (by (first | omega | (simp; omega) | (simp; done)))) | ((repeat (first | (refine (heap_alloc_past _ _ ?_).trans ?_; focus (first | omega | (simp; omega) | (simp; done))) | (refine (heap_more_past _ _ _ ?_).trans ?_; focus (first | omega | (simp; omega) | (simp; done))))); exact heap_rd_same (by (first | omega | (simp; omega) | (simp; done))))) (hv.less hl1) (by repeat' (first | (with_reducible assumption) | (with_reducible exact Below.refl _ _) | (with_reducible refine Below.alloc ?_ ?_ _) | (with_reducible refine below_more ?_ ?_ _ _) | (with_reducible refine below_rd ?_ ?_ _ _) | (with_reducible refine Below.drew ?_) | (first | omega | (simp; omega) | (simp; done)))) (by (first | omega | (simp; omega) | (simp; done))) hl2 (by omega) (by omega) (by omega)).mono ?_; rintro e w' ⟨ku, du, rfl, ⟨hku0, hku1, -⟩, rfl⟩; have hku1 := hku1 (by omega)))
  all_goals
    go_wp2
    go_returns
    first
      | exact DrewSN.mk hx hy (steps_bd (by assumption) (by assumption) (by assumption) (by assumption) (by assumption) (by assumption)).1 (steps_bd (by assumption) (by assumption) (by assumption) (by assumption) (by assumption) (by assumption)).2 (by repeat' (first | (with_reducible exact Below.refl _ _) | (with_reducible assumption) | (with_reducible refine Below.alloc ?_ ?_ _) | (with_reducible refine below_more ?_ ?_ _ _) | (with_reducible refine below_rd ?_ ?_ _ _) | (with_reducible refine Below.drew ?_) | (with_reducible refine Below.setCell ?_ ?_ _) | go_size))
      | exact DrewSN.mk hx hy (path_bd (by assumption) (by assumption) (by assumption) (by assumption)).1 (path_bd (by assumption) (by assumption) (by assumption) (by assumption)).2 (by repeat' (first | (with_reducible exact Below.refl _ _) | (with_reducible assumption) | (with_reducible refine Below.alloc ?_ ?_ _) | (with_reducible refine below_more ?_ ?_ _ _) | (with_reducible refine below_rd ?_ ?_ _ _) | (with_reducible refine Below.drew ?_) | (with_reducible refine Below.setCell ?_ ?_ _) | go_size))
set_option maxRecDepth 100000 in
set_option maxHeartbeats 4000000 in
theorem drawSwingPath_any (a : Option Addr) (len cap B : Nat) (W W0 : World) (hv : HasB W0 B a len) (hbel : Below B W0 W) (hB : B ≤ W.heap.size) (hl : len ≤ 1048576) (hc : len ≤ cap) :
    Calls Try.prog 30 #[.slice a len cap] W (DrewSN W) := by
  go_enter Try.func30, Try.ntmps30
  go_wp2_with (first | (go_at_call 40; refine (open_any _ _ _ _ hl hc).mono ?_; rintro e w' ⟨len', hl1, hl2, rfl, rfl⟩) | (go_at_call 39; refine (l92Swing_any _ W0 B _ a len' cap 0 (by (first | exact heap_alloc_at _ _ (by (first | omega | (simp; omega) | (simp; done))) | ((repeat (first | (refine (heap_alloc_past _ _ ?_).trans ?_; focus (first | omega | (simp; omega) | (simp; done))) | (refine (heap_more_past _ _ _ ?_).trans ?_; focus (first | omega | (simp; omega) | (simp; done))))); exact heap_rd_same (by (first | omega | (simp; omega) | (simp; done)))))) (hv.less hl1) (by repeat' (first | (with_reducible assumption) | (with_reducible exact Below.refl _ _) | (with_reducible refine Below.alloc ?_ ?_ _) | (with_reducible refine below_more ?_ ?_ _ _) | (with_reducible refine below_rd ?_ ?_ _ _) | (with_reducible refine Below.drew ?_) | (first | omega | (simp; omega) | (simp; done)))) (by (first | omega | (simp; omega) | (simp; done))) hl2 (by omega) (by omega)).mono ?_; rintro e w' ⟨x, y, t, s, hx, hy, p1, hp1, hp2, rfl, os1, d1, rfl⟩))
  have e0 : W.heap.size ≠ W.heap.size + 1 := by omega
  have hne : W.heap.size + 1 + 1 + os1.size ≠ W.heap.size + 1 := by omega
  have hlt : W.heap.size + 1 < W.heap.size + 1 + 1 + os1.size := by omega
  go_region_held3 (fun w' => w'.cell? ⟨W.heap.size + 1 + 1 + os1.size, 0, none⟩ = some (.complex .f32 x y) ∧ w'.cell? ⟨W.heap.size + 1 + 1 + os1.size, 1, none⟩ = some (.int .i64 t) ∧ w'.cell? ⟨W.heap.size + 1 + 1 + os1.size, 2, none⟩ = some (.int .i64 s)) (simp [go_sem, *])
    (first | (go_at_call 53; refine (pick_any _ W0 B _ a len' cap _ _ (by first | (first | exact heap_alloc_at _ _ (by (first | omega | (simp; omega) | (simp; done))) | ((repeat (first | (refine (heap_alloc_past _ _ ?_).trans ?_; focus (first | omega | (simp; omega) | (simp; done))) | (refine (heap_more_past _ _ _ ?_).trans ?_; focus (first | omega | (simp; omega) | (simp; done))))); exact heap_rd_same (by (first | omega | (simp; omega) | (simp; done))))) | ((repeat (first | (refine (heap_alloc_past _ _ ?_).trans ?_; focus (first | omega | (simp; omega) | (simp; done))) | (refine (heap_more_past _ _ _ ?_).trans ?_; focus (first | omega | (simp; omega) | (simp; done))))); exact heap_alloc_at _ _ (by (first | omega | (simp; omega) | (simp; done)))) | ((repeat (first | (refine (heap_alloc_past _ _ ?_).trans ?_; focus (first | omega | (simp; omega) | (simp; done))) | (refine (heap_more_past _ _ _ ?_).trans ?_; focus (first | omega | (simp; omega) | (simp; done))))); exact heap_rd_same (by (first | omega | (simp; omega) | (simp; done))))) (hv.less hl1) (by repeat' (first | (with_reducible assumption) | (with_reducible exact Below.refl _ _) | (with_reducible refine Below.alloc ?_ ?_ _) | (with_reducible refine below_more ?_ ?_ _ _) | (with_reducible refine below_rd ?_ ?_ _ _) | (with_reducible refine Below.drew ?_) | (first | omega | (simp; omega) | (simp; done)))) (by (first | omega | (simp; omega) | (simp; done))) hl2 (by omega) (by omega) (by omega)).mono ?_; rintro e w' ⟨ku, du, rfl, ⟨hku0, hku1, -⟩, rfl⟩; have hku1 := hku1 (by omega)))
  all_goals
    go_wp2
    go_returns
    first
      | exact DrewSN.mk hx hy (steps_bd (by assumption) (by assumption) (by assumption) (by assumption) (by assumption) (by assumption)).1 (steps_bd (by assumption) (by assumption) (by assumption) (by assumption) (by assumption) (by assumption)).2 (by repeat' (first | (with_reducible exact Below.refl _ _) | (with_reducible assumption) | (with_reducible refine Below.alloc ?_ ?_ _) | (with_reducible refine below_more ?_ ?_ _ _) | (with_reducible refine below_rd ?_ ?_ _ _) | (with_reducible refine Below.drew ?_) | (with_reducible refine Below.setCell ?_ ?_ _) | go_size))
      | exact DrewSN.mk hx hy (path_bd (by assumption) (by assumption) (by assumption) (by assumption)).1 (path_bd (by assumption) (by assumption) (by assumption) (by assumption)).2 (by repeat' (first | (with_reducible exact Below.refl _ _) | (with_reducible assumption) | (with_reducible refine Below.alloc ?_ ?_ _) | (with_reducible refine below_more ?_ ?_ _ _) | (with_reducible refine below_rd ?_ ?_ _ _) | (with_reducible refine Below.drew ?_) | (with_reducible refine Below.setCell ?_ ?_ _) | go_size))

set_option maxRecDepth 100000 in
theorem drawSwingAt_any (a : Option Addr) (len cap B : Nat) (W W0 : World) (hv : HasB W0 B a len) (hbel : Below B W0 W) (hB : B ≤ W.heap.size) (hl : len ≤ 1048576) (hc : len ≤ cap) :
    Calls Try.prog 19 #[.slice a len cap] W (DrewSN W) := by
  go_enter Try.func19, Try.ntmps19
  go_wp2_with (go_at_call 46; refine (l92Steps_any _ _ _ B _ W0 hv (by repeat' (first | (with_reducible assumption) | (with_reducible exact Below.refl _ _) | (with_reducible refine Below.alloc ?_ ?_ _) | (with_reducible refine below_more ?_ ?_ _ _) | (with_reducible refine below_rd ?_ ?_ _ _) | (with_reducible refine Below.drew ?_) | (first | omega | (simp; omega) | (simp; done)))) (by (first | omega | (simp; omega) | (simp; done))) hl hc).mono ?_; rintro e w' ⟨⟨x, y, t, s, k, hx, hy, hk1, hk2, rfl⟩, hb⟩; obtain ⟨os, dd, rfl⟩ := more_of_below hb; clear hb)
  go_returns
  exact DrewSN.mk hx hy hk1 hk2 (by repeat' (first | (with_reducible exact Below.refl _ _) | (with_reducible assumption) | (with_reducible refine Below.alloc ?_ ?_ _) | (with_reducible refine below_more ?_ ?_ _ _) | (with_reducible refine below_rd ?_ ?_ _ _) | (with_reducible refine Below.drew ?_) | (with_reducible refine Below.setCell ?_ ?_ _) | go_size))
set_option maxRecDepth 100000 in
theorem drawSwingSum_any (a : Option Addr) (len cap B : Nat) (W W0 : World) (hv : HasB W0 B a len) (hbel : Below B W0 W) (hB : B ≤ W.heap.size) (hl : len ≤ 1048576) (hc : len ≤ cap) :
    Calls Try.prog 21 #[.slice a len cap] W (DrewSN W) := by
  go_enter Try.func21, Try.ntmps21
  go_wp2_with (go_at_call 46; refine (l92Steps_any _ _ _ B _ W0 hv (by repeat' (first | (with_reducible assumption) | (with_reducible exact Below.refl _ _) | (with_reducible refine Below.alloc ?_ ?_ _) | (with_reducible refine below_more ?_ ?_ _ _) | (with_reducible refine below_rd ?_ ?_ _ _) | (with_reducible refine Below.drew ?_) | (first | omega | (simp; omega) | (simp; done)))) (by (first | omega | (simp; omega) | (simp; done))) hl hc).mono ?_; rintro e w' ⟨⟨x, y, t, s, k, hx, hy, hk1, hk2, rfl⟩, hb⟩; obtain ⟨os, dd, rfl⟩ := more_of_below hb; clear hb)
  go_returns
  exact DrewSN.mk hx hy hk1 hk2 (by repeat' (first | (with_reducible exact Below.refl _ _) | (with_reducible assumption) | (with_reducible refine Below.alloc ?_ ?_ _) | (with_reducible refine below_more ?_ ?_ _ _) | (with_reducible refine below_rd ?_ ?_ _ _) | (with_reducible refine Below.drew ?_) | (with_reducible refine Below.setCell ?_ ?_ _) | go_size))

end Go.Proofs.Ythhdmokocddeiaa
