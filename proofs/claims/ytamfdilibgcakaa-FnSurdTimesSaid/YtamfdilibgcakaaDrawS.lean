/- Surds drawn. -/
import Derived.Test.YtamfdilibgcakaaDrawE
import Derived.Test.YtamfdilibgcakaaSurdA
namespace Go.Proofs.Ytamfdilibgcakaa
open Go.RowKit

def SurdPost (w : World) (g : Nat) (v : Value) (p : Int) (e : Ending) (w' : World) : Prop := ∃ a b c d : Int, DrawPost w g v p 5 (sv a b c d) e w'

set_option maxRecDepth 100000 in
set_option maxHeartbeats 4000000 in
theorem l91Surd_rd (w w0 : World) (B g : Nat) (a : Option Addr) (len cap : Nat) (p : Int) (hg : g < w.heap.size) (hv : HasB w0 B a len) (hbel : Below B w0 w) (hB : B ≤ g) (hl : len ≤ 2000) (hp : 0 ≤ p) (hp2 : p ≤ 100000) :
    Calls Try.prog 80 #[.pointer (some ⟨g, 0, none⟩)] (rd w g (.slice a len cap) p) (SurdPost w g (.slice a len cap) p) := by
  go_enter Try.func80, Try.ntmps80
  go_wp2_with fail
  (go_at_call 51; refine (pick_any _ w0 B g a len cap _ _ (by ((repeat (first | (refine (heap_alloc_past _ _ ?_).trans ?_; focus (first | omega | (simp; omega) | (simp; done))) | (refine (heap_more_past _ _ _ ?_).trans ?_; focus (first | omega | (simp; omega) | (simp; done))))); exact heap_rd_same (by (first | omega | (simp; omega) | (simp; done))))) hv (by repeat' (first | (with_reducible assumption) | (with_reducible exact Below.refl _ _) | (with_reducible refine Below.alloc ?_ ?_ _) | (with_reducible refine below_more ?_ ?_ _ _) | (with_reducible refine below_rd ?_ ?_ _ _) | (with_reducible refine Below.drew ?_) | (first | omega | (simp; omega) | (simp; done)))) hB hl (by omega) (by omega) (by omega)).mono ?_; rintro e w' ⟨k, dk, rfl, ⟨hk0, hk1, -⟩, rfl⟩; have hk1 := hk1 (by omega))
  have hks : k = 0 ∨ k = 1 ∨ k = 2 ∨ k = 3 ∨ 4 ≤ k := by omega
  rcases hks with rfl | rfl | rfl | rfl | hk3
  · clear hk0 hk1
    go_wp2
    go_returns
    (apply Exists.intro; apply Exists.intro; apply Exists.intro; apply Exists.intro; apply DrawPost.mk; (focus (repeat' (first | (with_reducible exact IsMore.refl _) | (with_reducible refine IsMore.alloc ?_ _) | (with_reducible refine IsMore.more ?_ _ _) | (with_reducible refine IsMore.drew ?_)))); all_goals omega)
  · clear hk0 hk1
    go_wp2_with (go_at_call 51; refine (pick_any _ w0 B g a len cap _ _ (by ((repeat (first | (refine (heap_alloc_past _ _ ?_).trans ?_; focus (first | omega | (simp; omega) | (simp; done))) | (refine (heap_more_past _ _ _ ?_).trans ?_; focus (first | omega | (simp; omega) | (simp; done))))); exact heap_rd_same (by (first | omega | (simp; omega) | (simp; done))))) hv (by repeat' (first | (with_reducible assumption) | (with_reducible exact Below.refl _ _) | (with_reducible refine Below.alloc ?_ ?_ _) | (with_reducible refine below_more ?_ ?_ _ _) | (with_reducible refine below_rd ?_ ?_ _ _) | (with_reducible refine Below.drew ?_) | (first | omega | (simp; omega) | (simp; done)))) hB hl (by omega) (by omega) (by omega)).mono ?_; rintro e w' ⟨kx, dx, rfl, ⟨hkx0, hkx1, -⟩, rfl⟩; have hkx1 := hkx1 (by omega))
    go_returns
    (apply Exists.intro; apply Exists.intro; apply Exists.intro; apply Exists.intro; apply DrawPost.mk; (focus (repeat' (first | (with_reducible exact IsMore.refl _) | (with_reducible refine IsMore.alloc ?_ _) | (with_reducible refine IsMore.more ?_ _ _) | (with_reducible refine IsMore.drew ?_)))); all_goals omega)
  · clear hk0 hk1
    go_wp2
    go_returns
    (apply Exists.intro; apply Exists.intro; apply Exists.intro; apply Exists.intro; apply DrawPost.mk; (focus (repeat' (first | (with_reducible exact IsMore.refl _) | (with_reducible refine IsMore.alloc ?_ _) | (with_reducible refine IsMore.more ?_ _ _) | (with_reducible refine IsMore.drew ?_)))); all_goals omega)
  · clear hk0 hk1
    go_wp2
    go_returns
    (apply Exists.intro; apply Exists.intro; apply Exists.intro; apply Exists.intro; apply DrawPost.mk; (focus (repeat' (first | (with_reducible exact IsMore.refl _) | (with_reducible refine IsMore.alloc ?_ _) | (with_reducible refine IsMore.more ?_ _ _) | (with_reducible refine IsMore.drew ?_)))); all_goals omega)
  · have e0 : (k == 0) = false := by rw [beq_eq_false_iff_ne]; omega
    have e1 : (k == 1) = false := by rw [beq_eq_false_iff_ne]; omega
    have e2 : (k == 2) = false := by rw [beq_eq_false_iff_ne]; omega
    have e3 : (k == 3) = false := by rw [beq_eq_false_iff_ne]; omega
    go_wp2_with fail
    (go_at_call 51; refine (pick_any _ w0 B g a len cap _ _ (by ((repeat (first | (refine (heap_alloc_past _ _ ?_).trans ?_; focus (first | omega | (simp; omega) | (simp; done))) | (refine (heap_more_past _ _ _ ?_).trans ?_; focus (first | omega | (simp; omega) | (simp; done))))); exact heap_rd_same (by (first | omega | (simp; omega) | (simp; done))))) hv (by repeat' (first | (with_reducible assumption) | (with_reducible exact Below.refl _ _) | (with_reducible refine Below.alloc ?_ ?_ _) | (with_reducible refine below_more ?_ ?_ _ _) | (with_reducible refine below_rd ?_ ?_ _ _) | (with_reducible refine Below.drew ?_) | (first | omega | (simp; omega) | (simp; done)))) hB hl (by omega) (by omega) (by omega)).mono ?_; rintro e w' ⟨kx, dx, rfl, ⟨hkx0, hkx1, -⟩, rfl⟩; have hkx1 := hkx1 (by omega))
    go_wp2_with fail
    (go_at_call 51; refine (pick_any _ w0 B g a len cap _ _ (by ((repeat (first | (refine (heap_alloc_past _ _ ?_).trans ?_; focus (first | omega | (simp; omega) | (simp; done))) | (refine (heap_more_past _ _ _ ?_).trans ?_; focus (first | omega | (simp; omega) | (simp; done))))); exact heap_rd_same (by (first | omega | (simp; omega) | (simp; done))))) hv (by repeat' (first | (with_reducible assumption) | (with_reducible exact Below.refl _ _) | (with_reducible refine Below.alloc ?_ ?_ _) | (with_reducible refine below_more ?_ ?_ _ _) | (with_reducible refine below_rd ?_ ?_ _ _) | (with_reducible refine Below.drew ?_) | (first | omega | (simp; omega) | (simp; done)))) hB hl (by omega) (by omega) (by omega)).mono ?_; rintro e w' ⟨ky, dy, rfl, ⟨hky0, hky1, -⟩, rfl⟩; have hky1 := hky1 (by omega))
    go_wp2_with fail
    (go_at_call 51; refine (pick_any _ w0 B g a len cap _ _ (by ((repeat (first | (refine (heap_alloc_past _ _ ?_).trans ?_; focus (first | omega | (simp; omega) | (simp; done))) | (refine (heap_more_past _ _ _ ?_).trans ?_; focus (first | omega | (simp; omega) | (simp; done))))); exact heap_rd_same (by (first | omega | (simp; omega) | (simp; done))))) hv (by repeat' (first | (with_reducible assumption) | (with_reducible exact Below.refl _ _) | (with_reducible refine Below.alloc ?_ ?_ _) | (with_reducible refine below_more ?_ ?_ _ _) | (with_reducible refine below_rd ?_ ?_ _ _) | (with_reducible refine Below.drew ?_) | (first | omega | (simp; omega) | (simp; done)))) hB hl (by omega) (by omega) (by omega)).mono ?_; rintro e w' ⟨kz, dz, rfl, ⟨hkz0, hkz1, -⟩, rfl⟩; have hkz1 := hkz1 (by omega))
    go_wp2_with fail
    (go_at_call 51; refine (pick_any _ w0 B g a len cap _ _ (by ((repeat (first | (refine (heap_alloc_past _ _ ?_).trans ?_; focus (first | omega | (simp; omega) | (simp; done))) | (refine (heap_more_past _ _ _ ?_).trans ?_; focus (first | omega | (simp; omega) | (simp; done))))); exact heap_rd_same (by (first | omega | (simp; omega) | (simp; done))))) hv (by repeat' (first | (with_reducible assumption) | (with_reducible exact Below.refl _ _) | (with_reducible refine Below.alloc ?_ ?_ _) | (with_reducible refine below_more ?_ ?_ _ _) | (with_reducible refine below_rd ?_ ?_ _ _) | (with_reducible refine Below.drew ?_) | (first | omega | (simp; omega) | (simp; done)))) hB hl (by omega) (by omega) (by omega)).mono ?_; rintro e w' ⟨ku, du, rfl, ⟨hku0, hku1, -⟩, rfl⟩; have hku1 := hku1 (by omega))
    go_wp2
    go_returns
    (apply Exists.intro; apply Exists.intro; apply Exists.intro; apply Exists.intro; apply DrawPost.mk; (focus (repeat' (first | (with_reducible exact IsMore.refl _) | (with_reducible refine IsMore.alloc ?_ _) | (with_reducible refine IsMore.more ?_ _ _) | (with_reducible refine IsMore.drew ?_)))); all_goals omega)

theorem l91Surd_any (W w0 : World) (B g : Nat) (a : Option Addr) (len cap : Nat) (p : Int) (hgb : W.heap[g]? = some (rdObj (.slice a len cap) p)) (hv : HasB w0 B a len) (hbel : Below B w0 W) (hB : B ≤ g) (hl : len ≤ 2000) (hp : 0 ≤ p) (hp2 : p ≤ 100000) :
    Calls Try.prog 80 #[.pointer (some ⟨g, 0, none⟩)] W (SurdPost W g (.slice a len cap) p) := by
  have e := rd_self hgb
  have hg : g < W.heap.size := by
    by_cases h : g < W.heap.size
    · exact h
    · rw [Array.getElem?_eq_none (by omega)] at hgb; cases hgb
  have h := l91Surd_rd W w0 B g a len cap p hg hv hbel hB hl hp hp2
  rw [← e] at h
  exact h

def DrewSS (W : World) (e : Ending) (w' : World) : Prop := (∃ a b c d a' b' c' d' : Int, e = .returned (.tuple #[sv a b c d, sv a' b' c' d'])) ∧ Below W.heap.size W w'

set_option maxRecDepth 100000 in
set_option maxHeartbeats 4000000 in
theorem l91Surds_any (a : Option Addr) (len cap B : Nat) (W W0 : World) (hv : HasB W0 B a len) (hbel : Below B W0 W) (hB : B ≤ W.heap.size) (hl : len ≤ 1048576) (hc : len ≤ cap) :
    Calls Try.prog 65 #[.slice a len cap] W (DrewSS W) := by
  go_enter Try.func65, Try.ntmps65
  go_wp2_with (first | (go_at_call 50; refine (open_any _ _ _ _ hl hc).mono ?_; rintro e w' ⟨len', hl1, hl2, rfl, rfl⟩) | (go_at_call 80; refine (l91Surd_any _ W0 B _ a len' cap 0 (by (first | exact heap_alloc_at _ _ (by (first | omega | (simp; omega) | (simp; done))) | ((repeat (first | (refine (heap_alloc_past _ _ ?_).trans ?_; focus (first | omega | (simp; omega) | (simp; done))) | (refine (heap_more_past _ _ _ ?_).trans ?_; focus (first | omega | (simp; omega) | (simp; done))))); exact heap_rd_same (by (first | omega | (simp; omega) | (simp; done)))))) (hv.less hl1) (by repeat' (first | (with_reducible assumption) | (with_reducible exact Below.refl _ _) | (with_reducible refine Below.alloc ?_ ?_ _) | (with_reducible refine below_more ?_ ?_ _ _) | (with_reducible refine below_rd ?_ ?_ _ _) | (with_reducible refine Below.drew ?_) | (first | omega | (simp; omega) | (simp; done)))) (by (first | omega | (simp; omega) | (simp; done))) hl2 (by omega) (by omega)).mono ?_; rintro e w' ⟨x1, x2, x3, x4, p1, hp1, hp2, rfl, os1, d1, rfl⟩))
  have e0 : W.heap.size ≠ W.heap.size + 1 + 1 := by omega
  have e1 : W.heap.size + 1 ≠ W.heap.size + 1 + 1 := by omega
  have hne : W.heap.size + 1 + 1 + 1 + os1.size ≠ W.heap.size + 1 + 1 := by omega
  have hlt : W.heap.size + 1 + 1 < W.heap.size + 1 + 1 + 1 + os1.size := by omega
  go_region_held3 (fun w' => w'.cell? ⟨W.heap.size + 1 + 1 + 1 + os1.size, 0, none⟩ = some (.int .i64 x1) ∧ w'.cell? ⟨W.heap.size + 1 + 1 + 1 + os1.size, 1, none⟩ = some (.int .i64 x2) ∧ w'.cell? ⟨W.heap.size + 1 + 1 + 1 + os1.size, 2, none⟩ = some (.int .i64 x3) ∧ w'.cell? ⟨W.heap.size + 1 + 1 + 1 + os1.size, 3, none⟩ = some (.int .i64 x4)) (simp [go_sem, *])
    (first | (go_at_call 80; refine (l91Surd_any _ W0 B _ a len' cap p1 (by first | ((repeat (first | (refine (heap_alloc_past _ _ ?_).trans ?_; focus (first | omega | (simp; omega) | (simp; done))) | (refine (heap_more_past _ _ _ ?_).trans ?_; focus (first | omega | (simp; omega) | (simp; done))))); exact heap_alloc_at _ _ (by (first | omega | (simp; omega) | (simp; done)))) | ((repeat (first | (refine (heap_alloc_past _ _ ?_).trans ?_; focus (first | omega | (simp; omega) | (simp; done))) | (refine (heap_more_past _ _ _ ?_).trans ?_; focus (first | omega | (simp; omega) | (simp; done))))); exact heap_rd_same (by (first | omega | (simp; omega) | (simp; done))))) (hv.less hl1) (by repeat' (first | (with_reducible assumption) | (with_reducible exact Below.refl _ _) | (with_reducible refine Below.alloc ?_ ?_ _) | (with_reducible refine below_more ?_ ?_ _ _) | (with_reducible refine below_rd ?_ ?_ _ _) | (with_reducible refine Below.drew ?_) | (first | omega | (simp; omega) | (simp; done)))) (by (first | omega | (simp; omega) | (simp; done))) hl2 (by omega) (by omega)).mono ?_; rintro e w' ⟨y1, y2, y3, y4, p2, hp3, hp4, rfl, os2, d2, rfl⟩))
  all_goals
    go_wp2
    go_returns
    exact ⟨⟨_, _, _, _, _, _, _, _, rfl⟩, by repeat' (first | (with_reducible exact Below.refl _ _) | (with_reducible assumption) | (with_reducible refine Below.alloc ?_ ?_ _) | (with_reducible refine below_more ?_ ?_ _ _) | (with_reducible refine below_rd ?_ ?_ _ _) | (with_reducible refine Below.drew ?_) | (with_reducible refine Below.setCell ?_ ?_ _) | go_size)⟩
theorem drawSurdTimes_any (a : Option Addr) (len cap B : Nat) (W W0 : World) (hv : HasB W0 B a len) (hbel : Below B W0 W) (hB : B ≤ W.heap.size) (hl : len ≤ 1048576) (hc : len ≤ cap) :
    Calls Try.prog 36 #[.slice a len cap] W (DrewSS W) := by
  go_enter Try.func36, Try.ntmps36
  go_wp2_with (go_at_call 65; refine (l91Surds_any _ _ _ B _ W0 hv (by repeat' (first | (with_reducible assumption) | (with_reducible exact Below.refl _ _) | (with_reducible refine Below.alloc ?_ ?_ _) | (with_reducible refine below_more ?_ ?_ _ _) | (with_reducible refine below_rd ?_ ?_ _ _) | (with_reducible refine Below.drew ?_) | (first | omega | (simp; omega) | (simp; done)))) (by (first | omega | (simp; omega) | (simp; done))) hl hc).mono ?_; rintro e w' ⟨⟨x1, x2, x3, x4, y1, y2, y3, y4, rfl⟩, hb⟩; obtain ⟨os, dd, rfl⟩ := more_of_below hb; clear hb)
  go_returns
  exact ⟨⟨_, _, _, _, _, _, _, _, rfl⟩, by repeat' (first | (with_reducible exact Below.refl _ _) | (with_reducible assumption) | (with_reducible refine Below.alloc ?_ ?_ _) | (with_reducible refine below_more ?_ ?_ _ _) | (with_reducible refine below_rd ?_ ?_ _ _) | (with_reducible refine Below.drew ?_) | (with_reducible refine Below.setCell ?_ ?_ _) | go_size)⟩
end Go.Proofs.Ytamfdilibgcakaa
