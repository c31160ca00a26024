/- Turns drawn; points and turns drawn. -/
import Derived.Test.YtamfdilibgcakaaDrawE
namespace Go.Proofs.Ytamfdilibgcakaa
open Go.RowKit

def TurnPost (w : World) (g : Nat) (v : Value) (p : Int) (e : Ending) (w' : World) : Prop := ∃ n : Int, DrawPost w g v p 3 (.int .i64 n) e w'

set_option maxRecDepth 100000 in
set_option maxHeartbeats 4000000 in
theorem l91Turn_rd (w w0 : World) (B g : Nat) (a : Option Addr) (len cap : Nat) (p : Int) (hg : g < w.heap.size) (hv : HasB w0 B a len) (hbel : Below B w0 w) (hB : B ≤ g) (hl : len ≤ 2000) (hp : 0 ≤ p) (hp2 : p ≤ 100000) :
    Calls Try.prog 58 #[.pointer (some ⟨g, 0, none⟩)] (rd w g (.slice a len cap) p) (TurnPost w g (.slice a len cap) p) := by
  go_enter Try.func58, Try.ntmps58
  go_wp2_with fail
  (go_at_call 51; refine (pick_any _ w0 B g a len cap _ _ (by ((repeat (first | (refine (heap_alloc_past _ _ ?_).trans ?_; focus (first | omega | (simp; omega) | (simp; done))) | (refine (heap_more_past _ _ _ ?_).trans ?_; focus (first | omega | (simp; omega) | (simp; done))))); exact heap_rd_same (by (first | omega | (simp; omega) | (simp; done))))) hv (by repeat' (first | (with_reducible assumption) | (with_reducible exact Below.refl _ _) | (with_reducible refine Below.alloc ?_ ?_ _) | (with_reducible refine below_more ?_ ?_ _ _) | (with_reducible refine below_rd ?_ ?_ _ _) | (with_reducible refine Below.drew ?_) | (first | omega | (simp; omega) | (simp; done)))) hB hl (by omega) (by omega) (by omega)).mono ?_; rintro e w' ⟨k, dk, rfl, ⟨hk0, hk1, -⟩, rfl⟩; have hk1 := hk1 (by omega))
  have hks : k = 0 ∨ 1 ≤ k := by omega
  rcases hks with rfl | hk3
  · clear hk0 hk1
    go_wp2_with fail
    (go_at_call 51; refine (pick_any _ w0 B g a len cap _ _ (by ((repeat (first | (refine (heap_alloc_past _ _ ?_).trans ?_; focus (first | omega | (simp; omega) | (simp; done))) | (refine (heap_more_past _ _ _ ?_).trans ?_; focus (first | omega | (simp; omega) | (simp; done))))); exact heap_rd_same (by (first | omega | (simp; omega) | (simp; done))))) hv (by repeat' (first | (with_reducible assumption) | (with_reducible exact Below.refl _ _) | (with_reducible refine Below.alloc ?_ ?_ _) | (with_reducible refine below_more ?_ ?_ _ _) | (with_reducible refine below_rd ?_ ?_ _ _) | (with_reducible refine Below.drew ?_) | (first | omega | (simp; omega) | (simp; done)))) hB hl (by omega) (by omega) (by omega)).mono ?_; rintro e w' ⟨kx, dx, rfl, ⟨hkx0, hkx1, -⟩, rfl⟩; have hkx1 := hkx1 (by omega))
    have hkx : kx = 0 ∨ kx = 1 ∨ kx = 2 := by omega
    rcases hkx with rfl | rfl | rfl
    all_goals
      clear hkx0 hkx1
      go_wp2
      go_ret
      (apply Exists.intro; apply DrawPost.mk; (focus (repeat' (first | (with_reducible exact IsMore.refl _) | (with_reducible refine IsMore.alloc ?_ _) | (with_reducible refine IsMore.more ?_ _ _) | (with_reducible refine IsMore.drew ?_)))); all_goals omega)
  · have e0 : (k == 0) = false := by rw [beq_eq_false_iff_ne]; omega
    go_wp2_with (go_at_call 51; refine (pick_any _ w0 B g a len cap _ _ (by ((repeat (first | (refine (heap_alloc_past _ _ ?_).trans ?_; focus (first | omega | (simp; omega) | (simp; done))) | (refine (heap_more_past _ _ _ ?_).trans ?_; focus (first | omega | (simp; omega) | (simp; done))))); exact heap_rd_same (by (first | omega | (simp; omega) | (simp; done))))) hv (by repeat' (first | (with_reducible assumption) | (with_reducible exact Below.refl _ _) | (with_reducible refine Below.alloc ?_ ?_ _) | (with_reducible refine below_more ?_ ?_ _ _) | (with_reducible refine below_rd ?_ ?_ _ _) | (with_reducible refine Below.drew ?_) | (first | omega | (simp; omega) | (simp; done)))) hB hl (by omega) (by omega) (by omega)).mono ?_; rintro e w' ⟨kn, dn, rfl, ⟨hkn0, hkn1, -⟩, rfl⟩; have hkn1 := hkn1 (by omega))
    go_ret
    (apply Exists.intro; apply DrawPost.mk; (focus (repeat' (first | (with_reducible exact IsMore.refl _) | (with_reducible refine IsMore.alloc ?_ _) | (with_reducible refine IsMore.more ?_ _ _) | (with_reducible refine IsMore.drew ?_)))); all_goals omega)

theorem l91Turn_any (W w0 : World) (B g : Nat) (a : Option Addr) (len cap : Nat) (p : Int) (hgb : W.heap[g]? = some (rdObj (.slice a len cap) p)) (hv : HasB w0 B a len) (hbel : Below B w0 W) (hB : B ≤ g) (hl : len ≤ 2000) (hp : 0 ≤ p) (hp2 : p ≤ 100000) :
    Calls Try.prog 58 #[.pointer (some ⟨g, 0, none⟩)] W (TurnPost W g (.slice a len cap) p) := by
  have e := rd_self hgb
  have hg : g < W.heap.size := by
    by_cases h : g < W.heap.size
    · exact h
    · rw [Array.getElem?_eq_none (by omega)] at hgb; cases hgb
  have h := l91Turn_rd W w0 B g a len cap p hg hv hbel hB hl hp hp2
  rw [← e] at h
  exact h

def DrewN (W : World) (e : Ending) (w' : World) : Prop := (∃ n : Int, e = .returned (.int .i64 n)) ∧ Below W.heap.size W w'
def DrewCN (W : World) (e : Ending) (w' : World) : Prop := (∃ (c : C8) (n : Int), e = .returned (.tuple #[cv c, .int .i64 n])) ∧ Below W.heap.size W w'

theorem drawCycRoot_any (a : Option Addr) (len cap B : Nat) (W W0 : World) (hv : HasB W0 B a len) (hbel : Below B W0 W) (hB : B ≤ W.heap.size) (hl : len ≤ 1048576) (hc : len ≤ cap) :
    Calls Try.prog 26 #[.slice a len cap] W (DrewN W) := by
  go_enter Try.func26, Try.ntmps26
  go_wp2_with (first | (go_at_call 50; refine (open_any _ _ _ _ hl hc).mono ?_; rintro e w' ⟨len', hl1, hl2, rfl, rfl⟩) | (go_at_call 58; refine (l91Turn_any _ W0 B _ a len' cap 0 (by (first | exact heap_alloc_at _ _ (by (first | omega | (simp; omega) | (simp; done))) | ((repeat (first | (refine (heap_alloc_past _ _ ?_).trans ?_; focus (first | omega | (simp; omega) | (simp; done))) | (refine (heap_more_past _ _ _ ?_).trans ?_; focus (first | omega | (simp; omega) | (simp; done))))); exact heap_rd_same (by (first | omega | (simp; omega) | (simp; done)))))) (hv.less hl1) (by repeat' (first | (with_reducible assumption) | (with_reducible exact Below.refl _ _) | (with_reducible refine Below.alloc ?_ ?_ _) | (with_reducible refine below_more ?_ ?_ _ _) | (with_reducible refine below_rd ?_ ?_ _ _) | (with_reducible refine Below.drew ?_) | (first | omega | (simp; omega) | (simp; done)))) (by (first | omega | (simp; omega) | (simp; done))) hl2 (by omega) (by omega)).mono ?_; rintro e w' ⟨n1, p1, hp1, hp2, rfl, os1, d1, rfl⟩))
  go_returns
  exact ⟨⟨_, rfl⟩, by repeat' (first | (with_reducible exact Below.refl _ _) | (with_reducible assumption) | (with_reducible refine Below.alloc ?_ ?_ _) | (with_reducible refine below_more ?_ ?_ _ _) | (with_reducible refine below_rd ?_ ?_ _ _) | (with_reducible refine Below.drew ?_) | (with_reducible refine Below.setCell ?_ ?_ _) | go_size)⟩
end Go.Proofs.Ytamfdilibgcakaa
