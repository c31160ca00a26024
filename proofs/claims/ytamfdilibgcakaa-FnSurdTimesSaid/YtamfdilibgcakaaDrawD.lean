/- What the reference draws for a law: some points, and nothing old has turned. -/
import Derived.Test.YtamfdilibgcakaaDrawC
namespace Go.Proofs.Ytamfdilibgcakaa
open Go.RowKit

theorem l91Cyc_any (W w0 : World) (B g : Nat) (a : Option Addr) (len cap : Nat) (p : Int) (hgb : W.heap[g]? = some (rdObj (.slice a len cap) p)) (hv : HasB w0 B a len) (hbel : Below B w0 W) (hB : B ≤ g) (hl : len ≤ 2000) (hp : 0 ≤ p) (hp2 : p ≤ 100000) :
    Calls Try.prog 61 #[.pointer (some ⟨g, 0, none⟩)] W (CycPost W g (.slice a len cap) p) := by
  have e := rd_self hgb
  have hg : g < W.heap.size := by
    by_cases h : g < W.heap.size
    · exact h
    · rw [Array.getElem?_eq_none (by omega)] at hgb; cases hgb
  have h := l91Cyc_rd W w0 B g a len cap p hg hv hbel hB hl hp hp2
  rw [← e] at h
  exact h

def Drew1 (W : World) (e : Ending) (w' : World) : Prop := (∃ c : C8, e = .returned (cv c)) ∧ Below W.heap.size W w'
def Drew2 (W : World) (e : Ending) (w' : World) : Prop := (∃ c d : C8, e = .returned (.tuple #[cv c, cv d])) ∧ Below W.heap.size W w'

theorem drawCycMirror_any (a : Option Addr) (len cap B : Nat) (W W0 : World) (hv : HasB W0 B a len) (hbel : Below B W0 W) (hB : B ≤ W.heap.size) (hl : len ≤ 1048576) (hc : len ≤ cap) :
    Calls Try.prog 33 #[.slice a len cap] W (Drew1 W) := by
  go_enter Try.func33, Try.ntmps33
  go_wp2_with (first | (go_at_call 50; refine (open_any _ _ _ _ hl hc).mono ?_; rintro e w' ⟨len', hl1, hl2, rfl, rfl⟩) | (go_at_call 61; refine (l91Cyc_any _ W0 B _ a len' cap 0 (by (first | exact heap_alloc_at _ _ (by (first | omega | (simp; omega) | (simp; done))) | ((repeat (first | (refine (heap_alloc_past _ _ ?_).trans ?_; focus (first | omega | (simp; omega) | (simp; done))) | (refine (heap_more_past _ _ _ ?_).trans ?_; focus (first | omega | (simp; omega) | (simp; done))))); exact heap_rd_same (by (first | omega | (simp; omega) | (simp; done)))))) (hv.less hl1) (by repeat' (first | (with_reducible assumption) | (with_reducible exact Below.refl _ _) | (with_reducible refine Below.alloc ?_ ?_ _) | (with_reducible refine below_more ?_ ?_ _ _) | (with_reducible refine below_rd ?_ ?_ _ _) | (with_reducible refine Below.drew ?_) | (first | omega | (simp; omega) | (simp; done)))) (by (first | omega | (simp; omega) | (simp; done))) hl2 (by omega) (by omega)).mono ?_; rintro e w' ⟨c1, p1, hp1, hp2, rfl, os1, d1, rfl⟩))
  go_returns
  exact ⟨⟨_, rfl⟩, by repeat' (first | (with_reducible exact Below.refl _ _) | (with_reducible assumption) | (with_reducible refine Below.alloc ?_ ?_ _) | (with_reducible refine below_more ?_ ?_ _ _) | (with_reducible refine below_rd ?_ ?_ _ _) | (with_reducible refine Below.drew ?_) | (with_reducible refine Below.setCell ?_ ?_ _) | go_size)⟩

end Go.Proofs.Ytamfdilibgcakaa
