/- What the reference draws for a law: some points, and nothing old has turned. -/
import Derived.Test.YtelgbmebjickeaaDrawC
namespace Go.Proofs.Ytelgbmebjickeaa
open Go.RowKit

theorem l91Cyc_any (W w0 : World) (B g : Nat) (a : Option Addr) (len cap : Nat) (p : Int) (hgb : W.heap[g]? = some (rdObj (.slice a len cap) p)) (hv : HasB w0 B a len) (hbel : Below B w0 W) (hB : B ≤ g) (hl : len ≤ 2000) (hp : 0 ≤ p) (hp2 : p ≤ 100000) :
    Calls Try.prog 83 #[.pointer (some ⟨g, 0, none⟩)] W (CycPost W g (.slice a len cap) p) := by
  have e := rd_self hgb
  have hg : g < W.heap.size := by
    by_cases h : g < W.heap.size
    · exact h
    · rw [Array.getElem?_eq_none (by omega)] at hgb; cases hgb
  have h := l91Cyc_rd W w0 B g a len cap p hg hv hbel hB hl hp hp2
  rw [← e] at h
  exact h

def Drew1 (W : World) (e : Ending) (w' : World) : Prop := (∃ c : C8, e = .returned (cv c)) ∧ Below W.heap.size W w'
def Drew2 (W : World) (e : Ending) (w' : World) : Prop := (∃ c d : C8, e = .returned (.tuple #[cv c, cv d])) ∧ Below W.heap.size W w'


end Go.Proofs.Ytelgbmebjickeaa
