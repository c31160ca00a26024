/- RowTimes of the reference. -/
import Derived.Test.YtklmlodapinflaaRowE
namespace Go.Proofs.Ytklmlodapinflaa
open Go.RowKit

theorem OwnsP.empty {w : World} {B g : Nat} (hg : g = w.heap.size) (hB : B ≤ w.heap.size) : OwnsP (w.alloc (.cells #[] 25)) B (.slice (some ⟨g, 0, none⟩) 0 0) [] := by
  subst hg
  exact ⟨by simp [rowsV], Or.inr ⟨w.heap.size, 0, _, rfl, hB, heap_alloc_new _ _, Nat.le_refl _, by unfold maxLen; omega, rfl, by simp [rowsV]⟩⟩
end Go.Proofs.Ytklmlodapinflaa
