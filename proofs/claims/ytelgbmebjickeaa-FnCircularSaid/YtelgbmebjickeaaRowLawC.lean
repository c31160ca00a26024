/- Circular products of rows that laws own. -/
import Derived.Test.YtelgbmebjickeaaRowLaw
import Derived.Test.YtelgbmebjickeaaCircC
namespace Go.Proofs.Ytelgbmebjickeaa
open Go.RowKit

theorem rcR_len (xs ys : List C8) : (rcR xs ys).length ≤ xs.length := by
  unfold rcR; split
  · rw [rcP_len]; exact Nat.le_refl _
  · simp
theorem rowCircular_own {B B' : Nat} {v v' : Value} {xs ys : List C8} {w : World} (h : OwnsP w B v xs) (h' : OwnsP w B' v' ys) (hn : xs.length ≤ 1048576) (hn' : ys.length ≤ 1048576) :
    Calls Try.prog 32 #[v, v'] w (RowPost w (rcOk xs ys) (rcR xs ys)) := by
  obtain ⟨a, cap, rfl, hp⟩ := h.hasP
  obtain ⟨a', cap', rfl, hp'⟩ := h'.hasP
  exact rowCircular_any a a' cap cap' xs ys w hp hp' hn hn'
theorem specRowCircular_own {B B' : Nat} {v v' : Value} {xs ys : List C8} {w : World} (h : OwnsP w B v xs) (h' : OwnsP w B' v' ys) (hn : xs.length ≤ 1048576) (hn' : ys.length ≤ 1048576) :
    Calls Try.prog 31 #[v, v'] w (RowPost w (rcOk xs ys) (rcR xs ys)) := by
  obtain ⟨a, cap, rfl, hp⟩ := h.hasP
  obtain ⟨a', cap', rfl, hp'⟩ := h'.hasP
  exact specRowCircular_any a a' cap cap' xs ys w hp hp' hn hn'
end Go.Proofs.Ytelgbmebjickeaa
