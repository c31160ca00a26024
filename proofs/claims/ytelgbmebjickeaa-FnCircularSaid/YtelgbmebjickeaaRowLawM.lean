/- Products of rows that laws own. -/
import Derived.Test.YtelgbmebjickeaaRowLaw
import Derived.Test.YtelgbmebjickeaaRowF
namespace Go.Proofs.Ytelgbmebjickeaa
open Go.RowKit

theorem rtR_len (xs ys : List C8) : (rtR xs ys).length ≤ xs.length := by
  unfold rtR; split
  · rw [prP_len]; exact Nat.le_refl _
  · simp
theorem rowTimes_own {B B' : Nat} {v v' : Value} {xs ys : List C8} {w : World} (h : OwnsP w B v xs) (h' : OwnsP w B' v' ys) (hn : xs.length ≤ 1048576) (hn' : ys.length ≤ 1048576) :
    Calls Try.prog 17 #[v, v'] w (RowPost w (rtOk xs ys) (rtR xs ys)) := by
  obtain ⟨a, cap, rfl, hp⟩ := h.hasP
  obtain ⟨a', cap', rfl, hp'⟩ := h'.hasP
  exact rowTimes_any a a' cap cap' xs ys w hp hp' hn hn'
theorem specRowTimes_own {B B' : Nat} {v v' : Value} {xs ys : List C8} {w : World} (h : OwnsP w B v xs) (h' : OwnsP w B' v' ys) (hn : xs.length ≤ 1048576) (hn' : ys.length ≤ 1048576) :
    Calls Try.prog 15 #[v, v'] w (RowPost w (rtOk xs ys) (rtR xs ys)) := by
  obtain ⟨a, cap, rfl, hp⟩ := h.hasP
  obtain ⟨a', cap', rfl, hp'⟩ := h'.hasP
  exact specRowTimes_any a a' cap cap' xs ys w hp hp' hn hn'
end Go.Proofs.Ytelgbmebjickeaa
