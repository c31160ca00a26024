/- Transforms of rows that laws own. -/
import Derived.Test.YtelgbmebjickeaaRowLaw
import Derived.Test.YtelgbmebjickeaaTransC
namespace Go.Proofs.Ytelgbmebjickeaa
open Go.RowKit

theorem trR_len (dir : Int) (xs : List C8) : (trR dir xs).length ≤ xs.length := by
  unfold trR; split
  · rw [trP_len]; exact Nat.le_refl _
  · simp
theorem transformOf_own {B : Nat} {v : Value} {xs : List C8} {w : World} (h : OwnsP w B v xs) (hn : xs.length ≤ 1048576) :
    Calls Try.prog 24 #[v] w (RowPost w (trOk (-1) xs) (trR (-1) xs)) := by
  obtain ⟨a, cap, rfl, hp⟩ := h.hasP
  exact transformOf_any a cap xs w hp hn
theorem transformBack_own {B : Nat} {v : Value} {xs : List C8} {w : World} (h : OwnsP w B v xs) (hn : xs.length ≤ 1048576) :
    Calls Try.prog 22 #[v] w (RowPost w (trOk (1) xs) (trR (1) xs)) := by
  obtain ⟨a, cap, rfl, hp⟩ := h.hasP
  exact transformBack_any a cap xs w hp hn

theorem specTransformOf_own {B : Nat} {v : Value} {xs : List C8} {w : World} (h : OwnsP w B v xs) (hn : xs.length ≤ 1048576) :
    Calls Try.prog 23 #[v] w (RowPost w (trOk (-1) xs) (trR (-1) xs)) := by
  obtain ⟨a, cap, rfl, hp⟩ := h.hasP
  exact specTransformOf_any a cap xs w hp hn
theorem specTransformBack_own {B : Nat} {v : Value} {xs : List C8} {w : World} (h : OwnsP w B v xs) (hn : xs.length ≤ 1048576) :
    Calls Try.prog 21 #[v] w (RowPost w (trOk (1) xs) (trR (1) xs)) := by
  obtain ⟨a, cap, rfl, hp⟩ := h.hasP
  exact specTransformBack_any a cap xs w hp hn

end Go.Proofs.Ytelgbmebjickeaa
