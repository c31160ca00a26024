/- The contracts of SurdTimes, of the program and of the reference: both return the same. -/
import Derived.Test.YtklmlodapinflaaSurdB
import Derived.Test.YtklmlodapinflaaSurdC
namespace Go.Proofs.Ytklmlodapinflaa
open Go.RowKit


theorem k2B {x y : Int} (hx : inB x (-10000000) 10000000 = true) (hy : inB y (-10000000) 10000000 = true) : -200000000000000 ≤ 2 * x * y ∧ 2 * x * y ≤ 200000000000000 := by
  have := pB_of hx hy; unfold pB at this; rw [Int.mul_assoc]; omega
theorem k3B {x y : Int} (hx : inB x (-10000000) 10000000 = true) (hy : inB y (-10000000) 10000000 = true) : -300000000000000 ≤ 3 * x * y ∧ 3 * x * y ≤ 300000000000000 := by
  have := pB_of hx hy; unfold pB at this; rw [Int.mul_assoc]; omega
theorem k6B {x y : Int} (hx : inB x (-10000000) 10000000 = true) (hy : inB y (-10000000) 10000000 = true) : -600000000000000 ≤ 6 * x * y ∧ 6 * x * y ≤ 600000000000000 := by
  have := pB_of hx hy; unfold pB at this; rw [Int.mul_assoc]; omega

/-- The product is told: both are valid, and so is it. -/
def stOk (a b c d a' b' c' d' : Int) : Bool := okS a b c d && okS a' b' c' d' && okS (tA a b c d a' b' c' d') (tB a b c d a' b' c' d') (tC a b c d a' b' c' d') (tD a b c d a' b' c' d')

end Go.Proofs.Ytklmlodapinflaa
