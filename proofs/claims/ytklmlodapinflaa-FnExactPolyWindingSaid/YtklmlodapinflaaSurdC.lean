/- The contract of the product of two surds, four times. -/
import Derived.Test.YtklmlodapinflaaSurdA
namespace Go.Proofs.Ytklmlodapinflaa
open Go.RowKit

/-- The four tops of four times a product. -/
def tA (a b c d a' b' c' d' : Int) : Int := a * a' + 2 * b * b' + 3 * c * c' + 6 * d * d'
def tB (a b c d a' b' c' d' : Int) : Int := a * b' + b * a' + 3 * (c * d' + d * c')
def tC (a b c d a' b' c' d' : Int) : Int := a * c' + c * a' + 2 * (b * d' + d * b')
def tD (a b c d a' b' c' d' : Int) : Int := a * d' + d * a' + b * c' + c * b'

/-- A product of two numbers within the bound. -/
def pB (x y : Int) : Prop := -100000000000000 ≤ x * y ∧ x * y ≤ 100000000000000
theorem pB_of {x y : Int} (hx : inB x (-10000000) 10000000 = true) (hy : inB y (-10000000) 10000000 = true) : pB x y := by
  rw [inB_iff] at hx hy
  unfold pB
  have h1 : x.natAbs ≤ 10000000 := by omega
  have h2 : y.natAbs ≤ 10000000 := by omega
  have h3 : (x * y).natAbs ≤ 10000000 * 10000000 := by rw [Int.natAbs_mul]; exact Nat.mul_le_mul h1 h2
  omega

theorem okS_parts {a b c d : Int} (h : okS a b c d = true) : inB a (-10000000) 10000000 = true ∧ inB b (-10000000) 10000000 = true ∧ inB c (-10000000) 10000000 = true ∧ inB d (-10000000) 10000000 = true := by
  simp only [okS, Bool.and_eq_true] at h; exact ⟨h.1.1.1, h.1.1.2, h.1.2, h.2⟩

end Go.Proofs.Ytklmlodapinflaa
