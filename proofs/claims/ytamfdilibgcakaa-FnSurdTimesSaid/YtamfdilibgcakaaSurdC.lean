/- The contract of the product of two surds, four times. -/
import Derived.Test.YtamfdilibgcakaaSurdA
namespace Go.Proofs.Ytamfdilibgcakaa
open Go.RowKit

/-- The four tops of four times a product. -/
def tA (a b c d a' b' c' d' : Int) : Int := a * a' + 2 * b * b' + 3 * c * c' + 6 * d * d'
def tB (a b c d a' b' c' d' : Int) : Int := a * b' + b * a' + 3 * (c * d' + d * c')
def tC (a b c d a' b' c' d' : Int) : Int := a * c' + c * a' + 2 * (b * d' + d * b')
def tD (a b c d a' b' c' d' : Int) : Int := a * d' + d * a' + b * c' + c * b'

/-- A product of two numbers within the bound. -/
def pB (x y : Int) : Prop := -100000000000000 ≤ x * y ∧ x * y ≤ 100000000000000
theorem pB_of {x y : Int} (hx : inB x (-10000000) 10000000 = true) (hy : inB y (-10000000) 10000000 = true) : pB x y := by
  rw [inB_iff] at hx hy
  unfold pB
  have h1 : x.natAbs ≤ 10000000 := by omega
  have h2 : y.natAbs ≤ 10000000 := by omega
  have h3 : (x * y).natAbs ≤ 10000000 * 10000000 := by rw [Int.natAbs_mul]; exact Nat.mul_le_mul h1 h2
  omega

theorem okS_parts {a b c d : Int} (h : okS a b c d = true) : inB a (-10000000) 10000000 = true ∧ inB b (-10000000) 10000000 = true ∧ inB c (-10000000) 10000000 = true ∧ inB d (-10000000) 10000000 = true := by
  simp only [okS, Bool.and_eq_true] at h; exact ⟨h.1.1.1, h.1.1.2, h.1.2, h.2⟩

theorem times_any (a b c d a' b' c' d' : Int) (w : World) (h : okS a b c d = true) (h' : okS a' b' c' d' = true) :
    Calls Try.prog 67 #[sv a b c d, sv a' b' c' d'] w fun e w' => e = .returned (sv (tA a b c d a' b' c' d') (tB a b c d a' b' c' d') (tC a b c d a' b' c' d') (tD a b c d a' b' c' d')) ∧ Below w.heap.size w w' := by
  obtain ⟨ha, hb, hc, hd⟩ := okS_parts h
  obtain ⟨ha', hb', hc', hd'⟩ := okS_parts h'
  obtain ⟨p11, q11⟩ := pB_of ha ha'; obtain ⟨p12, q12⟩ := pB_of ha hb'; obtain ⟨p13, q13⟩ := pB_of ha hc'; obtain ⟨p14, q14⟩ := pB_of ha hd'
  obtain ⟨p21, q21⟩ := pB_of hb ha'; obtain ⟨p22, q22⟩ := pB_of hb hb'; obtain ⟨p23, q23⟩ := pB_of hb hc'; obtain ⟨p24, q24⟩ := pB_of hb hd'
  obtain ⟨p31, q31⟩ := pB_of hc ha'; obtain ⟨p32, q32⟩ := pB_of hc hb'; obtain ⟨p33, q33⟩ := pB_of hc hc'; obtain ⟨p34, q34⟩ := pB_of hc hd'
  obtain ⟨p41, q41⟩ := pB_of hd ha'; obtain ⟨p42, q42⟩ := pB_of hd hb'; obtain ⟨p43, q43⟩ := pB_of hd hc'; obtain ⟨p44, q44⟩ := pB_of hd hd'
  have r22 : 2 * b * b' = 2 * (b * b') := Int.mul_assoc ..
  have r33 : 3 * c * c' = 3 * (c * c') := Int.mul_assoc ..
  have r44 : 6 * d * d' = 6 * (d * d') := Int.mul_assoc ..
  have s22 : -200000000000000 ≤ 2 * b * b' ∧ 2 * b * b' ≤ 200000000000000 := by rw [r22]; omega
  have s33 : -300000000000000 ≤ 3 * c * c' ∧ 3 * c * c' ≤ 300000000000000 := by rw [r33]; omega
  have s44 : -600000000000000 ≤ 6 * d * d' ∧ 6 * d * d' ≤ 600000000000000 := by rw [r44]; omega
  obtain ⟨s22, t22⟩ := s22; obtain ⟨s33, t33⟩ := s33; obtain ⟨s44, t44⟩ := s44
  clear r22 r33 r44
  rw [inB_iff] at ha hb hc hd ha' hb' hc' hd'
  clear h h'
  go_enter Try.func67, Try.ntmps67
  go_wp2
  go_returns
  exact ⟨rfl, by repeat' (first | (with_reducible exact Below.refl _ _) | (with_reducible assumption) | (with_reducible refine Below.alloc ?_ ?_ _) | (with_reducible refine below_more ?_ ?_ _ _) | (with_reducible refine below_rd ?_ ?_ _ _) | (with_reducible refine Below.drew ?_) | (with_reducible refine Below.setCell ?_ ?_ _) | go_size)⟩

end Go.Proofs.Ytamfdilibgcakaa
