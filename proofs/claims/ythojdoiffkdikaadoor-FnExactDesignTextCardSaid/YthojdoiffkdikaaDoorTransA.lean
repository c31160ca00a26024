/- Transforms of rows: plain words; the item of the program's transform. -/
import Derived.Test.YthojdoiffkdikaaDoorSumOf
namespace Go.Proofs.YthojdoiffkdikaaDoor
open Go.RowKit
attribute [local go_sem ↓] Go.wp_at_zero Go.wp_at_succ

/-- By how much a point is turned. -/
def trI (dir : Int) (n j k : Nat) : Nat := ((dir * j * k * (24 / n : Nat)) % 24).toNat
theorem trI_lt (dir : Int) (n j k : Nat) : trI dir n j k < 24 := by unfold trI; omega
theorem mul_bd2 {a b A B : Int} (ha : -A ≤ a ∧ a ≤ A) (hb : -B ≤ b ∧ b ≤ B) : -(A * B) ≤ a * b ∧ a * b ≤ A * B := by
  have h1 : a.natAbs ≤ A.natAbs := by omega
  have h2 : b.natAbs ≤ B.natAbs := by omega
  have h3 := Nat.mul_le_mul h1 h2
  rw [← Int.natAbs_mul, ← Int.natAbs_mul] at h3
  have h4 : 0 ≤ A * B := Int.mul_nonneg (by omega) (by omega)
  omega
/-- The numbers on the way to the turn. -/
theorem trI_way {dir : Int} {n j k : Nat} (hd : dir = 1 ∨ dir = -1) (hn : 24 % n = 0) (hn1 : 1 ≤ n) (hn2 : n ≤ 24) (hj : j < n) (hk : k < n) :
    ∃ m1 m2 m3 q m4 : Int, dir * j = m1 ∧ m1 * k = m2 ∧ m2.tmod n = m3 ∧ (24 : Int) / n = q ∧ m3 * q = m4 ∧ m2 * q % 24 = trI dir n j k ∧ m4 % 24 = trI dir n j k ∧
      (-24 ≤ m1 ∧ m1 ≤ 24) ∧ (-576 ≤ m2 ∧ m2 ≤ 576) ∧ (-24 ≤ m3 ∧ m3 ≤ 24) ∧ (1 ≤ q ∧ q ≤ 24) ∧ (-576 ≤ m4 ∧ m4 ≤ 576) ∧ (-13824 ≤ m2 * q ∧ m2 * q ≤ 13824) := by
  have b1 : -24 ≤ dir * j ∧ dir * j ≤ 24 := by rcases hd with rfl | rfl <;> omega
  have b2 : -(24 * 24) ≤ dir * j * k ∧ dir * j * k ≤ 24 * 24 := mul_bd2 b1 (by omega)
  have hq : (n : Int) * ((24 : Int) / n) = 24 := by
    have : n * (24 / n) = 24 := Nat.mul_div_cancel' (Nat.dvd_of_mod_eq_zero hn)
    exact_mod_cast this
  have q1 : 1 ≤ (24 : Int) / n := by
    by_cases h : 0 < (24 : Int) / n
    · omega
    · exfalso
      have : 0 ≤ (24 : Int) / n := Int.ediv_nonneg (by omega) (by omega)
      rw [show (24 : Int) / n = 0 by omega, Int.mul_zero] at hq
      omega
  have q2 : (24 : Int) / n ≤ 24 := Int.ediv_le_self _ (by omega)
  have b3 : -24 ≤ (dir * j * k).tmod n ∧ (dir * j * k).tmod n ≤ 24 := by
    have h1 := Int.tmod_lt_of_pos (dir * j * k) (show (0 : Int) < n by omega)
    have h2 : -(n : Int) < (dir * j * k).tmod n := by
      have := Int.tmod_lt_of_pos (-(dir * j * k)) (show (0 : Int) < n by omega)
      rw [Int.neg_tmod] at this; omega
    omega
  have b4 : -(24 * 24) ≤ (dir * j * k).tmod n * ((24 : Int) / n) ∧ (dir * j * k).tmod n * ((24 : Int) / n) ≤ 24 * 24 := mul_bd2 b3 (by omega)
  have b5 : -(576 * 24) ≤ (dir * j * k) * ((24 : Int) / n) ∧ (dir * j * k) * ((24 : Int) / n) ≤ 576 * 24 := mul_bd2 b2 (by omega)
  have e1 : ((24 / n : Nat) : Int) = (24 : Int) / n := by exact_mod_cast rfl
  have e2 : dir * j * k * ((24 : Int) / n) % 24 = (trI dir n j k : Int) := by
    unfold trI; rw [e1]; omega
  refine ⟨_, _, _, _, _, rfl, rfl, rfl, rfl, rfl, e2, ?_, b1, by omega, b3, ⟨q1, q2⟩, by omega, by omega⟩
  rw [← e2]
  have h3 := Int.tmod_add_mul_tdiv (dir * j * k) n
  have key : ∀ M a c q : Int, a + (n : Int) * c = M → (n : Int) * q = 24 → M * q = a * q + 24 * c := by
    intro M a c q h1 h2
    rw [← h1, Int.add_mul, Int.mul_right_comm, h2]
  have h4 := key _ _ _ _ h3 hq
  rw [h4, Int.add_mul_emod_self_left]
theorem C8.turn_get {x : C8} (hx : okC x = true) {m : Int} {t : Nat} (ht : t < 24) (hm : m % 24 = t) : (C8.mul x (C8.rt (m % 24).toNat)).wr = x.turn t := by
  rw [hm, Int.toNat_natCast, C8.mul_rt, C8.turn_wr hx t ht]

end Go.Proofs.YthojdoiffkdikaaDoor
