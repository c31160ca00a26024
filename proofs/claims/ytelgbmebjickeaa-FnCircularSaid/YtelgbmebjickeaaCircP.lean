/- Circular products: they go both ways, and transforms make them to products. -/
import Derived.Test.YtelgbmebjickeaaRowLawC
import Derived.Test.YtelgbmebjickeaaRowLawM
import Derived.Test.YtelgbmebjickeaaRowLawT
import Derived.Test.YtelgbmebjickeaaScaled
namespace Go.Proofs.Ytelgbmebjickeaa
open Go.RowKit

theorem rcU_get {xs ys : List C8} {k : Nat} : ∀ {n : Nat}, rcU xs ys k n = true → ∀ i, i < n → rcF xs ys k i = C8.mul (xs.getD i C8.zero) (ys.getD (rcI xs.length k i) C8.zero)
  | 0, _, i, hi => by omega
  | n + 1, h, i, hi => by
    have h' : rcU xs ys k n = true ∧ tmOk (xs.getD n C8.zero) (ys.getD (rcI xs.length k n) C8.zero) = true := by
      have : (rcU xs ys k n && tmOk (xs.getD n C8.zero) (ys.getD (rcI xs.length k n) C8.zero)) = true := h
      simpa only [Bool.and_eq_true] using this
    by_cases e : i = n
    · subst e; show C8.tmR _ _ = _; rw [C8.tmR, if_pos h'.2]
    · exact rcU_get h'.1 i (by omega)
theorem rcG_get {xs ys : List C8} : ∀ {n : Nat}, rcG xs ys n = true → ∀ k, k < n → sumV (rcF xs ys k) xs.length = true ∧ rcU xs ys k xs.length = true
  | 0, _, k, hk => by omega
  | n + 1, h, k, hk => by
    have h' : rcG xs ys n = true ∧ (sumV (rcF xs ys n) xs.length = true ∧ rcU xs ys n xs.length = true) := by
      have : (rcG xs ys n && (sumV (rcF xs ys n) xs.length && rcU xs ys n xs.length)) = true := h
      simpa only [Bool.and_eq_true] using this
    by_cases e : k = n
    · subst e; exact h'.2
    · exact rcG_get h'.1 k (by omega)
theorem rcR_yes {xs ys : List C8} (h : rcOk xs ys = true) : (1 ≤ xs.length ∧ xs.length ≤ 24 ∧ 24 % xs.length = 0) ∧ xs.length = ys.length ∧ (rcR xs ys).length = xs.length ∧
    ∀ k, k < xs.length → (rcR xs ys).getD k C8.zero = sumP (fun i => C8.mul (xs.getD i C8.zero) (ys.getD (rcI xs.length k i) C8.zero)) xs.length := by
  have h' := h
  simp only [rcOk, twOk, Bool.and_eq_true, decide_eq_true_eq] at h'
  obtain ⟨⟨⟨h1, -⟩, h2⟩, h3⟩ := h'
  refine ⟨(rvOk_get h1).1, h2, ?_⟩
  rw [rcR, if_pos h]
  refine ⟨rcP_len _ _ _, fun k hk => ?_⟩
  refine (map_range_get _ _ _ hk).trans ?_
  exact sumP_congr fun i hi => rcU_get (rcG_get h3 k hk).2 i hi
theorem rcI_rcI {n k i : Nat} (hk : k < n) (hi : i < n) : rcI n k (rcI n k i) = i := by
  have h1 := rcI_eq hk hi
  have h2 := rcI_eq hk (rcI_lt (i := i) hk)
  rw [h2]
  split at h1 <;> rw [h1] <;> split <;> omega
theorem rc_comm {xs ys : List C8} (h : rcOk xs ys = true) (h2 : rcOk ys xs = true) : rcR ys xs = rcR xs ys := by
  obtain ⟨-, hl, l1, g1⟩ := rcR_yes h
  obtain ⟨-, -, l2, g2⟩ := rcR_yes h2
  refine list_getD (by omega) fun k hk => ?_
  rw [l2] at hk
  rw [g2 k hk, g1 k (by omega), ← hl]
  rw [← sumP_refl (fun i => C8.mul (xs.getD i C8.zero) (ys.getD (rcI xs.length k i) C8.zero)) xs.length k]
  refine sumP_congr fun i hi => ?_
  show _ = C8.mul (xs.getD (rcI xs.length k i) C8.zero) (ys.getD (rcI xs.length k (rcI xs.length k i)) C8.zero)
  rw [rcI_rcI (by omega) hi, C8.mul_comm]
theorem trI_split {n j k i : Nat} (h : 24 % n = 0) (hk : k < n) (hi : i < n) : trI (-1) n j k % 24 = (trI (-1) n j (rcI n k i) + trI (-1) n j i) % 24 := by
  obtain ⟨z1, h1⟩ := trI_val (-1) n j k
  obtain ⟨z2, h2⟩ := trI_val (-1) n j (rcI n k i)
  obtain ⟨z3, h3⟩ := trI_val (-1) n j i
  obtain ⟨c, h4⟩ := rcI_val hk hi
  have hq := div_mul24 h
  have e : ((trI (-1) n j (rcI n k i) + trI (-1) n j i : Nat) : Int) = (trI (-1) n j k : Int) + 24 * (z2 + z3 - z1 - j * c) := by
    rw [Int.natCast_add, h1, h2, h3, h4]
    generalize ((24 / n : Nat) : Int) = q at *
    grind
  omega
theorem C8.turn_mul (a b : C8) (t : Nat) : (C8.mul a b).turn t = C8.mul (a.turn t) b := by rw [C8.mul_comm, ← C8.mul_turn, C8.mul_comm]
theorem rc_conv {xs ys : List C8} (h : rcOk xs ys = true) (hx : trOk (-1) xs = true) (hy : trOk (-1) ys = true) (ho : trOk (-1) (rcR xs ys) = true) (ht : rtOk (trR (-1) xs) (trR (-1) ys) = true) :
    trR (-1) (rcR xs ys) = rtR (trR (-1) xs) (trR (-1) ys) := by
  obtain ⟨⟨n1, n2, n3⟩, hl, l1, g1⟩ := rcR_yes h
  obtain ⟨lx, gx⟩ := trR_yes hx
  obtain ⟨ly, gy⟩ := trR_yes hy
  obtain ⟨lo, go⟩ := trR_yes ho
  rw [rtR, if_pos ht]
  refine list_getD (by rw [prP_len]; omega) fun j hj => ?_
  rw [lo, l1] at hj
  rw [go j (by omega)]
  refine Eq.trans ?_ (map_range_get _ _ _ (by omega)).symm
  show sumP (trF (-1) (rcR xs ys) j) (rcR xs ys).length = C8.mul ((trR (-1) xs).getD j C8.zero) ((trR (-1) ys).getD j C8.zero)
  rw [l1, gx j hj, gy j (by omega), ← hl]
  rw [sumP_congr (g := fun k => sumP (fun i => (C8.mul (xs.getD i C8.zero) (ys.getD (rcI xs.length k i) C8.zero)).turn (trI (-1) xs.length j k)) xs.length) (fun k hk => by
    show ((rcR xs ys).getD k C8.zero).turn (trI (-1) (rcR xs ys).length j k) = _
    rw [g1 k hk, sumP_turn, l1])]
  rw [sumP_swap, sumP_mul']
  refine sumP_congr fun i hi => ?_
  show sumP (fun k => (C8.mul (xs.getD i C8.zero) (ys.getD (rcI xs.length k i) C8.zero)).turn (trI (-1) xs.length j k)) xs.length = C8.mul ((xs.getD i C8.zero).turn (trI (-1) xs.length j i)) (sumP (trF (-1) ys j) xs.length)
  rw [← sumP_rot (trF (-1) ys j) xs.length (xs.length - i), sumP_mul]
  refine sumP_congr fun k hk => ?_
  show _ = C8.mul ((xs.getD i C8.zero).turn (trI (-1) xs.length j i)) ((ys.getD ((k + (xs.length - i)) % xs.length) C8.zero).turn (trI (-1) ys.length j ((k + (xs.length - i)) % xs.length)))
  rw [show (k + (xs.length - i)) % xs.length = rcI xs.length k i by unfold rcI; rw [show k + (xs.length - i) = k + xs.length - i by omega], ← hl]
  rw [← C8.turn_mod _ (trI (-1) xs.length j k), trI_split n3 hk hi, C8.turn_mod, ← C8.turn_add, C8.mul_turn, ← C8.turn_mul, C8.turn_add, C8.turn_add, Nat.add_comm]
end Go.Proofs.Ytelgbmebjickeaa
