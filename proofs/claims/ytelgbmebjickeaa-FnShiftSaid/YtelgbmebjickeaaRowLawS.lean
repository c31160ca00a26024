/- Shifted rows that laws own. -/
import Derived.Test.YtelgbmebjickeaaRowLaw
import Derived.Test.YtelgbmebjickeaaShiftA
import Derived.Test.YtelgbmebjickeaaScaled
namespace Go.Proofs.Ytelgbmebjickeaa
open Go.RowKit
theorem rowShift_own {B : Nat} {v : Value} {xs : List C8} {w : World} (h : OwnsP w B v xs) (m : Int) (hn : xs.length ≤ 1048576) :
    Calls Try.prog 28 #[v, .int .i64 m] w (RowPost w (shOk xs m) (shR xs m)) := by
  obtain ⟨a, cap, rfl, hp⟩ := h.hasP
  exact rowShift_any a cap xs m w hp hn
theorem specRowShift_own {B : Nat} {v : Value} {xs : List C8} {w : World} (h : OwnsP w B v xs) (m : Int) (hn : xs.length ≤ 1048576) :
    Calls Try.prog 29 #[v, .int .i64 m] w (RowPost w (shOk xs m) (shR xs m)) := by
  obtain ⟨a, cap, rfl, hp⟩ := h.hasP
  exact specRowShift_any a cap xs m w hp hn

theorem IsMore.drewN {w w' : World} (h : IsMore w w') (n : Nat) : IsMore w (w'.drewN n) := by
  obtain ⟨os, d, rfl⟩ := h; exact ⟨os, d + n, rfl⟩
theorem shR_yes {xs : List C8} {m : Int} (h : shOk xs m = true) : ∃ k : Nat, m = k ∧ k ≤ 23 ∧ (1 ≤ xs.length ∧ xs.length ≤ 24 ∧ 24 % xs.length = 0) ∧ (shR xs m).length = xs.length ∧ ∀ i, i < xs.length → (shR xs m).getD i C8.zero = xs.getD ((i + k) % xs.length) C8.zero := by
  have h' := h
  simp only [shOk, Bool.and_eq_true] at h'
  have h2 := inB_iff.1 h'.2
  obtain ⟨k, rfl⟩ := Int.eq_ofNat_of_zero_le h2.1
  refine ⟨k, rfl, by omega, (rvOk_get h'.1).1, ?_⟩
  rw [shR, if_pos h]
  exact ⟨shP_len _ _ _, fun i hi => map_range_get _ _ _ hi⟩
theorem trF_shift {xs ys : List C8} {k : Nat} (hl : ys.length = xs.length) (h : 24 % xs.length = 0) (hy : ∀ i, i < xs.length → ys.getD i C8.zero = xs.getD ((i + k) % xs.length) C8.zero) (j : Nat) :
    sumP (trF (-1) ys j) ys.length = (sumP (trF (-1) xs j) xs.length).turn (j * k % xs.length * (24 / xs.length)) := by
  rw [hl, ← sumP_rot (trF (-1) xs j) xs.length k, sumP_turn]
  refine sumP_congr fun i hi => ?_
  show (ys.getD i C8.zero).turn (trI (-1) ys.length j i) = ((xs.getD ((i + k) % xs.length) C8.zero).turn (trI (-1) xs.length j ((i + k) % xs.length))).turn _
  rw [hy i hi, hl, C8.turn_add, ← C8.turn_mod, trI_shift h _ rfl, C8.turn_mod]
/-- What the law asks of each point. -/
theorem sh_turn {xs : List C8} {m : Int} (h : shOk xs m = true) (h1 : trOk (-1) xs = true) (h2 : trOk (-1) (shR xs m) = true) {k : Nat} (hk : m = k) (j : Nat) (hj : j < xs.length) {t : Int} (ht : t = ((j * k % xs.length * (24 / xs.length) : Nat) : Int))
    (hx : tuOk ((trR (-1) xs).getD j C8.zero) t = true) : C8.tuR ((trR (-1) xs).getD j C8.zero) t = (trR (-1) (shR xs m)).getD j C8.zero := by
  obtain ⟨k', hk', -, ⟨-, -, hd⟩, hl, hg⟩ := shR_yes h
  obtain rfl : k = k' := by omega
  obtain ⟨l1, g1⟩ := trR_yes h1
  obtain ⟨l2, g2⟩ := trR_yes h2
  rw [C8.tuR, if_pos hx, g1 j hj, g2 j (by omega), trF_shift hl hd hg, ht]
  rfl
/-- A row that is owned and not empty lies in a block. -/
theorem OwnsP.block {w : World} {B : Nat} {v : Value} {ys : List C8} (h : OwnsP w B v ys) (hn : 1 ≤ ys.length) : ∃ b cap : Nat, v = .slice (some ⟨b, 0, none⟩) ys.length cap ∧ b < w.heap.size ∧ ∀ i, i < ys.length → PtAt w b (i * 8) (ys.getD i C8.zero) := by
  obtain ⟨a, cap, hv, hp⟩ := h.hasP
  rcases hp with hp | ⟨b, rfl, hb, hz⟩
  · rw [hp] at hn; simp at hn
  · exact ⟨b, cap, hv, hb, hz⟩
end Go.Proofs.Ytelgbmebjickeaa
