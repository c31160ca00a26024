/- Transforms of rows: plain words; the item of the program's transform. DesignAt, of the program and of the reference. RowTimes of the reference. RowOf, of the program and of the reference. -/
import Derived.Test.YthojdoiffkdikaaGreatDoorSumOf
import Derived.Test.YthojdoiffkdikaaGreatDoorWheelB
import Derived.Test.YthojdoiffkdikaaGreatDoorCycI
import Derived.Test.YthojdoiffkdikaaGreatDoorMark
section -- a part
namespace Go.Proofs.YthojdoiffkdikaaGreatDoor
open Go.RowKit
attribute [local go_sem ↓] Go.wp_at_zero Go.wp_at_succ

/-- By how much a point is turned. -/
def trI (dir : Int) (n j k : Nat) : Nat := ((dir * j * k * (24 / n : Nat)) % 24).toNat
theorem trI_lt (dir : Int) (n j k : Nat) : trI dir n j k < 24 := by unfold trI; omega
theorem mul_bd2 {a b A B : Int} (ha : -A ≤ a ∧ a ≤ A) (hb : -B ≤ b ∧ b ≤ B) : -(A * B) ≤ a * b ∧ a * b ≤ A * B := by
  have h1 : a.natAbs ≤ A.natAbs := by omega
  have h2 : b.natAbs ≤ B.natAbs := by omega
  have h3 := Nat.mul_le_mul h1 h2
  rw [← Int.natAbs_mul, ← Int.natAbs_mul] at h3
  have h4 : 0 ≤ A * B := Int.mul_nonneg (by omega) (by omega)
  omega
/-- The numbers on the way to the turn. -/
theorem trI_way {dir : Int} {n j k : Nat} (hd : dir = 1 ∨ dir = -1) (hn : 24 % n = 0) (hn1 : 1 ≤ n) (hn2 : n ≤ 24) (hj : j < n) (hk : k < n) :
    ∃ m1 m2 m3 q m4 : Int, dir * j = m1 ∧ m1 * k = m2 ∧ m2.tmod n = m3 ∧ (24 : Int) / n = q ∧ m3 * q = m4 ∧ m2 * q % 24 = trI dir n j k ∧ m4 % 24 = trI dir n j k ∧
      (-24 ≤ m1 ∧ m1 ≤ 24) ∧ (-576 ≤ m2 ∧ m2 ≤ 576) ∧ (-24 ≤ m3 ∧ m3 ≤ 24) ∧ (1 ≤ q ∧ q ≤ 24) ∧ (-576 ≤ m4 ∧ m4 ≤ 576) ∧ (-13824 ≤ m2 * q ∧ m2 * q ≤ 13824) := by
  have b1 : -24 ≤ dir * j ∧ dir * j ≤ 24 := by rcases hd with rfl | rfl <;> omega
  have b2 : -(24 * 24) ≤ dir * j * k ∧ dir * j * k ≤ 24 * 24 := mul_bd2 b1 (by omega)
  have hq : (n : Int) * ((24 : Int) / n) = 24 := by
    have : n * (24 / n) = 24 := Nat.mul_div_cancel' (Nat.dvd_of_mod_eq_zero hn)
    exact_mod_cast this
  have q1 : 1 ≤ (24 : Int) / n := by
    by_cases h : 0 < (24 : Int) / n
    · omega
    · exfalso
      have : 0 ≤ (24 : Int) / n := Int.ediv_nonneg (by omega) (by omega)
      rw [show (24 : Int) / n = 0 by omega, Int.mul_zero] at hq
      omega
  have q2 : (24 : Int) / n ≤ 24 := Int.ediv_le_self _ (by omega)
  have b3 : -24 ≤ (dir * j * k).tmod n ∧ (dir * j * k).tmod n ≤ 24 := by
    have h1 := Int.tmod_lt_of_pos (dir * j * k) (show (0 : Int) < n by omega)
    have h2 : -(n : Int) < (dir * j * k).tmod n := by
      have := Int.tmod_lt_of_pos (-(dir * j * k)) (show (0 : Int) < n by omega)
      rw [Int.neg_tmod] at this; omega
    omega
  have b4 : -(24 * 24) ≤ (dir * j * k).tmod n * ((24 : Int) / n) ∧ (dir * j * k).tmod n * ((24 : Int) / n) ≤ 24 * 24 := mul_bd2 b3 (by omega)
  have b5 : -(576 * 24) ≤ (dir * j * k) * ((24 : Int) / n) ∧ (dir * j * k) * ((24 : Int) / n) ≤ 576 * 24 := mul_bd2 b2 (by omega)
  have e1 : ((24 / n : Nat) : Int) = (24 : Int) / n := by exact_mod_cast rfl
  have e2 : dir * j * k * ((24 : Int) / n) % 24 = (trI dir n j k : Int) := by
    unfold trI; rw [e1]; omega
  refine ⟨_, _, _, _, _, rfl, rfl, rfl, rfl, rfl, e2, ?_, b1, by omega, b3, ⟨q1, q2⟩, by omega, by omega⟩
  rw [← e2]
  have h3 := Int.tmod_add_mul_tdiv (dir * j * k) n
  have key : ∀ M a c q : Int, a + (n : Int) * c = M → (n : Int) * q = 24 → M * q = a * q + 24 * c := by
    intro M a c q h1 h2
    rw [← h1, Int.add_mul, Int.mul_right_comm, h2]
  have h4 := key _ _ _ _ h3 hq
  rw [h4, Int.add_mul_emod_self_left]
theorem C8.turn_get {x : C8} (hx : okC x = true) {m : Int} {t : Nat} (ht : t < 24) (hm : m % 24 = t) : (C8.mul x (C8.rt (m % 24).toNat)).wr = x.turn t := by
  rw [hm, Int.toNat_natCast, C8.mul_rt, C8.turn_wr hx t ht]

end Go.Proofs.YthojdoiffkdikaaGreatDoor
end
section -- a part
namespace Go.Proofs.YthojdoiffkdikaaGreatDoor
open Go.RowKit
attribute [local go_sem ↓] Go.wp_at_zero Go.wp_at_succ

/-- The radii turned, and their sum. -/
def daT (t s : Int) : Nat := ((t * s) % 24).toNat
theorem daT_lt (t s : Int) : daT t s < 24 := by unfold daT; omega
def daF (ds : List W9) (t : Int) (i : Nat) : C8 := (ds.getD i W9.zero).r.turn (daT t (ds.getD i W9.zero).s)
def daP (ds : List W9) (t : Int) : C8 := sumP (daF ds t) ds.length
def daOk (ds : List W9) (t : Int) : Bool := dvOk ds && inB t 0 23 && okC (daP ds t)
def daR (ds : List W9) (t : Int) : C8 := if daOk ds t = true then daP ds t else C8.zero
theorem add_lim {a b : C8} {m n : Int} (ha : C8.lim m a) (hb : C8.lim n b) : C8.lim (m + n) (C8.add a b) := by
  unfold C8.lim at *; simp only [C8.add]; omega
theorem add_wr_lim2 {a b : C8} (ha : C8.lim 1000000000 a) (hb : C8.lim 1000000000 b) : (C8.add a b).wr = C8.add a b := by
  obtain ⟨a0, a1, a2, a3, a4, a5, a6, a7⟩ := ha
  obtain ⟨b0, b1, b2, b3, b4, b5, b6, b7⟩ := hb
  apply C8.ext' <;> simp only [C8.wr, C8.add] <;> exact wrap_in (by omega) (by omega)
theorem dvOk_get {ds : List W9} (h : dvOk ds = true) : ds.length ≤ 12 ∧ ∀ i, i < ds.length → (-1000 ≤ (ds.getD i W9.zero).s ∧ (ds.getD i W9.zero).s ≤ 1000) ∧ okC (ds.getD i W9.zero).r = true := by
  simp only [dvOk, Bool.and_eq_true, decide_eq_true_eq] at h
  refine ⟨h.1, fun i hi => ?_⟩
  have := okAllW_iff.1 h.2 i hi
  simp only [okW, Bool.and_eq_true] at this
  exact ⟨inB_iff.1 this.1, this.2⟩
theorem daF_lim {ds : List W9} (h : ∀ i, i < ds.length → (-1000 ≤ (ds.getD i W9.zero).s ∧ (ds.getD i W9.zero).s ≤ 1000) ∧ okC (ds.getD i W9.zero).r = true) (t : Int) (i : Nat) (hi : i < ds.length) : C8.lim 3000000 (daF ds t i) :=
  C8.turn_bd (h i hi).2 _ (daT_lt _ _)
theorem daS_lim {ds : List W9} (h : ∀ i, i < ds.length → (-1000 ≤ (ds.getD i W9.zero).s ∧ (ds.getD i W9.zero).s ≤ 1000) ∧ okC (ds.getD i W9.zero).r = true) (t : Int) : ∀ k : Nat, k ≤ ds.length → C8.lim (3000000 * k) (sumP (daF ds t) k)
  | 0, _ => by unfold C8.lim; simp [sumP, C8.zero]
  | k + 1, hk => by
    have := add_lim (daS_lim h t k (by omega)) (daF_lim h t k (by omega))
    exact C8.lim_mono this (by omega)
theorem daS_step {ds : List W9} (h : ds.length ≤ 12 ∧ ∀ i, i < ds.length → (-1000 ≤ (ds.getD i W9.zero).s ∧ (ds.getD i W9.zero).s ≤ 1000) ∧ okC (ds.getD i W9.zero).r = true) (t : Int) (k : Nat) (hk : k < ds.length) : (C8.add (sumP (daF ds t) k) (daF ds t k)).wr = sumP (daF ds t) (k + 1) :=
  add_wr_lim2 (C8.lim_mono (daS_lim h.2 t k (by omega)) (by omega)) (C8.lim_mono (daF_lim h.2 t k hk) (by omega))
theorem da_mul {t s : Int} (ht : 0 ≤ t ∧ t ≤ 23) (hs : -1000 ≤ s ∧ s ≤ 1000) : -23000 ≤ t * s ∧ t * s ≤ 23000 := mul_bd2 (A := 23) (B := 1000) (by omega) hs


end Go.Proofs.YthojdoiffkdikaaGreatDoor
end
section -- a part
namespace Go.Proofs.YthojdoiffkdikaaGreatDoor
open Go.RowKit

theorem OwnsP.empty {w : World} {B g : Nat} (hg : g = w.heap.size) (hB : B ≤ w.heap.size) : OwnsP (w.alloc (.cells #[] 59)) B (.slice (some ⟨g, 0, none⟩) 0 0) [] := by
  subst hg
  exact ⟨by simp [rowsV], Or.inr ⟨w.heap.size, 0, _, rfl, hB, heap_alloc_new _ _, Nat.le_refl _, by unfold maxLen; omega, rfl, by simp [rowsV]⟩⟩
end Go.Proofs.YthojdoiffkdikaaGreatDoor
end
section -- a part
namespace Go.Proofs.YthojdoiffkdikaaGreatDoor
open Go.RowKit

/-- The length of a row, whatever number is asked. -/
def rwLenI (n : Int) : Bool := decide (1 ≤ n) && rwLen n.toNat
theorem rwLenI_get {n : Int} (h : rwLenI n = true) : ∃ k : Nat, n = k ∧ 1 ≤ k ∧ k ≤ 24 ∧ 24 % k = 0 := by
  simp only [rwLenI, Bool.and_eq_true, decide_eq_true_eq] at h
  obtain ⟨k, rfl⟩ := Int.eq_ofNat_of_zero_le (show (0 : Int) ≤ n by omega)
  have h2 : rwLen k = true := h.2
  have h3 := rwLen_le h2
  exact ⟨k, rfl, h3.1, h3.2, (rwLen_iff.1 h2).2⟩
theorem rwLen_big {k : Nat} (h : 24 < k) : rwLen k = false := by
  rcases Bool.eq_false_or_eq_true (rwLen k) with h1 | h1
  · have := rwLen_le h1; omega
  · exact h1
/-- The points of a row, and whether they are told. -/
def roT (n k : Nat) : Int := ((k * (24 / n) : Nat) : Int)
def roP (ds : List W9) (n m : Nat) : List C8 := (List.range m).map fun k => daP ds (roT n k)
def roG (ds : List W9) (n : Nat) : Nat → Bool
  | 0 => true
  | k + 1 => roG ds n k && daOk ds (roT n k)
theorem roP_succ (ds : List W9) (n k : Nat) : roP ds n (k + 1) = roP ds n k ++ [daP ds (roT n k)] := by simp [roP, List.range_succ]
theorem roP_len (ds : List W9) (n k : Nat) : (roP ds n k).length = k := by simp [roP]
theorem roG_no {ds : List W9} {n k : Nat} (h : roG ds n k = false) : ∀ m, k ≤ m → roG ds n m = false
  | 0, hn => by obtain rfl : k = 0 := by omega
                exact h
  | m + 1, hn => by
    by_cases e : k = m + 1
    · subst e; exact h
    · show (roG ds n m && _) = false
      rw [roG_no h m (by omega)]; rfl
def roH (ds : List W9) (n : Nat) : List C8 := if roG ds n n = true then roP ds n n else []
def roOk (ds : List W9) (n : Int) : Bool := rwLenI n && dvOk ds && roG ds n.toNat n.toNat
def roR (ds : List W9) (n : Int) : List C8 := if roOk ds n = true then roP ds n.toNat n.toNat else []
theorem roR_len (ds : List W9) (n : Int) : (roR ds n).length ≤ 1048576 := by
  unfold roR; split
  · rename_i h
    simp only [roOk, Bool.and_eq_true] at h
    obtain ⟨k, rfl, -, h2, -⟩ := rwLenI_get h.1.1
    rw [roP_len]
    show k ≤ _
    omega
  · simp

end Go.Proofs.YthojdoiffkdikaaGreatDoor
end
