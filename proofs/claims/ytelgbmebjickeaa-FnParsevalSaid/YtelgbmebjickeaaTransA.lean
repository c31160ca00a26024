/- Transforms of rows: plain words; the item of the program's transform. -/
import Derived.Test.YtelgbmebjickeaaSumOf
namespace Go.Proofs.Ytelgbmebjickeaa
open Go.RowKit
attribute [local go_sem ↓] Go.wp_at_zero Go.wp_at_succ

/-- By how much a point is turned. -/
def trI (dir : Int) (n j k : Nat) : Nat := ((dir * j * k * (24 / n : Nat)) % 24).toNat
theorem trI_lt (dir : Int) (n j k : Nat) : trI dir n j k < 24 := by unfold trI; omega
theorem mul_bd2 {a b A B : Int} (ha : -A ≤ a ∧ a ≤ A) (hb : -B ≤ b ∧ b ≤ B) : -(A * B) ≤ a * b ∧ a * b ≤ A * B := by
  have h1 : a.natAbs ≤ A.natAbs := by omega
  have h2 : b.natAbs ≤ B.natAbs := by omega
  have h3 := Nat.mul_le_mul h1 h2
  rw [← Int.natAbs_mul, ← Int.natAbs_mul] at h3
  have h4 : 0 ≤ A * B := Int.mul_nonneg (by omega) (by omega)
  omega
/-- The numbers on the way to the turn. -/
theorem trI_way {dir : Int} {n j k : Nat} (hd : dir = 1 ∨ dir = -1) (hn : 24 % n = 0) (hn1 : 1 ≤ n) (hn2 : n ≤ 24) (hj : j < n) (hk : k < n) :
    ∃ m1 m2 m3 q m4 : Int, dir * j = m1 ∧ m1 * k = m2 ∧ m2.tmod n = m3 ∧ (24 : Int) / n = q ∧ m3 * q = m4 ∧ m2 * q % 24 = trI dir n j k ∧ m4 % 24 = trI dir n j k ∧
      (-24 ≤ m1 ∧ m1 ≤ 24) ∧ (-576 ≤ m2 ∧ m2 ≤ 576) ∧ (-24 ≤ m3 ∧ m3 ≤ 24) ∧ (1 ≤ q ∧ q ≤ 24) ∧ (-576 ≤ m4 ∧ m4 ≤ 576) ∧ (-13824 ≤ m2 * q ∧ m2 * q ≤ 13824) := by
  have b1 : -24 ≤ dir * j ∧ dir * j ≤ 24 := by rcases hd with rfl | rfl <;> omega
  have b2 : -(24 * 24) ≤ dir * j * k ∧ dir * j * k ≤ 24 * 24 := mul_bd2 b1 (by omega)
  have hq : (n : Int) * ((24 : Int) / n) = 24 := by
    have : n * (24 / n) = 24 := Nat.mul_div_cancel' (Nat.dvd_of_mod_eq_zero hn)
    exact_mod_cast this
  have q1 : 1 ≤ (24 : Int) / n := by
    by_cases h : 0 < (24 : Int) / n
    · omega
    · exfalso
      have : 0 ≤ (24 : Int) / n := Int.ediv_nonneg (by omega) (by omega)
      rw [show (24 : Int) / n = 0 by omega, Int.mul_zero] at hq
      omega
  have q2 : (24 : Int) / n ≤ 24 := Int.ediv_le_self _ (by omega)
  have b3 : -24 ≤ (dir * j * k).tmod n ∧ (dir * j * k).tmod n ≤ 24 := by
    have h1 := Int.tmod_lt_of_pos (dir * j * k) (show (0 : Int) < n by omega)
    have h2 : -(n : Int) < (dir * j * k).tmod n := by
      have := Int.tmod_lt_of_pos (-(dir * j * k)) (show (0 : Int) < n by omega)
      rw [Int.neg_tmod] at this; omega
    omega
  have b4 : -(24 * 24) ≤ (dir * j * k).tmod n * ((24 : Int) / n) ∧ (dir * j * k).tmod n * ((24 : Int) / n) ≤ 24 * 24 := mul_bd2 b3 (by omega)
  have b5 : -(576 * 24) ≤ (dir * j * k) * ((24 : Int) / n) ∧ (dir * j * k) * ((24 : Int) / n) ≤ 576 * 24 := mul_bd2 b2 (by omega)
  have e1 : ((24 / n : Nat) : Int) = (24 : Int) / n := by exact_mod_cast rfl
  have e2 : dir * j * k * ((24 : Int) / n) % 24 = (trI dir n j k : Int) := by
    unfold trI; rw [e1]; omega
  refine ⟨_, _, _, _, _, rfl, rfl, rfl, rfl, rfl, e2, ?_, b1, by omega, b3, ⟨q1, q2⟩, by omega, by omega⟩
  rw [← e2]
  have h3 := Int.tmod_add_mul_tdiv (dir * j * k) n
  have key : ∀ M a c q : Int, a + (n : Int) * c = M → (n : Int) * q = 24 → M * q = a * q + 24 * c := by
    intro M a c q h1 h2
    rw [← h1, Int.add_mul, Int.mul_right_comm, h2]
  have h4 := key _ _ _ _ h3 hq
  rw [h4, Int.add_mul_emod_self_left]
theorem C8.turn_get {x : C8} (hx : okC x = true) {m : Int} {t : Nat} (ht : t < 24) (hm : m % 24 = t) : (C8.mul x (C8.rt (m % 24).toNat)).wr = x.turn t := by
  rw [hm, Int.toNat_natCast, C8.mul_rt, C8.turn_wr hx t ht]

set_option maxRecDepth 100000 in
set_option maxHeartbeats 1000000 in
theorem trans1_any (B1 B2 B3 B4 b cap n j k : Nat) (dir : Int) (x : C8) (w : World) (hd : dir = 1 ∨ dir = -1) (hn : 24 % n = 0) (hn1 : 1 ≤ n) (hn2 : n ≤ 24) (hj : j < n) (hk : k < n) (hx : okC x = true)
    (l1 : B1 < w.heap.size) (l2 : B2 < w.heap.size) (l3 : B3 < w.heap.size) (l4 : B4 < w.heap.size) (lb : b < w.heap.size)
    (c1 : w.cell? ⟨B1, 0, none⟩ = some (.slice (some ⟨b, 0, none⟩) n cap)) (c2 : w.cell? ⟨B2, 0, none⟩ = some (.int .i64 dir)) (c3 : w.cell? ⟨B3, 0, none⟩ = some (.int .i64 j)) (c4 : w.cell? ⟨B4, 0, none⟩ = some (.int .i64 n))
    (hp : PtAt w b (k * 8) x) :
    Calls Try.prog 82 #[.int .i64 k, .pointer (some ⟨B1, 0, none⟩), .pointer (some ⟨B2, 0, none⟩), .pointer (some ⟨B3, 0, none⟩), .pointer (some ⟨B4, 0, none⟩)] w fun e w' => e = .returned (cv (x.turn (trI dir n j k))) ∧ Below w.heap.size w w' := by
  obtain ⟨m1, m2, m3, q, m4, e1, e2, e3, e4, e5, e6, e7, b1, b2, b3, b4, b5, b6⟩ := trI_way hd hn hn1 hn2 hj hk
  have HT := Lib.hid (C8.turn_get hx (trI_lt dir n j k) e7)
  have f1 : IntKind.i64.wrap (dir * (j : Int)) = m1 := by rw [e1]; exact IntWalk.i64_in _ (by omega)
  have f2 : IntKind.i64.wrap (m1 * (k : Int)) = m2 := by rw [e2]; exact IntWalk.i64_in _ (by omega)
  have f5 : IntKind.i64.wrap (m3 * q) = m4 := by rw [e5]; exact IntWalk.i64_in _ (by omega)
  have f6 : (24 : Int).tdiv (n : Int) = q := by rw [← e4]; exact Int.tdiv_eq_ediv_of_nonneg (by omega)
  have f7 : IntKind.i64.wrap q = q := IntWalk.i64_in _ (by omega)
  have f8 : IntKind.i64.wrap m3 = m3 := IntWalk.i64_in _ (by omega)
  have hn3 : ¬ n = 0 := by omega
  have hn4 : ¬ (n : Int) = 0 := by omega
  clear e1 e2 e5 e6 e7 hd
  have i0 : (0 : Int) ≤ (k : Int) := by omega
  have i1 : (k : Int) < (n : Int) := by omega
  have i2 : (1 : Int) ≤ (n : Int) := by omega
  have hn0 : ((n : Int) == 0) = false := by rw [beq_eq_false_iff_ne]; omega
  obtain ⟨x0, x1, x2, x3, x4, x5, x6, x7⟩ := hp.cells
  clear hp
  go_enter Try.func82, Try.ntmps82
  go_wp2_with fail
  go_region_held3 (fun w' => w'.cell? ⟨B1, 0, none⟩ = some (.slice (some ⟨b, 0, none⟩) n cap) ∧ w'.cell? ⟨B2, 0, none⟩ = some (.int .i64 dir) ∧ w'.cell? ⟨B3, 0, none⟩ = some (.int .i64 j) ∧ w'.cell? ⟨B4, 0, none⟩ = some (.int .i64 n) ∧ (w'.cell? ⟨b, k * 8, none⟩ = some (.int .i64 x.c0) ∧ w'.cell? ⟨b, k * 8 + 1, none⟩ = some (.int .i64 x.c1) ∧ w'.cell? ⟨b, k * 8 + 2, none⟩ = some (.int .i64 x.c2) ∧ w'.cell? ⟨b, k * 8 + 3, none⟩ = some (.int .i64 x.c3) ∧ w'.cell? ⟨b, k * 8 + 4, none⟩ = some (.int .i64 x.c4) ∧ w'.cell? ⟨b, k * 8 + 5, none⟩ = some (.int .i64 x.c5) ∧ w'.cell? ⟨b, k * 8 + 6, none⟩ = some (.int .i64 x.c6) ∧ w'.cell? ⟨b, k * 8 + 7, none⟩ = some (.int .i64 x.c7))) (simp [go_sem, *])
    (first | (go_at_call 59; refine (cturned_any _ _ (by omega) (by omega) _).mono ?_; rw [HT.out]; rintro e w' ⟨rfl, hb⟩; obtain ⟨os, d, rfl⟩ := more_of_below hb; clear hb))
  all_goals
    go_wp2
    go_returns
    exact ⟨rfl, by repeat' (first | (with_reducible exact Below.refl _ _) | (with_reducible assumption) | (with_reducible refine Below.alloc ?_ ?_ _) | (with_reducible refine below_more ?_ ?_ _ _) | (with_reducible refine below_rd ?_ ?_ _ _) | (with_reducible refine Below.drew ?_) | (with_reducible refine Below.setCell ?_ ?_ _) | go_size)⟩
end Go.Proofs.Ytelgbmebjickeaa
