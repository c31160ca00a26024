/- The contract of sign2. -/
import Derived.Test.YtklmlodapinflaaSignW
namespace Go.Proofs.Ytklmlodapinflaa
open Go.RowKit

theorem sg_same {x y : Int} (h : x.sign = y.sign) : Q2.sg ⟨x, y⟩ = x.sign := by
  unfold Q2.sg
  split
  · rfl
  · split
    · exact h.symm
    · rename_i h1 h2
      have hn : Q2.nm ⟨x, y⟩ = 0 := by omega
      have := Q2.nm_zero.1 hn
      have hx : x = 0 := congrArg Q2.x this
      rw [hx]; rfl
theorem sg_y0 {x : Int} : Q2.sg ⟨x, 0⟩ = x.sign := by
  unfold Q2.sg
  have : 0 ≤ Q2.nm ⟨x, 0⟩ := by unfold Q2.nm; have := sq_nn x; simp only []; omega
  split
  · rfl
  · rw [if_neg (by omega)]
    have hn : Q2.nm ⟨x, 0⟩ = 0 := by omega
    have hx : x = 0 := congrArg Q2.x (Q2.nm_zero.1 hn)
    rw [hx]; rfl
theorem sg_x0 {y : Int} : Q2.sg ⟨0, y⟩ = y.sign := by
  unfold Q2.sg
  have : Q2.nm ⟨0, y⟩ ≤ 0 := by unfold Q2.nm; have := sq_nn y; simp only []; omega
  rw [if_neg (by omega)]
  split
  · rfl
  · have hn : Q2.nm ⟨0, y⟩ = 0 := by omega
    have hx : y = 0 := congrArg Q2.y (Q2.nm_zero.1 hn)
    rw [hx]; rfl
theorem sg_gt {x y : Int} (h : 2 * (y * y) < x * x) : Q2.sg ⟨x, y⟩ = x.sign := by
  rw [Q2.sg_pos]
  unfold Q2.nm; simp only []; omega
theorem sg_lt {x y : Int} (h : x * x < 2 * (y * y)) : Q2.sg ⟨x, y⟩ = y.sign := by
  rw [Q2.sg_neg]
  unfold Q2.nm; simp only []; omega
theorem sg_ne {x y : Int} (hx : x ≠ 0) : x * x ≠ 2 * (y * y) := by
  intro h
  have hn : Q2.nm ⟨x, y⟩ = 0 := by unfold Q2.nm; simp only []; omega
  exact hx (congrArg Q2.x (Q2.nm_zero.1 hn))

/-- The comparison of a square with twice a square, in two parts of 64 bits, as the program makes it. -/
def topV (m : Int) : Int := bits .or .u64 (m / 18446744073709551616 * 2) (m % 18446744073709551616 / 9223372036854775808)
def lexV (n m : Int) : Int := if cmpI (n / 18446744073709551616) (topV m) = 0 then cmpI (n % 18446744073709551616) (IntKind.u64.wrap (m % 18446744073709551616 * 2)) else cmpI (n / 18446744073709551616) (topV m)
theorem topV_eq {m : Int} (h0 : 0 ≤ m) (h1 : m ≤ 16000000000000000000000000000000) : topV m = 2 * m / 18446744073709551616 := by
  obtain ⟨k, rfl⟩ := Int.eq_ofNat_of_zero_le h0
  have e1 : (k : Int) / 18446744073709551616 * 2 = ((k / 18446744073709551616 * 2 : Nat) : Int) := by omega
  have e2 : (k : Int) % 18446744073709551616 / 9223372036854775808 = ((k % 18446744073709551616 / 9223372036854775808 : Nat) : Int) := by omega
  unfold topV
  rw [e1, e2, bits_or_u64_nat _ _ (by omega) (by omega)]
  have h := Nat.shiftLeft_add_eq_or_of_lt (b := k % 18446744073709551616 / 9223372036854775808) (i := 1) (by omega) (k / 18446744073709551616)
  rw [Nat.shiftLeft_eq] at h
  rw [show k / 18446744073709551616 * 2 = k / 18446744073709551616 * 2 ^ 1 by omega, ← h]
  omega
theorem lowV_eq (m : Int) : IntKind.u64.wrap (m % 18446744073709551616 * 2) = 2 * m % 18446744073709551616 := by
  rw [IntKind.wrap_u64]; omega
theorem lexV_gt {n m : Int} (h0 : 0 ≤ m) (h1 : m ≤ 16000000000000000000000000000000) (h : 2 * m < n) : lexV n m = 1 := by
  unfold lexV
  rw [topV_eq h0 h1, lowV_eq m]
  by_cases h1 : 2 * m / 18446744073709551616 < n / 18446744073709551616
  · rw [cmpI_gt (by omega), if_neg (by omega)]
  · rw [cmpI_eq (by omega), if_pos rfl, cmpI_gt (by omega)]
theorem lexV_lt {n m : Int} (h0 : 0 ≤ m) (h1 : m ≤ 16000000000000000000000000000000) (h : n < 2 * m) : lexV n m = -1 := by
  unfold lexV
  rw [topV_eq h0 h1, lowV_eq m]
  by_cases h1 : n / 18446744073709551616 < 2 * m / 18446744073709551616
  · rw [cmpI_lt (by omega), if_neg (by omega)]
  · rw [cmpI_eq (by omega), if_pos rfl, cmpI_lt (by omega)]

theorem cells2 (w : World) (x y : Value) (T : TypeId) : (w.alloc (.cells #[x, y] T)).cell? ⟨w.heap.size, 0, none⟩ = some x ∧ (w.alloc (.cells #[x, y] T)).cell? ⟨w.heap.size, 1, none⟩ = some y := by
  constructor <;> simp [go_sem]
theorem sq_bd {x : Int} (h1 : -4000000000000000 ≤ x) (h2 : x ≤ 4000000000000000) : 0 ≤ x * x ∧ x * x ≤ 16000000000000000000000000000000 ∧ x.natAbs * x.natAbs ≤ 16000000000000000000000000000000 := by
  have h : x.natAbs ≤ 4000000000000000 := by omega
  have h3 := Nat.mul_le_mul h h
  have h4 : ((x.natAbs * x.natAbs : Nat) : Int) = x * x := Int.natAbs_mul_self
  have h5 := sq_nn x
  refine ⟨h5, ?_, ?_⟩ <;> omega

set_option maxHeartbeats 1000000 in
theorem sign2_far (x y : Int) (w : World) (h1 : -4000000000000000 ≤ x) (h2 : x ≤ 4000000000000000) (h3 : -4000000000000000 ≤ y) (h4 : y ≤ 4000000000000000) (p q : Int) (hx : x.sign = p) (hy : y.sign = q) (hp : (p == q) = false) (hq : (q == 0) = false) (hp0 : (p == 0) = false) (s : Int)
   (hs : lexV (x * x) (y * y) = s) (hs1 : s = 1 ∨ s = -1) :
    Calls Try.prog 113 #[.int .i64 x, .int .i64 y] w fun e w' => e = .returned (.int .i64 (if s = 1 then p else q)) ∧ Below w.heap.size w w' := by
  obtain ⟨x0, x1, x2⟩ := sq_bd h1 h2
  obtain ⟨y0, y1, y2⟩ := sq_bd h3 h4
  unfold lexV topV at hs
  have HX := Lib.hid hx
  have HY := Lib.hid hy
  have HS := Lib.hid hs
  clear hs hx hy
  rcases hs1 with rfl | rfl
  all_goals
    go_enter Try.func113, Try.ntmps113
    go_wp2_with (first
      | (go_at_call 126; refine (signOf_any _ _).mono ?_; (first | rw [HX.out] | rw [HY.out]); rintro e w' ⟨rfl, rfl⟩)
      | (go_at_call 128; refine (size_any _ (by omega) (by omega) _).mono ?_; rintro e w' ⟨rfl, rfl⟩)
      | (go_at_call 127; refine (mul64_any _ _ (by omega) (by omega) _).mono ?_; rintro e w' ⟨rfl, rfl⟩)
      | (go_at_call 130; refine (cmpU_any _ _ _).mono ?_; rintro e w' ⟨rfl, rfl⟩)
      | (go_at_call 129; (refine (cmpOr_any _ _ _ _ (cells2 _ _ _ _).1 (cells2 _ _ _ _).2).mono ?_; rw [HS.out]; rintro e wX ⟨rfl, rfl⟩)))
    go_ret
    exact ⟨rfl, by repeat' (first | (with_reducible exact Below.refl _ _) | (with_reducible assumption) | (with_reducible refine Below.alloc ?_ ?_ _) | (with_reducible refine below_more ?_ ?_ _ _) | (with_reducible refine below_rd ?_ ?_ _ _) | (with_reducible refine Below.drew ?_) | (with_reducible refine Below.setCell ?_ ?_ _) | go_size)⟩

set_option maxHeartbeats 1000000 in
theorem sign2_near (x y : Int) (w : World) (p q : Int) (hx : x.sign = p) (hy : y.sign = q) (hp : ((p == q) = true) ∨ ((p == q) = false ∧ (q == 0) = true)) :
    Calls Try.prog 113 #[.int .i64 x, .int .i64 y] w fun e w' => e = .returned (.int .i64 p) ∧ Below w.heap.size w w' := by
  have HX := Lib.hid hx
  have HY := Lib.hid hy
  clear hx hy
  rcases hp with hp | ⟨hp, hq⟩
  all_goals
    go_enter Try.func113, Try.ntmps113
    go_wp2_with (go_at_call 126; refine (signOf_any _ _).mono ?_; (first | rw [HX.out] | rw [HY.out]); rintro e w' ⟨rfl, rfl⟩)
    go_ret
    exact ⟨rfl, by repeat' (first | (with_reducible exact Below.refl _ _) | (with_reducible assumption) | (with_reducible refine Below.alloc ?_ ?_ _) | (with_reducible refine below_more ?_ ?_ _ _) | (with_reducible refine below_rd ?_ ?_ _ _) | (with_reducible refine Below.drew ?_) | (with_reducible refine Below.setCell ?_ ?_ _) | go_size)⟩
set_option maxHeartbeats 1000000 in
theorem sign2_x0 (x y : Int) (w : World) (p q : Int) (hx : x.sign = p) (hy : y.sign = q) (hp : (p == q) = false) (hq : (q == 0) = false) (hp0 : (p == 0) = true) :
    Calls Try.prog 113 #[.int .i64 x, .int .i64 y] w fun e w' => e = .returned (.int .i64 q) ∧ Below w.heap.size w w' := by
  have HX := Lib.hid hx
  have HY := Lib.hid hy
  clear hx hy
  go_enter Try.func113, Try.ntmps113
  go_wp2_with (go_at_call 126; refine (signOf_any _ _).mono ?_; (first | rw [HX.out] | rw [HY.out]); rintro e w' ⟨rfl, rfl⟩)
  go_ret
  exact ⟨rfl, by repeat' (first | (with_reducible exact Below.refl _ _) | (with_reducible assumption) | (with_reducible refine Below.alloc ?_ ?_ _) | (with_reducible refine below_more ?_ ?_ _ _) | (with_reducible refine below_rd ?_ ?_ _ _) | (with_reducible refine Below.drew ?_) | (with_reducible refine Below.setCell ?_ ?_ _) | go_size)⟩

theorem sign2_any (x y : Int) (w : World) (h1 : -4000000000000000 ≤ x) (h2 : x ≤ 4000000000000000) (h3 : -4000000000000000 ≤ y) (h4 : y ≤ 4000000000000000) :
    Calls Try.prog 113 #[.int .i64 x, .int .i64 y] w fun e w' => e = .returned (.int .i64 (Q2.sg ⟨x, y⟩)) ∧ Below w.heap.size w w' := by
  by_cases e1 : x.sign = y.sign
  · rw [sg_same e1]
    exact sign2_near x y w _ _ rfl rfl (Or.inl (by rw [e1, beq_iff_eq]))
  · by_cases e2 : y = 0
    · subst e2
      rw [sg_y0]
      exact sign2_near x 0 w _ _ rfl rfl (Or.inr ⟨by rw [beq_eq_false_iff_ne]; exact e1, rfl⟩)
    · have e2' : y.sign ≠ 0 := fun h => e2 (Int.sign_eq_zero_iff_zero.1 h)
      by_cases e3 : x = 0
      · subst e3
        rw [sg_x0]
        exact sign2_x0 0 y w _ _ rfl rfl (by rw [beq_eq_false_iff_ne]; exact e1) (by rw [beq_eq_false_iff_ne]; exact e2') rfl
      · have e3' : x.sign ≠ 0 := fun h => e3 (Int.sign_eq_zero_iff_zero.1 h)
        obtain ⟨x0, x1, x2⟩ := sq_bd h1 h2
        obtain ⟨y0, y1, y2⟩ := sq_bd h3 h4
        have hne := sg_ne (y := y) e3
        rcases Int.lt_or_gt_of_ne hne with h | h
        · rw [sg_lt h]
          exact sign2_far x y w h1 h2 h3 h4 _ _ rfl rfl (by rw [beq_eq_false_iff_ne]; exact e1) (by rw [beq_eq_false_iff_ne]; exact e2') (by rw [beq_eq_false_iff_ne]; exact e3') (-1) (lexV_lt y0 y1 h) (Or.inr rfl)
        · rw [sg_gt h]
          exact sign2_far x y w h1 h2 h3 h4 _ _ rfl rfl (by rw [beq_eq_false_iff_ne]; exact e1) (by rw [beq_eq_false_iff_ne]; exact e2') (by rw [beq_eq_false_iff_ne]; exact e3') 1 (lexV_gt y0 y1 h) (Or.inl rfl)
end Go.Proofs.Ytklmlodapinflaa
