/- The signs of the reference: l3Size, l3Square, l3Two, l3Sign. The sign of a surd, of the reference. -/
import Derived.Test.YtklmlodapinflaaSignY
namespace Go.Proofs.Ytklmlodapinflaa
section
open Go.RowKit

theorem l3Size_any (x : Int) (h1 : -4000000000000000 ≤ x) (h2 : x ≤ 4000000000000000) (w : World) :
    Calls Try.prog 133 #[.int .i64 x] w fun e w' => e = .returned (.int .u64 (x.natAbs : Int)) ∧ w = w' := by
  by_cases h : 0 ≤ x
  · have e : ((x.natAbs : Nat) : Int) = x := by omega
    rw [e]
    go_enter Try.func133, Try.ntmps133
    go_wp2
    go_ret
    exact ⟨rfl, rfl⟩
  · have e : ((x.natAbs : Nat) : Int) = -x := by omega
    rw [e]
    go_enter Try.func133, Try.ntmps133
    go_wp2
    go_ret
    exact ⟨rfl, rfl⟩
/-- The parts of a square. -/
theorem square_parts (n l h : Nat) (hn : n ≤ 4000000000000000) (hl : n % 4294967296 = l) (hh : n / 4294967296 = h) :
    n * n = h * h * 18446744073709551616 + 2 * (l * h) * 4294967296 + l * l ∧ l < 4294967296 ∧ h < 1048576 ∧ l * h < 4503599627370496 ∧ l * l < 18446744073709551616 ∧ h * h < 1099511627776 := by
  have e : n = h * 4294967296 + l := by omega
  have h1 : l < 4294967296 := by omega
  have h2 : h < 1048576 := by omega
  have m1 : l * h ≤ 4294967295 * 1048575 := Nat.mul_le_mul (by omega) (by omega)
  have m2 : l * l ≤ 4294967295 * 4294967295 := Nat.mul_le_mul (by omega) (by omega)
  have m3 : h * h ≤ 1048575 * 1048575 := Nat.mul_le_mul (by omega) (by omega)
  refine ⟨?_, h1, h2, by omega, by omega, by omega⟩
  subst e
  grind
theorem ret_sq {a b c d : Int} (h1 : a = c) (h2 : b = d) : Ending.returned (.tuple #[.int .u64 a, .int .u64 b]) = Ending.returned (.tuple #[.int .u64 c, .int .u64 d]) := by rw [h1, h2]
set_option maxRecDepth 100000 in
theorem l3Square_any (n : Nat) (hn : n ≤ 4000000000000000) (w : World) :
    Calls Try.prog 132 #[.int .u64 (n : Int)] w fun e w' => e = .returned (.tuple #[.int .u64 (((n * n) / 18446744073709551616 : Nat) : Int), .int .u64 (((n * n) % 18446744073709551616 : Nat) : Int)]) ∧ w = w' := by
  obtain ⟨l, hl⟩ : ∃ l, n % 4294967296 = l := ⟨_, rfl⟩
  obtain ⟨h, hh⟩ : ∃ h, n / 4294967296 = h := ⟨_, rfl⟩
  obtain ⟨e, l1, h1, b1, b2, b3⟩ := square_parts n l h hn hl hh
  have f1 : bits .and .u64 (n : Int) 4294967295 = (l : Int) := by
    have := bits_and_u64_nat n 4294967295 (by omega) (by omega)
    rw [show ((4294967295 : Nat) : Int) = 4294967295 from rfl] at this
    rw [this, show 4294967295 = 2 ^ 32 - 1 from rfl, Nat.and_two_pow_sub_one_eq_mod, show 2 ^ 32 = 4294967296 from rfl, hl]
  have f2 : (n : Int) / 4294967296 = (h : Int) := by rw [← hh]; rfl
  obtain ⟨M, hM⟩ : ∃ M, l * h = M := ⟨_, rfl⟩
  obtain ⟨O, hO⟩ : ∃ O, l * l = O := ⟨_, rfl⟩
  obtain ⟨H, hH⟩ : ∃ H, h * h = H := ⟨_, rfl⟩
  obtain ⟨S, hS⟩ : ∃ S, n * n = S := ⟨_, rfl⟩
  have f3 : (l : Int) * (h : Int) = (M : Int) := by exact_mod_cast hM
  have f4 : (l : Int) * (l : Int) = (O : Int) := by exact_mod_cast hO
  have f5 : (h : Int) * (h : Int) = (H : Int) := by exact_mod_cast hH
  rw [hS]
  rw [hS, hM, hO, hH] at e
  rw [hM] at b1
  rw [hO] at b2
  rw [hH] at b3
  have E := Lib.hid e
  clear e hS hM hO hH hl hh
  have w1 : IntKind.u64.wrap (M : Int) = (M : Int) := by rw [IntKind.wrap_u64]; omega
  have w2 : IntKind.u64.wrap (O : Int) = (O : Int) := by rw [IntKind.wrap_u64]; omega
  have w3 : IntKind.u64.wrap (H : Int) = (H : Int) := by rw [IntKind.wrap_u64]; omega
  go_enter Try.func132, Try.ntmps132
  go_wp2
  all_goals
    go_returns
    have E1 := E.out
    clear f1 f2 f3 f4 f5 w1 w2 w3 E
    refine ⟨ret_sq ?_ ?_, rfl⟩
    all_goals
      simp only [IntKind.wrap_u64] at *
      omega
theorem l3Square_int (x : Int) (h1 : -4000000000000000 ≤ x) (h2 : x ≤ 4000000000000000) (w : World) :
    Calls Try.prog 132 #[.int .u64 (x.natAbs : Int)] w fun e w' => e = .returned (.tuple #[.int .u64 ((x * x) / 18446744073709551616), .int .u64 ((x * x) % 18446744073709551616)]) ∧ w = w' := by
  have h := l3Square_any x.natAbs (by omega) w
  have e : ((x.natAbs * x.natAbs : Nat) : Int) = x * x := Int.natAbs_mul_self
  have e1 : (((x.natAbs * x.natAbs) / 18446744073709551616 : Nat) : Int) = (x * x) / 18446744073709551616 := by rw [← e]; rfl
  have e2 : (((x.natAbs * x.natAbs) % 18446744073709551616 : Nat) : Int) = (x * x) % 18446744073709551616 := by rw [← e]; rfl
  rw [e1, e2] at h
  exact h
set_option maxRecDepth 100000 in
theorem l3Two_pp (x y : Int) (a1 : 0 < x) (a2 : 0 < y) (w : World) (h : (-4000000000000000 ≤ x ∧ x ≤ 4000000000000000) ∧ -4000000000000000 ≤ y ∧ y ≤ 4000000000000000) :
    Calls Try.prog 118 #[.int .i64 x, .int .i64 y] w fun e w' => e = .returned (.int .i64 1) ∧ w = w' := by
  obtain ⟨⟨h1, h2⟩, h3, h4⟩ := h
  try subst a1
  try subst a2
  go_enter Try.func118, Try.ntmps118
  go_wp2
  go_ret
  exact ⟨rfl, rfl⟩
set_option maxRecDepth 100000 in
theorem l3Two_p0 (x y : Int) (a1 : 0 < x) (a2 : y = 0) (w : World) (h : (-4000000000000000 ≤ x ∧ x ≤ 4000000000000000) ∧ -4000000000000000 ≤ y ∧ y ≤ 4000000000000000) :
    Calls Try.prog 118 #[.int .i64 x, .int .i64 y] w fun e w' => e = .returned (.int .i64 1) ∧ w = w' := by
  obtain ⟨⟨h1, h2⟩, h3, h4⟩ := h
  try subst a1
  try subst a2
  go_enter Try.func118, Try.ntmps118
  go_wp2
  go_ret
  exact ⟨rfl, rfl⟩
set_option maxRecDepth 100000 in
theorem l3Two_0p (x y : Int) (a1 : x = 0) (a2 : 0 < y) (w : World) (h : (-4000000000000000 ≤ x ∧ x ≤ 4000000000000000) ∧ -4000000000000000 ≤ y ∧ y ≤ 4000000000000000) :
    Calls Try.prog 118 #[.int .i64 x, .int .i64 y] w fun e w' => e = .returned (.int .i64 1) ∧ w = w' := by
  obtain ⟨⟨h1, h2⟩, h3, h4⟩ := h
  try subst a1
  try subst a2
  go_enter Try.func118, Try.ntmps118
  go_wp2
  go_ret
  exact ⟨rfl, rfl⟩
set_option maxRecDepth 100000 in
theorem l3Two_00 (x y : Int) (a1 : x = 0) (a2 : y = 0) (w : World) (h : (-4000000000000000 ≤ x ∧ x ≤ 4000000000000000) ∧ -4000000000000000 ≤ y ∧ y ≤ 4000000000000000) :
    Calls Try.prog 118 #[.int .i64 x, .int .i64 y] w fun e w' => e = .returned (.int .i64 0) ∧ w = w' := by
  obtain ⟨⟨h1, h2⟩, h3, h4⟩ := h
  try subst a1
  try subst a2
  go_enter Try.func118, Try.ntmps118
  go_wp2
  go_ret
  exact ⟨rfl, rfl⟩
set_option maxRecDepth 100000 in
theorem l3Two_0n (x y : Int) (a1 : x = 0) (a2 : y < 0) (w : World) (h : (-4000000000000000 ≤ x ∧ x ≤ 4000000000000000) ∧ -4000000000000000 ≤ y ∧ y ≤ 4000000000000000) :
    Calls Try.prog 118 #[.int .i64 x, .int .i64 y] w fun e w' => e = .returned (.int .i64 (-1)) ∧ w = w' := by
  obtain ⟨⟨h1, h2⟩, h3, h4⟩ := h
  try subst a1
  try subst a2
  go_enter Try.func118, Try.ntmps118
  go_wp2
  go_ret
  exact ⟨rfl, rfl⟩
set_option maxRecDepth 100000 in
theorem l3Two_n0 (x y : Int) (a1 : x < 0) (a2 : y = 0) (w : World) (h : (-4000000000000000 ≤ x ∧ x ≤ 4000000000000000) ∧ -4000000000000000 ≤ y ∧ y ≤ 4000000000000000) :
    Calls Try.prog 118 #[.int .i64 x, .int .i64 y] w fun e w' => e = .returned (.int .i64 (-1)) ∧ w = w' := by
  obtain ⟨⟨h1, h2⟩, h3, h4⟩ := h
  try subst a1
  try subst a2
  go_enter Try.func118, Try.ntmps118
  go_wp2
  go_ret
  exact ⟨rfl, rfl⟩
set_option maxRecDepth 100000 in
theorem l3Two_nn (x y : Int) (a1 : x < 0) (a2 : y < 0) (w : World) (h : (-4000000000000000 ≤ x ∧ x ≤ 4000000000000000) ∧ -4000000000000000 ≤ y ∧ y ≤ 4000000000000000) :
    Calls Try.prog 118 #[.int .i64 x, .int .i64 y] w fun e w' => e = .returned (.int .i64 (-1)) ∧ w = w' := by
  obtain ⟨⟨h1, h2⟩, h3, h4⟩ := h
  try subst a1
  try subst a2
  go_enter Try.func118, Try.ntmps118
  go_wp2
  go_ret
  exact ⟨rfl, rfl⟩
/-- The two squares, cut in parts, as they lie. -/
theorem lex_parts {N M A B T R : Int} (hA : N / 18446744073709551616 = A) (hB : N % 18446744073709551616 = B) (hT : 2 * M / 18446744073709551616 = T) (hR : 2 * M % 18446744073709551616 = R) :
    (2 * M < N → T < A ∨ (A = T ∧ R < B)) ∧ (N < 2 * M → (A < T) ∨ (A = T ∧ B < R)) := by omega
set_option maxRecDepth 100000 in
set_option maxHeartbeats 2000000 in
theorem l3Two_farp (x y : Int) (a1 : 0 < x) (a2 : y < 0) (w : World) (h1 : -4000000000000000 ≤ x) (h2 : x ≤ 4000000000000000) (h3 : -4000000000000000 ≤ y) (h4 : y ≤ 4000000000000000) (hne : x * x ≠ 2 * (y * y)) :
    Calls Try.prog 118 #[.int .i64 x, .int .i64 y] w fun e w' => e = .returned (.int .i64 (if 2 * (y * y) < x * x then 1 else (-1))) ∧ w = w' := by
  obtain ⟨x0, x1, x2⟩ := sq_bd h1 h2
  obtain ⟨y0, y1, y2⟩ := sq_bd h3 h4
  obtain ⟨A, hA⟩ : ∃ A, (x * x) / 18446744073709551616 = A := ⟨_, rfl⟩
  obtain ⟨B, hB⟩ : ∃ B, (x * x) % 18446744073709551616 = B := ⟨_, rfl⟩
  obtain ⟨T, hT⟩ : ∃ T, 2 * (y * y) / 18446744073709551616 = T := ⟨_, rfl⟩
  obtain ⟨R, hR⟩ : ∃ R, 2 * (y * y) % 18446744073709551616 = R := ⟨_, rfl⟩
  have t1 := (topV_eq y0 y1).trans hT
  have t2 := (lowV_eq (y * y)).trans hR
  unfold topV at t1
  have hl := lex_parts hA hB hT hR
  clear hT hR
  rcases Int.lt_or_gt_of_ne hne with h | h
  · rw [if_neg (by omega)]
    rcases hl.2 h with g | ⟨g, g2⟩
    all_goals
      try subst g
      clear hl h hne
      go_enter Try.func118, Try.ntmps118
      go_wp2_with (first
        | (go_at_call 133; refine (l3Size_any _ (by omega) (by omega) _).mono ?_; rintro e w' ⟨rfl, rfl⟩)
        | (go_at_call 132; refine (l3Square_int _ (by omega) (by omega) _).mono ?_; rintro e w' ⟨rfl, rfl⟩))
      go_ret
      exact ⟨rfl, rfl⟩
  · rw [if_pos (by omega)]
    rcases hl.1 h with g | ⟨g, g2⟩
    all_goals
      try subst g
      clear hl h hne
      go_enter Try.func118, Try.ntmps118
      go_wp2_with (first
        | (go_at_call 133; refine (l3Size_any _ (by omega) (by omega) _).mono ?_; rintro e w' ⟨rfl, rfl⟩)
        | (go_at_call 132; refine (l3Square_int _ (by omega) (by omega) _).mono ?_; rintro e w' ⟨rfl, rfl⟩))
      go_ret
      exact ⟨rfl, rfl⟩
set_option maxRecDepth 100000 in
set_option maxHeartbeats 2000000 in
theorem l3Two_farn (x y : Int) (a1 : x < 0) (a2 : 0 < y) (w : World) (h1 : -4000000000000000 ≤ x) (h2 : x ≤ 4000000000000000) (h3 : -4000000000000000 ≤ y) (h4 : y ≤ 4000000000000000) (hne : x * x ≠ 2 * (y * y)) :
    Calls Try.prog 118 #[.int .i64 x, .int .i64 y] w fun e w' => e = .returned (.int .i64 (if 2 * (y * y) < x * x then (-1) else 1)) ∧ w = w' := by
  obtain ⟨x0, x1, x2⟩ := sq_bd h1 h2
  obtain ⟨y0, y1, y2⟩ := sq_bd h3 h4
  obtain ⟨A, hA⟩ : ∃ A, (x * x) / 18446744073709551616 = A := ⟨_, rfl⟩
  obtain ⟨B, hB⟩ : ∃ B, (x * x) % 18446744073709551616 = B := ⟨_, rfl⟩
  obtain ⟨T, hT⟩ : ∃ T, 2 * (y * y) / 18446744073709551616 = T := ⟨_, rfl⟩
  obtain ⟨R, hR⟩ : ∃ R, 2 * (y * y) % 18446744073709551616 = R := ⟨_, rfl⟩
  have t1 := (topV_eq y0 y1).trans hT
  have t2 := (lowV_eq (y * y)).trans hR
  unfold topV at t1
  have hl := lex_parts hA hB hT hR
  clear hT hR
  rcases Int.lt_or_gt_of_ne hne with h | h
  · rw [if_neg (by omega)]
    rcases hl.2 h with g | ⟨g, g2⟩
    all_goals
      try subst g
      clear hl h hne
      go_enter Try.func118, Try.ntmps118
      go_wp2_with (first
        | (go_at_call 133; refine (l3Size_any _ (by omega) (by omega) _).mono ?_; rintro e w' ⟨rfl, rfl⟩)
        | (go_at_call 132; refine (l3Square_int _ (by omega) (by omega) _).mono ?_; rintro e w' ⟨rfl, rfl⟩))
      go_ret
      exact ⟨rfl, rfl⟩
  · rw [if_pos (by omega)]
    rcases hl.1 h with g | ⟨g, g2⟩
    all_goals
      try subst g
      clear hl h hne
      go_enter Try.func118, Try.ntmps118
      go_wp2_with (first
        | (go_at_call 133; refine (l3Size_any _ (by omega) (by omega) _).mono ?_; rintro e w' ⟨rfl, rfl⟩)
        | (go_at_call 132; refine (l3Square_int _ (by omega) (by omega) _).mono ?_; rintro e w' ⟨rfl, rfl⟩))
      go_ret
      exact ⟨rfl, rfl⟩

theorem l3Two_any (x y : Int) (w : World) (h1 : -4000000000000000 ≤ x) (h2 : x ≤ 4000000000000000) (h3 : -4000000000000000 ≤ y) (h4 : y ≤ 4000000000000000) :
    Calls Try.prog 118 #[.int .i64 x, .int .i64 y] w fun e w' => e = .returned (.int .i64 (Q2.sg ⟨x, y⟩)) ∧ w = w' := by
  rcases Int.lt_trichotomy x 0 with a | a | a <;> rcases Int.lt_trichotomy y 0 with b | b | b
  · rw [sg_same (by rw [Int.sign_eq_neg_one_of_neg a, Int.sign_eq_neg_one_of_neg b]), Int.sign_eq_neg_one_of_neg a]; exact l3Two_nn x y a b w (by omega)
  · rw [b, sg_y0, Int.sign_eq_neg_one_of_neg a]; exact l3Two_n0 x 0 a rfl w (by omega)
  · have hne := sg_ne (y := y) (show x ≠ 0 by omega)
    have h := l3Two_farn x y a b w h1 h2 h3 h4 hne
    rcases Int.lt_or_gt_of_ne hne with g | g
    · rw [if_neg (by omega)] at h; rw [sg_lt g, Int.sign_eq_one_of_pos b]; exact h
    · rw [if_pos (by omega)] at h; rw [sg_gt g, Int.sign_eq_neg_one_of_neg a]; exact h
  · rw [a, sg_x0, Int.sign_eq_neg_one_of_neg b]; exact l3Two_0n 0 y rfl b w (by omega)
  · rw [a, b, sg_x0]; exact l3Two_00 0 0 rfl rfl w (by omega)
  · rw [a, sg_x0, Int.sign_eq_one_of_pos b]; exact l3Two_0p 0 y rfl b w (by omega)
  · have hne := sg_ne (y := y) (show x ≠ 0 by omega)
    have h := l3Two_farp x y a b w h1 h2 h3 h4 hne
    rcases Int.lt_or_gt_of_ne hne with g | g
    · rw [if_neg (by omega)] at h; rw [sg_lt g, Int.sign_eq_neg_one_of_neg b]; exact h
    · rw [if_pos (by omega)] at h; rw [sg_gt g, Int.sign_eq_one_of_pos a]; exact h
  · rw [b, sg_y0, Int.sign_eq_one_of_pos a]; exact l3Two_p0 x 0 a rfl w (by omega)
  · rw [sg_same (by rw [Int.sign_eq_one_of_pos a, Int.sign_eq_one_of_pos b]), Int.sign_eq_one_of_pos a]; exact l3Two_pp x y a b w (by omega)
end
section
open Go.RowKit

set_option maxHeartbeats 2000000 in
set_option maxRecDepth 100000 in
theorem l3Sign_near (a b c d : Int) (w : World) (h : okS a b c d = true) (p q r : Int) (hx : Q2.sg ⟨a, b⟩ = p) (hy : Q2.sg ⟨c, d⟩ = q) (hp : (p = 1 ∧ q = 1 ∧ r = 1) ∨ (p = 1 ∧ q = 0 ∧ r = 1) ∨ (p = 0 ∧ q = 1 ∧ r = 1) ∨ (p = 0 ∧ q = 0 ∧ r = 0) ∨ (p = 0 ∧ q = -1 ∧ r = -1) ∨ (p = -1 ∧ q = 0 ∧ r = -1) ∨ (p = -1 ∧ q = -1 ∧ r = -1)) :
    Calls Try.prog 86 #[sv a b c d] w fun e w' => e = .returned (.int .i64 r) ∧ Below w.heap.size w w' := by
  obtain ⟨ha, hb, hc, hd⟩ := okS_parts h
  rw [inB_iff] at ha hb hc hd
  have HX := Lib.hid hx
  have HY := Lib.hid hy
  clear hx hy h
  rcases hp with ⟨rfl, rfl, rfl⟩ | ⟨rfl, rfl, rfl⟩ | ⟨rfl, rfl, rfl⟩ | ⟨rfl, rfl, rfl⟩ | ⟨rfl, rfl, rfl⟩ | ⟨rfl, rfl, rfl⟩ | ⟨rfl, rfl, rfl⟩
  all_goals
    go_enter Try.func86, Try.ntmps86
    go_wp2_with (go_at_call 118; refine (l3Two_any _ _ _ (by omega) (by omega) (by omega) (by omega)).mono ?_; (first | rw [HX.out] | rw [HY.out]); rintro e w' ⟨rfl, rfl⟩)
    go_ret
    exact ⟨rfl, by repeat' (first | (with_reducible exact Below.refl _ _) | (with_reducible assumption) | (with_reducible refine Below.alloc ?_ ?_ _) | (with_reducible refine below_more ?_ ?_ _ _) | (with_reducible refine below_rd ?_ ?_ _ _) | (with_reducible refine Below.drew ?_) | (with_reducible refine Below.setCell ?_ ?_ _) | go_size)⟩
set_option maxHeartbeats 2000000 in
set_option maxRecDepth 100000 in
theorem l3Sign_far (a b c d : Int) (w : World) (h : okS a b c d = true) (p q s : Int) (hx : Q2.sg ⟨a, b⟩ = p) (hy : Q2.sg ⟨c, d⟩ = q) (hp : (p = 1 ∧ q = -1) ∨ (p = -1 ∧ q = 1)) (hz : Q2.sg ⟨a * a + 2 * b * b - 3 * c * c - 6 * d * d, 2 * a * b - 6 * c * d⟩ = s) (bs : s = 0 ∨ s = 1 ∨ s = -1) :
    Calls Try.prog 86 #[sv a b c d] w fun e w' => e = .returned (.int .i64 (p * s)) ∧ Below w.heap.size w w' := by
  obtain ⟨ha, hb, hc, hd⟩ := okS_parts h
  obtain ⟨p11, q11⟩ := pB_of ha ha; obtain ⟨p22, q22⟩ := k2B hb hb; obtain ⟨p33, q33⟩ := k3B hc hc; obtain ⟨p44, q44⟩ := k6B hd hd
  obtain ⟨p12, q12⟩ := k2B ha hb; obtain ⟨p34, q34⟩ := k6B hc hd
  rw [inB_iff] at ha hb hc hd
  have HX := Lib.hid hx
  have HY := Lib.hid hy
  have HZ := Lib.hid hz
  clear hx hy hz h
  rcases hp with ⟨rfl, rfl⟩ | ⟨rfl, rfl⟩ <;> rcases bs with rfl | rfl | rfl
  all_goals
    go_enter Try.func86, Try.ntmps86
    go_wp2_with (go_at_call 118; refine (l3Two_any _ _ _ (by omega) (by omega) (by omega) (by omega)).mono ?_; (first | rw [HX.out] | rw [HY.out] | rw [HZ.out]); rintro e w' ⟨rfl, rfl⟩)
    go_ret
    exact ⟨rfl, by repeat' (first | (with_reducible exact Below.refl _ _) | (with_reducible assumption) | (with_reducible refine Below.alloc ?_ ?_ _) | (with_reducible refine below_more ?_ ?_ _ _) | (with_reducible refine below_rd ?_ ?_ _ _) | (with_reducible refine Below.drew ?_) | (with_reducible refine Below.setCell ?_ ?_ _) | go_size)⟩
theorem l3Sign_any (a b c d : Int) (w : World) (h : okS a b c d = true) :
    Calls Try.prog 86 #[sv a b c d] w fun e w' => e = .returned (.int .i64 (sgS a b c d)) ∧ Below w.heap.size w w' := by
  unfold sgS
  rcases Q2.sg_cases ⟨a, b⟩ with h1 | h1 | h1 <;> rcases Q2.sg_cases ⟨c, d⟩ with h2 | h2 | h2
  · rw [q4_same (by rw [h1, h2]), h1]; exact l3Sign_near a b c d w h _ _ _ h1 h2 (by omega)
  · rw [q4_p0 h1, h2]; exact l3Sign_near a b c d w h _ _ _ h1 h2 (by omega)
  · rw [q4_p0 h1, h2]; exact l3Sign_near a b c d w h _ _ _ h1 h2 (by omega)
  · rw [q4_q0 h2, h1]; exact l3Sign_near a b c d w h _ _ _ h1 h2 (by omega)
  · rw [q4_same (by rw [h1, h2]), h1]; exact l3Sign_near a b c d w h _ _ _ h1 h2 (by omega)
  · rw [q4_far (by rw [h1, h2]; rfl), q4_nm, h1]; exact l3Sign_far a b c d w h _ _ _ h1 h2 (by omega) rfl (Q2.sg_cases _)
  · rw [q4_q0 h2, h1]; exact l3Sign_near a b c d w h _ _ _ h1 h2 (by omega)
  · rw [q4_far (by rw [h1, h2]), q4_nm, h1]; exact l3Sign_far a b c d w h _ _ _ h1 h2 (by omega) rfl (Q2.sg_cases _)
  · rw [q4_same (by rw [h1, h2]), h1]; exact l3Sign_near a b c d w h _ _ _ h1 h2 (by omega)
end
end Go.Proofs.Ytklmlodapinflaa
