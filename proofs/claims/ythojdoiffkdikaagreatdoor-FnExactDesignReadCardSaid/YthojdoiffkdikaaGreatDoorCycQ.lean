/- Exact points, plain arithmetic: what holds of products, turned and mirrored points; no wraps where points are valid. -/
import Derived.Test.YthojdoiffkdikaaGreatDoorCycP
namespace Go.Proofs.YthojdoiffkdikaaGreatDoor
open Go.RowKit

theorem prod_bd {x y : Int} (hx : -1000000 ≤ x ∧ x ≤ 1000000) (hy : -1000000 ≤ y ∧ y ≤ 1000000) : -1000000000000 ≤ x * y ∧ x * y ≤ 1000000000000 := by
  have h1 : x.natAbs ≤ 1000000 := by omega
  have h2 : y.natAbs ≤ 1000000 := by omega
  have h3 : (x * y).natAbs ≤ 1000000 * 1000000 := by rw [Int.natAbs_mul]; exact Nat.mul_le_mul h1 h2
  omega

set_option maxHeartbeats 1000000 in
/-- A product of valid points has no great coefficient. -/
theorem C8.mul_bd {a b : C8} (ha : okC a = true) (hb : okC b = true) :
    (-15000000000000 ≤ (C8.mul a b).c0 ∧ (C8.mul a b).c0 ≤ 15000000000000) ∧ (-15000000000000 ≤ (C8.mul a b).c1 ∧ (C8.mul a b).c1 ≤ 15000000000000) ∧ (-15000000000000 ≤ (C8.mul a b).c2 ∧ (C8.mul a b).c2 ≤ 15000000000000) ∧ (-15000000000000 ≤ (C8.mul a b).c3 ∧ (C8.mul a b).c3 ≤ 15000000000000) ∧
    (-15000000000000 ≤ (C8.mul a b).c4 ∧ (C8.mul a b).c4 ≤ 15000000000000) ∧ (-15000000000000 ≤ (C8.mul a b).c5 ∧ (C8.mul a b).c5 ≤ 15000000000000) ∧ (-15000000000000 ≤ (C8.mul a b).c6 ∧ (C8.mul a b).c6 ≤ 15000000000000) ∧ (-15000000000000 ≤ (C8.mul a b).c7 ∧ (C8.mul a b).c7 ≤ 15000000000000) := by
  obtain ⟨a0, a1, a2, a3, a4, a5, a6, a7⟩ := okC_bd ha
  obtain ⟨b0, b1, b2, b3, b4, b5, b6, b7⟩ := okC_bd hb
  rw [C8.mul_eq]
  have p00 := prod_bd a0 b0; have p01 := prod_bd a0 b1; have p02 := prod_bd a0 b2; have p03 := prod_bd a0 b3; have p04 := prod_bd a0 b4; have p05 := prod_bd a0 b5; have p06 := prod_bd a0 b6; have p07 := prod_bd a0 b7
  have p10 := prod_bd a1 b0; have p11 := prod_bd a1 b1; have p12 := prod_bd a1 b2; have p13 := prod_bd a1 b3; have p14 := prod_bd a1 b4; have p15 := prod_bd a1 b5; have p16 := prod_bd a1 b6; have p17 := prod_bd a1 b7
  have p20 := prod_bd a2 b0; have p21 := prod_bd a2 b1; have p22 := prod_bd a2 b2; have p23 := prod_bd a2 b3; have p24 := prod_bd a2 b4; have p25 := prod_bd a2 b5; have p26 := prod_bd a2 b6; have p27 := prod_bd a2 b7
  have p30 := prod_bd a3 b0; have p31 := prod_bd a3 b1; have p32 := prod_bd a3 b2; have p33 := prod_bd a3 b3; have p34 := prod_bd a3 b4; have p35 := prod_bd a3 b5; have p36 := prod_bd a3 b6; have p37 := prod_bd a3 b7
  have p40 := prod_bd a4 b0; have p41 := prod_bd a4 b1; have p42 := prod_bd a4 b2; have p43 := prod_bd a4 b3; have p44 := prod_bd a4 b4; have p45 := prod_bd a4 b5; have p46 := prod_bd a4 b6; have p47 := prod_bd a4 b7
  have p50 := prod_bd a5 b0; have p51 := prod_bd a5 b1; have p52 := prod_bd a5 b2; have p53 := prod_bd a5 b3; have p54 := prod_bd a5 b4; have p55 := prod_bd a5 b5; have p56 := prod_bd a5 b6; have p57 := prod_bd a5 b7
  have p60 := prod_bd a6 b0; have p61 := prod_bd a6 b1; have p62 := prod_bd a6 b2; have p63 := prod_bd a6 b3; have p64 := prod_bd a6 b4; have p65 := prod_bd a6 b5; have p66 := prod_bd a6 b6; have p67 := prod_bd a6 b7
  have p70 := prod_bd a7 b0; have p71 := prod_bd a7 b1; have p72 := prod_bd a7 b2; have p73 := prod_bd a7 b3; have p74 := prod_bd a7 b4; have p75 := prod_bd a7 b5; have p76 := prod_bd a7 b6; have p77 := prod_bd a7 b7
  refine ⟨?_, ?_, ?_, ?_, ?_, ?_, ?_, ?_⟩ <;> (simp only []; omega)

theorem C8.wr_of_bd {x : C8} (h0 : -15000000000000 ≤ x.c0 ∧ x.c0 ≤ 15000000000000) (h1 : -15000000000000 ≤ x.c1 ∧ x.c1 ≤ 15000000000000) (h2 : -15000000000000 ≤ x.c2 ∧ x.c2 ≤ 15000000000000) (h3 : -15000000000000 ≤ x.c3 ∧ x.c3 ≤ 15000000000000)
    (h4 : -15000000000000 ≤ x.c4 ∧ x.c4 ≤ 15000000000000) (h5 : -15000000000000 ≤ x.c5 ∧ x.c5 ≤ 15000000000000) (h6 : -15000000000000 ≤ x.c6 ∧ x.c6 ≤ 15000000000000) (h7 : -15000000000000 ≤ x.c7 ∧ x.c7 ≤ 15000000000000) : x.wr = x := by
  apply C8.ext' <;> simp only [C8.wr] <;> apply wrap_in <;> omega
theorem C8.mul_wr {a b : C8} (ha : okC a = true) (hb : okC b = true) : (C8.mul a b).wr = C8.mul a b := by
  obtain ⟨h0, h1, h2, h3, h4, h5, h6, h7⟩ := C8.mul_bd ha hb
  exact C8.wr_of_bd h0 h1 h2 h3 h4 h5 h6 h7

theorem C8.mul_comm (a b : C8) : C8.mul a b = C8.mul b a := by
  rw [C8.mul_eq, C8.mul_eq]
  have e : ∀ x y : Int, x * y = y * x := Int.mul_comm
  apply C8.ext' <;> simp only [e b.c0, e b.c1, e b.c2, e b.c3, e b.c4, e b.c5, e b.c6, e b.c7] <;> omega

theorem C8.mul_one (a : C8) : C8.mul a C8.one = a := by
  rw [C8.mul_eq]; apply C8.ext' <;> simp [C8.one]
theorem C8.mul_stp (a b : C8) : C8.mul a b.stp = (C8.mul a b).stp := by
  rw [C8.mul_eq, C8.mul_eq]
  apply C8.ext' <;> simp only [C8.stp, Int.mul_add, Int.mul_neg] <;> omega
theorem C8.mul_turn (a b : C8) : ∀ n, C8.mul a (b.turn n) = (C8.mul a b).turn n
  | 0 => rfl
  | n + 1 => by show C8.mul a (b.turn n).stp = _; rw [C8.mul_stp, C8.mul_turn]; rfl
theorem C8.mul_rt (a : C8) (n : Nat) : C8.mul a (C8.rt n) = a.turn n := by
  unfold C8.rt; rw [C8.mul_turn, C8.mul_one]
theorem C8.turn_add (a : C8) (m : Nat) : ∀ n, (a.turn m).turn n = a.turn (m + n)
  | 0 => rfl
  | n + 1 => by show ((a.turn m).turn n).stp = _; rw [C8.turn_add]; rfl
theorem C8.turn_12 (a : C8) : a.turn 12 = ⟨-a.c0, -a.c1, -a.c2, -a.c3, -a.c4, -a.c5, -a.c6, -a.c7⟩ := by
  apply C8.ext' <;> simp only [C8.turn, C8.stp] <;> omega
theorem C8.turn_24 (a : C8) : a.turn 24 = a := by
  rw [← C8.turn_add a 12 12, C8.turn_12, C8.turn_12]; apply C8.ext' <;> simp
theorem C8.turn_mul24 (a : C8) : ∀ q, a.turn (24 * q) = a
  | 0 => rfl
  | q + 1 => by rw [show 24 * (q + 1) = 24 * q + 24 by omega, ← C8.turn_add, C8.turn_mul24, C8.turn_24]
theorem C8.turn_mod (a : C8) (n : Nat) : a.turn (n % 24) = a.turn n := by
  have h : n = 24 * (n / 24) + n % 24 := by omega
  conv => rhs; rw [h, ← C8.turn_add, C8.turn_mul24]

/-- Steps that do not wrap. -/
def C8.lim (m : Int) (a : C8) : Prop := (-m ≤ a.c0 ∧ a.c0 ≤ m) ∧ (-m ≤ a.c1 ∧ a.c1 ≤ m) ∧ (-m ≤ a.c2 ∧ a.c2 ≤ m) ∧ (-m ≤ a.c3 ∧ a.c3 ≤ m) ∧ (-m ≤ a.c4 ∧ a.c4 ≤ m) ∧ (-m ≤ a.c5 ∧ a.c5 ≤ m) ∧ (-m ≤ a.c6 ∧ a.c6 ≤ m) ∧ (-m ≤ a.c7 ∧ a.c7 ≤ m)
theorem C8.lim_ok {a : C8} (h : okC a = true) : C8.lim 1000000 a := okC_bd h
theorem C8.lim_stp {a : C8} {m : Int} (h : C8.lim m a) : C8.lim (2 * m) a.stp := by
  unfold C8.lim at *; simp only [C8.stp]; omega
theorem C8.lim_turn {a : C8} {m : Int} (h : C8.lim m a) : ∀ n, C8.lim (m * 2 ^ n) (a.turn n)
  | 0 => by simpa [C8.turn] using h
  | n + 1 => by
    have := C8.lim_stp (C8.lim_turn h n)
    rw [show m * 2 ^ (n + 1) = 2 * (m * 2 ^ n) by rw [Int.pow_succ, ← Int.mul_assoc, Int.mul_comm]]
    exact this
theorem C8.lim_mono {a : C8} {m m' : Int} (h : C8.lim m a) (hm : m ≤ m') : C8.lim m' a := by unfold C8.lim at *; omega
theorem C8.stpW_lim {a : C8} (h : C8.lim 1000000000000000 a) : a.stpW = a.stp := by
  unfold C8.lim at h
  apply C8.ext' <;> simp only [C8.stpW, C8.stp] <;> (try rw [wrap_in (by omega) (by omega)]) <;> omega
theorem C8.turnW_lim {a : C8} (h : C8.lim 1000000 a) : ∀ n, n ≤ 24 → a.turnW n = a.turn n
  | 0, _ => rfl
  | n + 1, hn => by
    show (a.turnW n).stpW = _
    rw [C8.turnW_lim h n (by omega)]
    refine C8.stpW_lim (C8.lim_mono (C8.lim_turn h n) ?_)
    have h1 : (2 : Int) ^ n ≤ 2 ^ 23 := by
      have : (2 : Nat) ^ n ≤ 2 ^ 23 := Nat.pow_le_pow_right (by omega) (by omega)
      exact_mod_cast this
    have h2 : (2 : Int) ^ 23 = 8388608 := by decide
    omega

/-- Turned points of valid points: at most three times as great. -/
theorem C8.turn_bd {a : C8} (h : okC a = true) (n : Nat) (hn : n < 24) : C8.lim 3000000 (a.turn n) := by
  obtain ⟨a0, a1, a2, a3, a4, a5, a6, a7⟩ := okC_bd h
  unfold C8.lim
  rcases lt24 hn with rfl | rfl | rfl | rfl | rfl | rfl | rfl | rfl | rfl | rfl | rfl | rfl | rfl | rfl | rfl | rfl | rfl | rfl | rfl | rfl | rfl | rfl | rfl | rfl <;> simp only [C8.turn, C8.stp] <;> omega
theorem C8.turn_wr {a : C8} (h : okC a = true) (n : Nat) (hn : n < 24) : (a.turn n).wr = a.turn n := by
  have hb := C8.turn_bd h n hn
  unfold C8.lim at hb
  exact C8.wr_of_bd (by omega) (by omega) (by omega) (by omega) (by omega) (by omega) (by omega) (by omega)

theorem C8.mir_mir (a : C8) : a.mir.mir = a := by
  apply C8.ext' <;> simp only [C8.mir] <;> omega
theorem C8.mir_wr {a : C8} (h : okC a = true) : a.mir.wr = a.mir := by
  obtain ⟨a0, a1, a2, a3, a4, a5, a6, a7⟩ := okC_bd h
  apply C8.wr_of_bd <;> simp only [C8.mir] <;> omega
theorem C8.mir_mul (a b : C8) : (C8.mul a b).mir = C8.mul a.mir b.mir := by
  rw [C8.mul_eq, C8.mul_eq]
  apply C8.ext' <;> simp only [C8.mir, Int.mul_add, Int.add_mul, Int.mul_neg, Int.neg_mul, Int.sub_mul, Int.mul_sub, Int.neg_neg] <;> omega
theorem C8.mul_add (a b c : C8) : C8.mul a (C8.add b c) = C8.add (C8.mul a b) (C8.mul a c) := by
  rw [C8.mul_eq, C8.mul_eq, C8.mul_eq]
  apply C8.ext' <;> simp only [C8.add, Int.mul_add] <;> omega
theorem C8.add_wr {a b : C8} (ha : okC a = true) (hb : okC b = true) : (C8.add a b).wr = C8.add a b := by
  obtain ⟨a0, a1, a2, a3, a4, a5, a6, a7⟩ := okC_bd ha
  obtain ⟨b0, b1, b2, b3, b4, b5, b6, b7⟩ := okC_bd hb
  apply C8.wr_of_bd <;> simp only [C8.add] <;> omega

end Go.Proofs.YthojdoiffkdikaaGreatDoor
