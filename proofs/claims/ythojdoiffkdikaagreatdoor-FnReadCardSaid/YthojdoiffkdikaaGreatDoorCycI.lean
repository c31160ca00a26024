/- Exact points, plain arithmetic: what holds of products, turned and mirrored points; no wraps where points are valid. Exact points, plain arithmetic: the program's reductions give the products and the mirrored points. Contracts on exact points: the program's products, roots, turned and mirrored points, sums. The public functions on exact points, of the program and of the reference: both return the same. The public functions on exact points: turned, mirrored, sums, roots, whole points: of the program and of the reference. Printed by mkpub.py. One contract a public function, with open arguments; exact points compared. -/
import Derived.Test.YthojdoiffkdikaaGreatDoorCycP
import Derived.Test.YthojdoiffkdikaaGreatDoorCycD
import Derived.StillTailTactics
import Derived.Deep.RegionHeld3
import Derived.Test.YthojdoiffkdikaaGreatDoorCycH
section -- a part
namespace Go.Proofs.YthojdoiffkdikaaGreatDoor
open Go.RowKit

theorem prod_bd {x y : Int} (hx : -1000000 ≤ x ∧ x ≤ 1000000) (hy : -1000000 ≤ y ∧ y ≤ 1000000) : -1000000000000 ≤ x * y ∧ x * y ≤ 1000000000000 := by
  have h1 : x.natAbs ≤ 1000000 := by omega
  have h2 : y.natAbs ≤ 1000000 := by omega
  have h3 : (x * y).natAbs ≤ 1000000 * 1000000 := by rw [Int.natAbs_mul]; exact Nat.mul_le_mul h1 h2
  omega

set_option maxHeartbeats 1000000 in
/-- A product of valid points has no great coefficient. -/
theorem C8.mul_bd {a b : C8} (ha : okC a = true) (hb : okC b = true) :
    (-15000000000000 ≤ (C8.mul a b).c0 ∧ (C8.mul a b).c0 ≤ 15000000000000) ∧ (-15000000000000 ≤ (C8.mul a b).c1 ∧ (C8.mul a b).c1 ≤ 15000000000000) ∧ (-15000000000000 ≤ (C8.mul a b).c2 ∧ (C8.mul a b).c2 ≤ 15000000000000) ∧ (-15000000000000 ≤ (C8.mul a b).c3 ∧ (C8.mul a b).c3 ≤ 15000000000000) ∧
    (-15000000000000 ≤ (C8.mul a b).c4 ∧ (C8.mul a b).c4 ≤ 15000000000000) ∧ (-15000000000000 ≤ (C8.mul a b).c5 ∧ (C8.mul a b).c5 ≤ 15000000000000) ∧ (-15000000000000 ≤ (C8.mul a b).c6 ∧ (C8.mul a b).c6 ≤ 15000000000000) ∧ (-15000000000000 ≤ (C8.mul a b).c7 ∧ (C8.mul a b).c7 ≤ 15000000000000) := by
  obtain ⟨a0, a1, a2, a3, a4, a5, a6, a7⟩ := okC_bd ha
  obtain ⟨b0, b1, b2, b3, b4, b5, b6, b7⟩ := okC_bd hb
  rw [C8.mul_eq]
  have p00 := prod_bd a0 b0; have p01 := prod_bd a0 b1; have p02 := prod_bd a0 b2; have p03 := prod_bd a0 b3; have p04 := prod_bd a0 b4; have p05 := prod_bd a0 b5; have p06 := prod_bd a0 b6; have p07 := prod_bd a0 b7
  have p10 := prod_bd a1 b0; have p11 := prod_bd a1 b1; have p12 := prod_bd a1 b2; have p13 := prod_bd a1 b3; have p14 := prod_bd a1 b4; have p15 := prod_bd a1 b5; have p16 := prod_bd a1 b6; have p17 := prod_bd a1 b7
  have p20 := prod_bd a2 b0; have p21 := prod_bd a2 b1; have p22 := prod_bd a2 b2; have p23 := prod_bd a2 b3; have p24 := prod_bd a2 b4; have p25 := prod_bd a2 b5; have p26 := prod_bd a2 b6; have p27 := prod_bd a2 b7
  have p30 := prod_bd a3 b0; have p31 := prod_bd a3 b1; have p32 := prod_bd a3 b2; have p33 := prod_bd a3 b3; have p34 := prod_bd a3 b4; have p35 := prod_bd a3 b5; have p36 := prod_bd a3 b6; have p37 := prod_bd a3 b7
  have p40 := prod_bd a4 b0; have p41 := prod_bd a4 b1; have p42 := prod_bd a4 b2; have p43 := prod_bd a4 b3; have p44 := prod_bd a4 b4; have p45 := prod_bd a4 b5; have p46 := prod_bd a4 b6; have p47 := prod_bd a4 b7
  have p50 := prod_bd a5 b0; have p51 := prod_bd a5 b1; have p52 := prod_bd a5 b2; have p53 := prod_bd a5 b3; have p54 := prod_bd a5 b4; have p55 := prod_bd a5 b5; have p56 := prod_bd a5 b6; have p57 := prod_bd a5 b7
  have p60 := prod_bd a6 b0; have p61 := prod_bd a6 b1; have p62 := prod_bd a6 b2; have p63 := prod_bd a6 b3; have p64 := prod_bd a6 b4; have p65 := prod_bd a6 b5; have p66 := prod_bd a6 b6; have p67 := prod_bd a6 b7
  have p70 := prod_bd a7 b0; have p71 := prod_bd a7 b1; have p72 := prod_bd a7 b2; have p73 := prod_bd a7 b3; have p74 := prod_bd a7 b4; have p75 := prod_bd a7 b5; have p76 := prod_bd a7 b6; have p77 := prod_bd a7 b7
  refine ⟨?_, ?_, ?_, ?_, ?_, ?_, ?_, ?_⟩ <;> (simp only []; omega)

theorem C8.wr_of_bd {x : C8} (h0 : -15000000000000 ≤ x.c0 ∧ x.c0 ≤ 15000000000000) (h1 : -15000000000000 ≤ x.c1 ∧ x.c1 ≤ 15000000000000) (h2 : -15000000000000 ≤ x.c2 ∧ x.c2 ≤ 15000000000000) (h3 : -15000000000000 ≤ x.c3 ∧ x.c3 ≤ 15000000000000)
    (h4 : -15000000000000 ≤ x.c4 ∧ x.c4 ≤ 15000000000000) (h5 : -15000000000000 ≤ x.c5 ∧ x.c5 ≤ 15000000000000) (h6 : -15000000000000 ≤ x.c6 ∧ x.c6 ≤ 15000000000000) (h7 : -15000000000000 ≤ x.c7 ∧ x.c7 ≤ 15000000000000) : x.wr = x := by
  apply C8.ext' <;> simp only [C8.wr] <;> apply wrap_in <;> omega
theorem C8.mul_wr {a b : C8} (ha : okC a = true) (hb : okC b = true) : (C8.mul a b).wr = C8.mul a b := by
  obtain ⟨h0, h1, h2, h3, h4, h5, h6, h7⟩ := C8.mul_bd ha hb
  exact C8.wr_of_bd h0 h1 h2 h3 h4 h5 h6 h7

theorem C8.mul_comm (a b : C8) : C8.mul a b = C8.mul b a := by
  rw [C8.mul_eq, C8.mul_eq]
  have e : ∀ x y : Int, x * y = y * x := Int.mul_comm
  apply C8.ext' <;> simp only [e b.c0, e b.c1, e b.c2, e b.c3, e b.c4, e b.c5, e b.c6, e b.c7] <;> omega

theorem C8.mul_one (a : C8) : C8.mul a C8.one = a := by
  rw [C8.mul_eq]; apply C8.ext' <;> simp [C8.one]
theorem C8.mul_stp (a b : C8) : C8.mul a b.stp = (C8.mul a b).stp := by
  rw [C8.mul_eq, C8.mul_eq]
  apply C8.ext' <;> simp only [C8.stp, Int.mul_add, Int.mul_neg] <;> omega
theorem C8.mul_turn (a b : C8) : ∀ n, C8.mul a (b.turn n) = (C8.mul a b).turn n
  | 0 => rfl
  | n + 1 => by show C8.mul a (b.turn n).stp = _; rw [C8.mul_stp, C8.mul_turn]; rfl
theorem C8.mul_rt (a : C8) (n : Nat) : C8.mul a (C8.rt n) = a.turn n := by
  unfold C8.rt; rw [C8.mul_turn, C8.mul_one]
theorem C8.turn_add (a : C8) (m : Nat) : ∀ n, (a.turn m).turn n = a.turn (m + n)
  | 0 => rfl
  | n + 1 => by show ((a.turn m).turn n).stp = _; rw [C8.turn_add]; rfl
theorem C8.turn_12 (a : C8) : a.turn 12 = ⟨-a.c0, -a.c1, -a.c2, -a.c3, -a.c4, -a.c5, -a.c6, -a.c7⟩ := by
  apply C8.ext' <;> simp only [C8.turn, C8.stp] <;> omega
theorem C8.turn_24 (a : C8) : a.turn 24 = a := by
  rw [← C8.turn_add a 12 12, C8.turn_12, C8.turn_12]; apply C8.ext' <;> simp
theorem C8.turn_mul24 (a : C8) : ∀ q, a.turn (24 * q) = a
  | 0 => rfl
  | q + 1 => by rw [show 24 * (q + 1) = 24 * q + 24 by omega, ← C8.turn_add, C8.turn_mul24, C8.turn_24]
theorem C8.turn_mod (a : C8) (n : Nat) : a.turn (n % 24) = a.turn n := by
  have h : n = 24 * (n / 24) + n % 24 := by omega
  conv => rhs; rw [h, ← C8.turn_add, C8.turn_mul24]

/-- Steps that do not wrap. -/
def C8.lim (m : Int) (a : C8) : Prop := (-m ≤ a.c0 ∧ a.c0 ≤ m) ∧ (-m ≤ a.c1 ∧ a.c1 ≤ m) ∧ (-m ≤ a.c2 ∧ a.c2 ≤ m) ∧ (-m ≤ a.c3 ∧ a.c3 ≤ m) ∧ (-m ≤ a.c4 ∧ a.c4 ≤ m) ∧ (-m ≤ a.c5 ∧ a.c5 ≤ m) ∧ (-m ≤ a.c6 ∧ a.c6 ≤ m) ∧ (-m ≤ a.c7 ∧ a.c7 ≤ m)
theorem C8.lim_ok {a : C8} (h : okC a = true) : C8.lim 1000000 a := okC_bd h
theorem C8.lim_stp {a : C8} {m : Int} (h : C8.lim m a) : C8.lim (2 * m) a.stp := by
  unfold C8.lim at *; simp only [C8.stp]; omega
theorem C8.lim_turn {a : C8} {m : Int} (h : C8.lim m a) : ∀ n, C8.lim (m * 2 ^ n) (a.turn n)
  | 0 => by simpa [C8.turn] using h
  | n + 1 => by
    have := C8.lim_stp (C8.lim_turn h n)
    rw [show m * 2 ^ (n + 1) = 2 * (m * 2 ^ n) by rw [Int.pow_succ, ← Int.mul_assoc, Int.mul_comm]]
    exact this
theorem C8.lim_mono {a : C8} {m m' : Int} (h : C8.lim m a) (hm : m ≤ m') : C8.lim m' a := by unfold C8.lim at *; omega
theorem C8.stpW_lim {a : C8} (h : C8.lim 1000000000000000 a) : a.stpW = a.stp := by
  unfold C8.lim at h
  apply C8.ext' <;> simp only [C8.stpW, C8.stp] <;> (try rw [wrap_in (by omega) (by omega)]) <;> omega
theorem C8.turnW_lim {a : C8} (h : C8.lim 1000000 a) : ∀ n, n ≤ 24 → a.turnW n = a.turn n
  | 0, _ => rfl
  | n + 1, hn => by
    show (a.turnW n).stpW = _
    rw [C8.turnW_lim h n (by omega)]
    refine C8.stpW_lim (C8.lim_mono (C8.lim_turn h n) ?_)
    have h1 : (2 : Int) ^ n ≤ 2 ^ 23 := by
      have : (2 : Nat) ^ n ≤ 2 ^ 23 := Nat.pow_le_pow_right (by omega) (by omega)
      exact_mod_cast this
    have h2 : (2 : Int) ^ 23 = 8388608 := by decide
    omega

/-- Turned points of valid points: at most three times as great. -/
theorem C8.turn_bd {a : C8} (h : okC a = true) (n : Nat) (hn : n < 24) : C8.lim 3000000 (a.turn n) := by
  obtain ⟨a0, a1, a2, a3, a4, a5, a6, a7⟩ := okC_bd h
  unfold C8.lim
  rcases lt24 hn with rfl | rfl | rfl | rfl | rfl | rfl | rfl | rfl | rfl | rfl | rfl | rfl | rfl | rfl | rfl | rfl | rfl | rfl | rfl | rfl | rfl | rfl | rfl | rfl <;> simp only [C8.turn, C8.stp] <;> omega
theorem C8.turn_wr {a : C8} (h : okC a = true) (n : Nat) (hn : n < 24) : (a.turn n).wr = a.turn n := by
  have hb := C8.turn_bd h n hn
  unfold C8.lim at hb
  exact C8.wr_of_bd (by omega) (by omega) (by omega) (by omega) (by omega) (by omega) (by omega) (by omega)

theorem C8.mir_mir (a : C8) : a.mir.mir = a := by
  apply C8.ext' <;> simp only [C8.mir] <;> omega
theorem C8.mir_wr {a : C8} (h : okC a = true) : a.mir.wr = a.mir := by
  obtain ⟨a0, a1, a2, a3, a4, a5, a6, a7⟩ := okC_bd h
  apply C8.wr_of_bd <;> simp only [C8.mir] <;> omega
theorem C8.mir_mul (a b : C8) : (C8.mul a b).mir = C8.mul a.mir b.mir := by
  rw [C8.mul_eq, C8.mul_eq]
  apply C8.ext' <;> simp only [C8.mir, Int.mul_add, Int.add_mul, Int.mul_neg, Int.neg_mul, Int.sub_mul, Int.mul_sub, Int.neg_neg] <;> omega
theorem C8.mul_add (a b c : C8) : C8.mul a (C8.add b c) = C8.add (C8.mul a b) (C8.mul a c) := by
  rw [C8.mul_eq, C8.mul_eq, C8.mul_eq]
  apply C8.ext' <;> simp only [C8.add, Int.mul_add] <;> omega
theorem C8.add_wr {a b : C8} (ha : okC a = true) (hb : okC b = true) : (C8.add a b).wr = C8.add a b := by
  obtain ⟨a0, a1, a2, a3, a4, a5, a6, a7⟩ := okC_bd ha
  obtain ⟨b0, b1, b2, b3, b4, b5, b6, b7⟩ := okC_bd hb
  apply C8.wr_of_bd <;> simp only [C8.add] <;> omega

end Go.Proofs.YthojdoiffkdikaaGreatDoor
end
section -- a part
namespace Go.Proofs.YthojdoiffkdikaaGreatDoor
open Go.RowKit
theorem outMp_8 (a b : C8) : outMp a b 8 = [a.c0 * b.c0, a.c0 * b.c1 + a.c1 * b.c0, a.c0 * b.c2 + a.c1 * b.c1 + a.c2 * b.c0, a.c0 * b.c3 + a.c1 * b.c2 + a.c2 * b.c1 + a.c3 * b.c0, a.c0 * b.c4 + a.c1 * b.c3 + a.c2 * b.c2 + a.c3 * b.c1 + a.c4 * b.c0, a.c0 * b.c5 + a.c1 * b.c4 + a.c2 * b.c3 + a.c3 * b.c2 + a.c4 * b.c1 + a.c5 * b.c0, a.c0 * b.c6 + a.c1 * b.c5 + a.c2 * b.c4 + a.c3 * b.c3 + a.c4 * b.c2 + a.c5 * b.c1 + a.c6 * b.c0, a.c0 * b.c7 + a.c1 * b.c6 + a.c2 * b.c5 + a.c3 * b.c4 + a.c4 * b.c3 + a.c5 * b.c2 + a.c6 * b.c1 + a.c7 * b.c0, a.c1 * b.c7 + a.c2 * b.c6 + a.c3 * b.c5 + a.c4 * b.c4 + a.c5 * b.c3 + a.c6 * b.c2 + a.c7 * b.c1, a.c2 * b.c7 + a.c3 * b.c6 + a.c4 * b.c5 + a.c5 * b.c4 + a.c6 * b.c3 + a.c7 * b.c2, a.c3 * b.c7 + a.c4 * b.c6 + a.c5 * b.c5 + a.c6 * b.c4 + a.c7 * b.c3, a.c4 * b.c7 + a.c5 * b.c6 + a.c6 * b.c5 + a.c7 * b.c4, a.c5 * b.c7 + a.c6 * b.c6 + a.c7 * b.c5, a.c6 * b.c7 + a.c7 * b.c6, a.c7 * b.c7] := by
  simp [outMp, zeros, inMp, stepMp, gt, C8.g, C8.l]
theorem C8.red_mul (a b : C8) : C8.red (outM a b 8) = (C8.mul a b).wr := by
  rw [outM_map, C8.red_map, outMp_8, C8.mul_eq]
  apply C8.ext' <;> simp only [C8.wr] <;> refine congrArg wrap64 ?_
  all_goals
    simp [C8.of, redLp, stepRp, gt]
    try omega
theorem mirMp_8 (a : C8) : mirMp a 8 = [a.c0, 0, 0, 0, 0, 0, 0, 0, 0, 0, 0, 0, 0, 0, 0, 0, 0, a.c7, a.c6, a.c5, a.c4, a.c3, a.c2, a.c1, 0] := by
  simp [mirMp, zeros, gt, C8.g, C8.l]
theorem C8.red_mir (a : C8) : C8.red (mirM a 8) = a.mir.wr := by
  rw [mirM_map, C8.red_map, mirMp_8]
  apply C8.ext' <;> simp only [C8.wr, C8.mir] <;> refine congrArg wrap64 ?_
  all_goals
    simp [C8.of, redLp, stepRp, gt]
    try omega
end Go.Proofs.YthojdoiffkdikaaGreatDoor
end
section -- a part
namespace Go.Proofs.YthojdoiffkdikaaGreatDoor
open Go.RowKit









set_option maxRecDepth 100000 in
theorem cplus_any (a b : C8) (w : World) :
    Calls Tryz.prog 107 #[cv a, cv b] w fun e w' => e = .returned (cv (C8.add a b).wr) ∧ Below w.heap.size w w' := by
  go_enter Tryz.func107, Tryz.ntmps107
  go_wp2
  go_loopw [9] (fun s wr => ∃ k : Nat, k ≤ 8 ∧ s = .int .i64 k ∧ wr = ((w.alloc (.cells (row (C8.addTo a b k)) 59)).alloc (.cells (row b) 59)).alloc (.cells (row C8.zero) 59)) (fun s _ => 8 - (intOf s).toNat)
  case atStart => exact ⟨0, by omega, rfl, rfl⟩
  case round =>
    obtain ⟨k, hk, rfl, rfl⟩ := hrel
    by_cases hltk : k < 8
    · have ixb := ix8 b k hltk
      have r1 := row_g (C8.addTo a b k) k hltk
      go_wp2
      go_roundw
      case rel => exact ⟨k + 1, by omega, by go_num, rfl⟩
      case measure => simp [intOf]; omega
    · obtain rfl : k = 8 := by omega
      go_wp2
      go_returns
      exact ⟨by rw [C8.addTo_8], by repeat' (first | (with_reducible exact Below.refl _ _) | (with_reducible assumption) | (with_reducible refine Below.alloc ?_ ?_ _) | (with_reducible refine below_more ?_ ?_ _ _) | (with_reducible refine below_rd ?_ ?_ _ _) | (with_reducible refine Below.drew ?_) | (with_reducible refine Below.setCell ?_ ?_ _) | go_size)⟩

end Go.Proofs.YthojdoiffkdikaaGreatDoor
end
section -- a part
namespace Go.Proofs.YthojdoiffkdikaaGreatDoor
open Go.RowKit

/-! Products. -/
def tmOk (a b : C8) : Bool := okC a && okC b && okC (C8.mul a b)




end Go.Proofs.YthojdoiffkdikaaGreatDoor
end
section -- a part
namespace Go.Proofs.YthojdoiffkdikaaGreatDoor
open Go.RowKit

/-! Turned points. -/
def tuOk (a : C8) (n : Int) : Bool := okC a && inB n 0 23 && okC (a.turn n.toNat)
theorem tuOk_yes {a : C8} {n : Int} (h : tuOk a n = true) : okC a = true ∧ inB n 0 23 = true ∧ okC (a.turn n.toNat) = true ∧ ∃ k : Nat, n = k ∧ k < 24 := by
  simp only [tuOk, Bool.and_eq_true] at h
  obtain ⟨⟨h1, h2⟩, h3⟩ := h
  have := inB_iff.1 h2
  exact ⟨h1, h2, h3, n.toNat, by omega, by omega⟩





/-! Mirrored points, sums. -/
def miOk (a : C8) : Bool := okC a && okC a.mir
def adOk (a b : C8) : Bool := okC a && okC b && okC (C8.add a b)









/-! Roots; whole points. -/


/-- A whole point. -/
def C8.gs (x y : Int) : C8 := ⟨x, 0, 0, 0, 0, 0, y, 0⟩
theorem gs_upd (x y : Int) : ((C8.zero.upd 0 x).upd 6 y) = C8.gs x y := by apply C8.ext' <;> simp [C8.upd, C8.gs, C8.zero]




theorem l2Gauss_any (x y : Int) (w : World) :
    Calls Tryz.prog 97 #[.int .i64 x, .int .i64 y] w fun e w' => e = .returned (cv (C8.gs x y)) ∧ Below w.heap.size w w' := by
  go_enter Tryz.func97, Tryz.ntmps97
  go_wp2
  all_goals (try go_region)
  all_goals (try go_wp2)
  all_goals go_returns
  all_goals exact ⟨by rw [gs_upd], by repeat' (first | (with_reducible exact Below.refl _ _) | (with_reducible assumption) | (with_reducible refine Below.alloc ?_ ?_ _) | (with_reducible refine below_more ?_ ?_ _ _) | (with_reducible refine below_rd ?_ ?_ _ _) | (with_reducible refine Below.drew ?_) | (with_reducible refine Below.setCell ?_ ?_ _) | go_size)⟩



end Go.Proofs.YthojdoiffkdikaaGreatDoor
end
section -- a part
namespace Go.Proofs.YthojdoiffkdikaaGreatDoor
open Go.RowKit

def C8.tmR (a b : C8) : C8 := if tmOk a b = true then C8.mul a b else C8.zero
def C8.tuR (a : C8) (n : Int) : C8 := if tuOk a n = true then a.turn n.toNat else C8.zero
def C8.miR (a : C8) : C8 := if miOk a = true then a.mir else C8.zero
def C8.adR (a b : C8) : C8 := if adOk a b = true then C8.add a b else C8.zero
def C8.gsR (x y : Int) : C8 := if okC (C8.gs x y) = true then C8.gs x y else C8.zero
def C8.rtR (n : Int) : C8 := if inB n 0 23 = true then C8.rt n.toNat else C8.zero

def eqC (a b : C8) : Bool := decide (a.c0 = b.c0) && decide (a.c1 = b.c1) && decide (a.c2 = b.c2) && decide (a.c3 = b.c3) && decide (a.c4 = b.c4) && decide (a.c5 = b.c5) && decide (a.c6 = b.c6) && decide (a.c7 = b.c7)
theorem eqC_iff {a b : C8} : eqC a b = true ↔ a = b := by
  constructor
  · intro h
    simp only [eqC, Bool.and_eq_true, decide_eq_true_eq] at h
    obtain ⟨⟨⟨⟨⟨⟨⟨h0, h1⟩, h2⟩, h3⟩, h4⟩, h5⟩, h6⟩, h7⟩ := h
    exact C8.ext' h0 h1 h2 h3 h4 h5 h6 h7
  · rintro rfl; simp [eqC]
@[simp, go_sem] theorem eqC_self (a : C8) : eqC a a = true := eqC_iff.2 rfl

theorem specCycRoot_any (n : Int) (w : World) :
    Calls Tryz.prog 96 #[.int .i64 n] w fun e w' => e = .returned (.tuple #[cv (C8.rtR n), .bool (inB n 0 23)]) ∧ Below w.heap.size w w' := by
  rcases Bool.eq_false_or_eq_true (inB n 0 23) with h | h
  · rw [h, show C8.rtR n = C8.rt n.toNat by simp [C8.rtR, h]]
    obtain ⟨k, rfl, hk⟩ : ∃ k : Nat, n = k ∧ k < 24 := ⟨n.toNat, by have := inB_iff.1 h; omega, by have := inB_iff.1 h; omega⟩
    exact specRoot_yes k hk w
  · rw [h, show C8.rtR n = C8.zero by simp [C8.rtR, h]]; exact specRoot_no n h w
end Go.Proofs.YthojdoiffkdikaaGreatDoor
end
