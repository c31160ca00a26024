/- Exact points, plain arithmetic: the program's reductions give the products and the mirrored points. Contracts on exact points: the program's products, roots, turned and mirrored points, sums. The public functions on exact points, of the program and of the reference: both return the same. The public functions on exact points: turned, mirrored, sums, roots, whole points: of the program and of the reference. Printed by mkpub.py. One contract a public function, with open arguments; exact points compared. -/
import Derived.Test.YthojdoiffkdikaaGreatDoorCycP
import Derived.Test.YthojdoiffkdikaaGreatDoorCycD
import Derived.Test.YthojdoiffkdikaaGreatDoorCycQ
import Derived.StillTailTactics
import Derived.Deep.RegionHeld3
import Derived.Test.YthojdoiffkdikaaGreatDoorCycH
section -- a part
namespace Go.Proofs.YthojdoiffkdikaaGreatDoor
open Go.RowKit
theorem outMp_8 (a b : C8) : outMp a b 8 = [a.c0 * b.c0, a.c0 * b.c1 + a.c1 * b.c0, a.c0 * b.c2 + a.c1 * b.c1 + a.c2 * b.c0, a.c0 * b.c3 + a.c1 * b.c2 + a.c2 * b.c1 + a.c3 * b.c0, a.c0 * b.c4 + a.c1 * b.c3 + a.c2 * b.c2 + a.c3 * b.c1 + a.c4 * b.c0, a.c0 * b.c5 + a.c1 * b.c4 + a.c2 * b.c3 + a.c3 * b.c2 + a.c4 * b.c1 + a.c5 * b.c0, a.c0 * b.c6 + a.c1 * b.c5 + a.c2 * b.c4 + a.c3 * b.c3 + a.c4 * b.c2 + a.c5 * b.c1 + a.c6 * b.c0, a.c0 * b.c7 + a.c1 * b.c6 + a.c2 * b.c5 + a.c3 * b.c4 + a.c4 * b.c3 + a.c5 * b.c2 + a.c6 * b.c1 + a.c7 * b.c0, a.c1 * b.c7 + a.c2 * b.c6 + a.c3 * b.c5 + a.c4 * b.c4 + a.c5 * b.c3 + a.c6 * b.c2 + a.c7 * b.c1, a.c2 * b.c7 + a.c3 * b.c6 + a.c4 * b.c5 + a.c5 * b.c4 + a.c6 * b.c3 + a.c7 * b.c2, a.c3 * b.c7 + a.c4 * b.c6 + a.c5 * b.c5 + a.c6 * b.c4 + a.c7 * b.c3, a.c4 * b.c7 + a.c5 * b.c6 + a.c6 * b.c5 + a.c7 * b.c4, a.c5 * b.c7 + a.c6 * b.c6 + a.c7 * b.c5, a.c6 * b.c7 + a.c7 * b.c6, a.c7 * b.c7] := by
  simp [outMp, zeros, inMp, stepMp, gt, C8.g, C8.l]
theorem C8.red_mul (a b : C8) : C8.red (outM a b 8) = (C8.mul a b).wr := by
  rw [outM_map, C8.red_map, outMp_8, C8.mul_eq]
  apply C8.ext' <;> simp only [C8.wr] <;> refine congrArg wrap64 ?_
  all_goals
    simp [C8.of, redLp, stepRp, gt]
    try omega
theorem mirMp_8 (a : C8) : mirMp a 8 = [a.c0, 0, 0, 0, 0, 0, 0, 0, 0, 0, 0, 0, 0, 0, 0, 0, 0, a.c7, a.c6, a.c5, a.c4, a.c3, a.c2, a.c1, 0] := by
  simp [mirMp, zeros, gt, C8.g, C8.l]
theorem C8.red_mir (a : C8) : C8.red (mirM a 8) = a.mir.wr := by
  rw [mirM_map, C8.red_map, mirMp_8]
  apply C8.ext' <;> simp only [C8.wr, C8.mir] <;> refine congrArg wrap64 ?_
  all_goals
    simp [C8.of, redLp, stepRp, gt]
    try omega
end Go.Proofs.YthojdoiffkdikaaGreatDoor
end
section -- a part
namespace Go.Proofs.YthojdoiffkdikaaGreatDoor
open Go.RowKit









set_option maxRecDepth 100000 in
theorem cplus_any (a b : C8) (w : World) :
    Calls Tryz.prog 107 #[cv a, cv b] w fun e w' => e = .returned (cv (C8.add a b).wr) ∧ Below w.heap.size w w' := by
  go_enter Tryz.func107, Tryz.ntmps107
  go_wp2
  go_loopw [9] (fun s wr => ∃ k : Nat, k ≤ 8 ∧ s = .int .i64 k ∧ wr = ((w.alloc (.cells (row (C8.addTo a b k)) 59)).alloc (.cells (row b) 59)).alloc (.cells (row C8.zero) 59)) (fun s _ => 8 - (intOf s).toNat)
  case atStart => exact ⟨0, by omega, rfl, rfl⟩
  case round =>
    obtain ⟨k, hk, rfl, rfl⟩ := hrel
    by_cases hltk : k < 8
    · have ixb := ix8 b k hltk
      have r1 := row_g (C8.addTo a b k) k hltk
      go_wp2
      go_roundw
      case rel => exact ⟨k + 1, by omega, by go_num, rfl⟩
      case measure => simp [intOf]; omega
    · obtain rfl : k = 8 := by omega
      go_wp2
      go_returns
      exact ⟨by rw [C8.addTo_8], by repeat' (first | (with_reducible exact Below.refl _ _) | (with_reducible assumption) | (with_reducible refine Below.alloc ?_ ?_ _) | (with_reducible refine below_more ?_ ?_ _ _) | (with_reducible refine below_rd ?_ ?_ _ _) | (with_reducible refine Below.drew ?_) | (with_reducible refine Below.setCell ?_ ?_ _) | go_size)⟩

end Go.Proofs.YthojdoiffkdikaaGreatDoor
end
section -- a part
namespace Go.Proofs.YthojdoiffkdikaaGreatDoor
open Go.RowKit

/-! Products. -/
def tmOk (a b : C8) : Bool := okC a && okC b && okC (C8.mul a b)




end Go.Proofs.YthojdoiffkdikaaGreatDoor
end
section -- a part
namespace Go.Proofs.YthojdoiffkdikaaGreatDoor
open Go.RowKit

/-! Turned points. -/
def tuOk (a : C8) (n : Int) : Bool := okC a && inB n 0 23 && okC (a.turn n.toNat)
theorem tuOk_yes {a : C8} {n : Int} (h : tuOk a n = true) : okC a = true ∧ inB n 0 23 = true ∧ okC (a.turn n.toNat) = true ∧ ∃ k : Nat, n = k ∧ k < 24 := by
  simp only [tuOk, Bool.and_eq_true] at h
  obtain ⟨⟨h1, h2⟩, h3⟩ := h
  have := inB_iff.1 h2
  exact ⟨h1, h2, h3, n.toNat, by omega, by omega⟩





/-! Mirrored points, sums. -/
def miOk (a : C8) : Bool := okC a && okC a.mir
def adOk (a b : C8) : Bool := okC a && okC b && okC (C8.add a b)









/-! Roots; whole points. -/


/-- A whole point. -/
def C8.gs (x y : Int) : C8 := ⟨x, 0, 0, 0, 0, 0, y, 0⟩
theorem gs_upd (x y : Int) : ((C8.zero.upd 0 x).upd 6 y) = C8.gs x y := by apply C8.ext' <;> simp [C8.upd, C8.gs, C8.zero]




theorem l2Gauss_any (x y : Int) (w : World) :
    Calls Tryz.prog 97 #[.int .i64 x, .int .i64 y] w fun e w' => e = .returned (cv (C8.gs x y)) ∧ Below w.heap.size w w' := by
  go_enter Tryz.func97, Tryz.ntmps97
  go_wp2
  all_goals (try go_region)
  all_goals (try go_wp2)
  all_goals go_returns
  all_goals exact ⟨by rw [gs_upd], by repeat' (first | (with_reducible exact Below.refl _ _) | (with_reducible assumption) | (with_reducible refine Below.alloc ?_ ?_ _) | (with_reducible refine below_more ?_ ?_ _ _) | (with_reducible refine below_rd ?_ ?_ _ _) | (with_reducible refine Below.drew ?_) | (with_reducible refine Below.setCell ?_ ?_ _) | go_size)⟩



end Go.Proofs.YthojdoiffkdikaaGreatDoor
end
section -- a part
namespace Go.Proofs.YthojdoiffkdikaaGreatDoor
open Go.RowKit

def C8.tmR (a b : C8) : C8 := if tmOk a b = true then C8.mul a b else C8.zero
def C8.tuR (a : C8) (n : Int) : C8 := if tuOk a n = true then a.turn n.toNat else C8.zero
def C8.miR (a : C8) : C8 := if miOk a = true then a.mir else C8.zero
def C8.adR (a b : C8) : C8 := if adOk a b = true then C8.add a b else C8.zero
def C8.gsR (x y : Int) : C8 := if okC (C8.gs x y) = true then C8.gs x y else C8.zero
def C8.rtR (n : Int) : C8 := if inB n 0 23 = true then C8.rt n.toNat else C8.zero

def eqC (a b : C8) : Bool := decide (a.c0 = b.c0) && decide (a.c1 = b.c1) && decide (a.c2 = b.c2) && decide (a.c3 = b.c3) && decide (a.c4 = b.c4) && decide (a.c5 = b.c5) && decide (a.c6 = b.c6) && decide (a.c7 = b.c7)
theorem eqC_iff {a b : C8} : eqC a b = true ↔ a = b := by
  constructor
  · intro h
    simp only [eqC, Bool.and_eq_true, decide_eq_true_eq] at h
    obtain ⟨⟨⟨⟨⟨⟨⟨h0, h1⟩, h2⟩, h3⟩, h4⟩, h5⟩, h6⟩, h7⟩ := h
    exact C8.ext' h0 h1 h2 h3 h4 h5 h6 h7
  · rintro rfl; simp [eqC]
@[simp, go_sem] theorem eqC_self (a : C8) : eqC a a = true := eqC_iff.2 rfl

theorem specCycRoot_any (n : Int) (w : World) :
    Calls Tryz.prog 96 #[.int .i64 n] w fun e w' => e = .returned (.tuple #[cv (C8.rtR n), .bool (inB n 0 23)]) ∧ Below w.heap.size w w' := by
  rcases Bool.eq_false_or_eq_true (inB n 0 23) with h | h
  · rw [h, show C8.rtR n = C8.rt n.toNat by simp [C8.rtR, h]]
    obtain ⟨k, rfl, hk⟩ : ∃ k : Nat, n = k ∧ k < 24 := ⟨n.toNat, by have := inB_iff.1 h; omega, by have := inB_iff.1 h; omega⟩
    exact specRoot_yes k hk w
  · rw [h, show C8.rtR n = C8.zero by simp [C8.rtR, h]]; exact specRoot_no n h w
end Go.Proofs.YthojdoiffkdikaaGreatDoor
end
