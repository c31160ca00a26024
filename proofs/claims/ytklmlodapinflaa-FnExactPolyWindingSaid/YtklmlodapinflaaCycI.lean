/- One contract a public function, with open arguments; exact points compared. -/
import Derived.Test.YtklmlodapinflaaCycG
import Derived.Test.YtklmlodapinflaaCycH
namespace Go.Proofs.Ytklmlodapinflaa
open Go.RowKit

def C8.tmR (a b : C8) : C8 := if tmOk a b = true then C8.mul a b else C8.zero
def C8.tuR (a : C8) (n : Int) : C8 := if tuOk a n = true then a.turn n.toNat else C8.zero
def C8.miR (a : C8) : C8 := if miOk a = true then a.mir else C8.zero
def C8.adR (a b : C8) : C8 := if adOk a b = true then C8.add a b else C8.zero
def C8.gsR (x y : Int) : C8 := if okC (C8.gs x y) = true then C8.gs x y else C8.zero
def C8.rtR (n : Int) : C8 := if inB n 0 23 = true then C8.rt n.toNat else C8.zero

def eqC (a b : C8) : Bool := decide (a.c0 = b.c0) && decide (a.c1 = b.c1) && decide (a.c2 = b.c2) && decide (a.c3 = b.c3) && decide (a.c4 = b.c4) && decide (a.c5 = b.c5) && decide (a.c6 = b.c6) && decide (a.c7 = b.c7)
theorem eqC_iff {a b : C8} : eqC a b = true ↔ a = b := by
  constructor
  · intro h
    simp only [eqC, Bool.and_eq_true, decide_eq_true_eq] at h
    obtain ⟨⟨⟨⟨⟨⟨⟨h0, h1⟩, h2⟩, h3⟩, h4⟩, h5⟩, h6⟩, h7⟩ := h
    exact C8.ext' h0 h1 h2 h3 h4 h5 h6 h7
  · rintro rfl; simp [eqC]
@[simp, go_sem] theorem eqC_self (a : C8) : eqC a a = true := eqC_iff.2 rfl

theorem cycTimes_any (a b : C8) (w : World) :
    Calls Try.prog 75 #[cv a, cv b] w fun e w' => e = .returned (.tuple #[cv (C8.tmR a b), .bool (tmOk a b)]) ∧ Below w.heap.size w w' := by
  rcases Bool.eq_false_or_eq_true (tmOk a b) with h | h
  · rw [h, show C8.tmR a b = C8.mul a b by simp [C8.tmR, h]]; exact cycTimes_yes a b w h
  · rw [h, show C8.tmR a b = C8.zero by simp [C8.tmR, h]]; exact cycTimes_no a b w h
theorem specCycTimes_any (a b : C8) (w : World) :
    Calls Try.prog 74 #[cv a, cv b] w fun e w' => e = .returned (.tuple #[cv (C8.tmR a b), .bool (tmOk a b)]) ∧ Below w.heap.size w w' := by
  rcases Bool.eq_false_or_eq_true (tmOk a b) with h | h
  · rw [h, show C8.tmR a b = C8.mul a b by simp [C8.tmR, h]]; exact specCycTimes_yes a b w h
  · rw [h, show C8.tmR a b = C8.zero by simp [C8.tmR, h]]; exact specCycTimes_no a b w h
theorem cycTurned_any (a : C8) (n : Int) (w : World) :
    Calls Try.prog 27 #[cv a, .int .i64 n] w fun e w' => e = .returned (.tuple #[cv (C8.tuR a n), .bool (tuOk a n)]) ∧ Below w.heap.size w w' := by
  rcases Bool.eq_false_or_eq_true (tuOk a n) with h | h
  · rw [h, show C8.tuR a n = a.turn n.toNat by simp [C8.tuR, h]]; exact cycTurned_yes a n w h
  · rw [h, show C8.tuR a n = C8.zero by simp [C8.tuR, h]]; exact cycTurned_no a n w h
theorem cycMirror_any (a : C8) (w : World) :
    Calls Try.prog 17 #[cv a] w fun e w' => e = .returned (.tuple #[cv (C8.miR a), .bool (miOk a)]) ∧ Below w.heap.size w w' := by
  rcases Bool.eq_false_or_eq_true (miOk a) with h | h
  · rw [h, show C8.miR a = a.mir by simp [C8.miR, h]]; exact cycMirror_yes a w h
  · rw [h, show C8.miR a = C8.zero by simp [C8.miR, h]]; exact cycMirror_no a w h
theorem specCycMirror_any (a : C8) (w : World) :
    Calls Try.prog 73 #[cv a] w fun e w' => e = .returned (.tuple #[cv (C8.miR a), .bool (miOk a)]) ∧ Below w.heap.size w w' := by
  rcases Bool.eq_false_or_eq_true (miOk a) with h | h
  · rw [h, show C8.miR a = a.mir by simp [C8.miR, h]]; exact specCycMirror_yes a w h
  · rw [h, show C8.miR a = C8.zero by simp [C8.miR, h]]; exact specCycMirror_no a w h
theorem specCycRoot_any (n : Int) (w : World) :
    Calls Try.prog 100 #[.int .i64 n] w fun e w' => e = .returned (.tuple #[cv (C8.rtR n), .bool (inB n 0 23)]) ∧ Below w.heap.size w w' := by
  rcases Bool.eq_false_or_eq_true (inB n 0 23) with h | h
  · rw [h, show C8.rtR n = C8.rt n.toNat by simp [C8.rtR, h]]
    obtain ⟨k, rfl, hk⟩ : ∃ k : Nat, n = k ∧ k < 24 := ⟨n.toNat, by have := inB_iff.1 h; omega, by have := inB_iff.1 h; omega⟩
    exact specRoot_yes k hk w
  · rw [h, show C8.rtR n = C8.zero by simp [C8.rtR, h]]; exact specRoot_no n h w
end Go.Proofs.Ytklmlodapinflaa
