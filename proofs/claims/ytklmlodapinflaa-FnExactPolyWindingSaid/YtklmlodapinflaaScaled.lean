/- Multiples of points and of rows. -/
import Derived.Test.YtklmlodapinflaaTransP
import Derived.Test.YtklmlodapinflaaRowF
namespace Go.Proofs.Ytklmlodapinflaa
open Go.RowKit

def C8.sclTo (a : C8) (n : Int) (k : Nat) : C8 := ⟨if 0 < k then wrap64 (a.c0 * n) else a.c0, if 1 < k then wrap64 (a.c1 * n) else a.c1, if 2 < k then wrap64 (a.c2 * n) else a.c2, if 3 < k then wrap64 (a.c3 * n) else a.c3, if 4 < k then wrap64 (a.c4 * n) else a.c4, if 5 < k then wrap64 (a.c5 * n) else a.c5, if 6 < k then wrap64 (a.c6 * n) else a.c6, if 7 < k then wrap64 (a.c7 * n) else a.c7⟩
theorem lt8 {k : Nat} (h : k < 8) : k = 0 ∨ k = 1 ∨ k = 2 ∨ k = 3 ∨ k = 4 ∨ k = 5 ∨ k = 6 ∨ k = 7 := by omega
theorem C8.sclTo_0 (a : C8) (n : Int) : a.sclTo n 0 = a := rfl
theorem C8.sclTo_g (a : C8) (n : Int) {k : Nat} (h : k < 8) : (a.sclTo n k).g k = a.g k := by
  rcases lt8 h with rfl | rfl | rfl | rfl | rfl | rfl | rfl | rfl <;> rfl
theorem C8.sclTo_upd (a : C8) (n : Int) {k : Nat} (h : k < 8) : (a.sclTo n k).upd k (wrap64 (a.g k * n)) = a.sclTo n (k + 1) := by
  rcases lt8 h with rfl | rfl | rfl | rfl | rfl | rfl | rfl | rfl <;> rfl
theorem mul_lim {x n : Int} (hx : -1000000 ≤ x ∧ x ≤ 1000000) (hn : -1000000 ≤ n ∧ n ≤ 1000000) : wrap64 (x * n) = n * x := by
  have := prod_bd hx hn
  rw [wrap_in (by omega) (by omega), Int.mul_comm]
theorem C8.sclTo_8 {a : C8} {n : Int} (ha : okC a = true) (hn : -1000000 ≤ n ∧ n ≤ 1000000) : a.sclTo n 8 = C8.scl n a := by
  obtain ⟨a0, a1, a2, a3, a4, a5, a6, a7⟩ := okC_bd ha
  apply C8.ext'
  · exact mul_lim a0 hn
  · exact mul_lim a1 hn
  · exact mul_lim a2 hn
  · exact mul_lim a3 hn
  · exact mul_lim a4 hn
  · exact mul_lim a5 hn
  · exact mul_lim a6 hn
  · exact mul_lim a7 hn
set_option maxRecDepth 100000 in
theorem cscaled_any (a : C8) (n : Int) (w : World) :
    Calls Try.prog 120 #[cv a, .int .i64 n] w fun e w' => e = .returned (cv (a.sclTo n 8)) ∧ Below w.heap.size w w' := by
  go_enter Try.func120, Try.ntmps120
  go_wp2
  go_loopw [6] (fun s wr => ∃ k : Nat, k ≤ 8 ∧ s = .int .i64 k ∧ wr = (w.alloc (.cells (row (a.sclTo n k)) 25)).alloc (.cells (row C8.zero) 25)) (fun s _ => 8 - (intOf s).toNat)
  case atStart => exact ⟨0, by omega, rfl, rfl⟩
  case round =>
    obtain ⟨k, hk, rfl, rfl⟩ := hrel
    by_cases hlt : k < 8
    · have r1 := row_g (a.sclTo n k) k hlt
      rw [C8.sclTo_g a n hlt] at r1
      have HU := Lib.hid (C8.sclTo_upd a n hlt)
      go_wp2
      go_roundw
      case rel => exact ⟨k + 1, by omega, by go_num, by rw [← HU.out]⟩
      case measure => simp [intOf]; omega
    · obtain rfl : k = 8 := by omega
      go_wp2
      go_returns
      exact ⟨rfl, by repeat' (first | (with_reducible exact Below.refl _ _) | (with_reducible assumption) | (with_reducible refine Below.alloc ?_ ?_ _) | (with_reducible refine below_more ?_ ?_ _ _) | (with_reducible refine below_rd ?_ ?_ _ _) | (with_reducible refine Below.drew ?_) | (with_reducible refine Below.setCell ?_ ?_ _) | go_size)⟩
def scOk (n : Int) (a : C8) : Bool := okC a && inB n (-1000000) 1000000 && okC (C8.scl n a)
def C8.scR (n : Int) (a : C8) : C8 := if scOk n a = true then C8.scl n a else C8.zero
/-- What scaled gives. -/
def ScalePost (w : World) (n : Int) (xs : List C8) (e : Ending) (w' : World) : Prop := ∃ v ok zs, e = .returned (.tuple #[v, .bool ok]) ∧ (ok = true → zs = xs.map (C8.scl n)) ∧ zs.length ≤ xs.length ∧ OwnsP w' w.heap.size v zs ∧ Below w.heap.size w w'
/-- The first multiples. -/
def sclL (n : Int) (xs : List C8) (k : Nat) : List C8 := (xs.take k).map (C8.scl n)
theorem map_take_succ (f : C8 → C8) (xs : List C8) (k : Nat) (h : k < xs.length) : (xs.take (k + 1)).map f = (xs.take k).map f ++ [f (xs.getD k C8.zero)] := by
  rw [List.take_succ_eq_append_getElem h, List.map_append, List.getD_eq_getElem?_getD, List.getElem?_eq_getElem h]; rfl

theorem list_getD {xs ys : List C8} (hl : xs.length = ys.length) (h : ∀ i, i < xs.length → xs.getD i C8.zero = ys.getD i C8.zero) : xs = ys := by
  apply List.ext_getElem? ; intro i
  by_cases hi : i < xs.length
  · have := h i hi
    rw [List.getD_eq_getElem?_getD, List.getD_eq_getElem?_getD, List.getElem?_eq_getElem hi, List.getElem?_eq_getElem (by omega)] at this
    rw [List.getElem?_eq_getElem hi, List.getElem?_eq_getElem (by omega)]
    exact congrArg some this
  · rw [List.getElem?_eq_none (by omega), List.getElem?_eq_none (by omega)]
theorem map_range_get (f : Nat → C8) (n i : Nat) (h : i < n) : ((List.range n).map f).getD i C8.zero = f i := by
  rw [List.getD_eq_getElem?_getD, List.getElem?_map, List.getElem?_range h]; rfl
theorem map_get (f : C8 → C8) (xs : List C8) (i : Nat) (h : i < xs.length) : (xs.map f).getD i C8.zero = f (xs.getD i C8.zero) := by
  rw [List.getD_eq_getElem?_getD, List.getElem?_map, List.getElem?_eq_getElem h, List.getD_eq_getElem?_getD, List.getElem?_eq_getElem h]; rfl
theorem trOk_row {d : Int} {xs : List C8} (h : trOk d xs = true) : rvOk xs = true := by
  simp only [trOk, Bool.and_eq_true] at h; exact h.1
theorem trR_yes {d : Int} {xs : List C8} (h : trOk d xs = true) : (trR d xs).length = xs.length ∧ ∀ j, j < xs.length → (trR d xs).getD j C8.zero = sumP (trF d xs j) xs.length := by
  rw [trR, if_pos h]
  exact ⟨trP_len _ _ _, fun j hj => map_range_get _ _ _ hj⟩
theorem tr_back {xs : List C8} (h : trOk (-1) xs = true) (h2 : trOk 1 (trR (-1) xs) = true) : trR 1 (trR (-1) xs) = xs.map (C8.scl xs.length) := by
  obtain ⟨⟨a, b, c⟩, -⟩ := rvOk_get (trOk_row h)
  obtain ⟨l1, g1⟩ := trR_yes h
  obtain ⟨l2, g2⟩ := trR_yes h2
  refine list_getD (by rw [l2, l1, List.length_map]) fun i hi => ?_
  rw [l2, l1] at hi
  rw [g2 i (by omega), map_get _ _ _ hi]
  exact trF_back l1 a b c g1 i hi
theorem tr_forth {xs : List C8} (h : trOk 1 xs = true) (h2 : trOk (-1) (trR 1 xs) = true) : trR (-1) (trR 1 xs) = xs.map (C8.scl xs.length) := by
  obtain ⟨⟨a, b, c⟩, -⟩ := rvOk_get (trOk_row h)
  obtain ⟨l1, g1⟩ := trR_yes h
  obtain ⟨l2, g2⟩ := trR_yes h2
  refine list_getD (by rw [l2, l1, List.length_map]) fun i hi => ?_
  rw [l2, l1] at hi
  rw [g2 i (by omega), map_get _ _ _ hi]
  exact trF_forth l1 a b c g1 i hi
end Go.Proofs.Ytklmlodapinflaa
