/- Circular products of rows: plain words; the item of the program's sums. -/
import Derived.Test.YtelgbmebjickeaaTransB
namespace Go.Proofs.Ytelgbmebjickeaa
open Go.RowKit
attribute [local go_sem ↓] Go.wp_at_zero Go.wp_at_succ

/-- The items of a sum of a circular product, and whether they are told. -/
def rcI (n k i : Nat) : Nat := (k + n - i) % n
def rcF (xs ys : List C8) (k : Nat) : Nat → C8 := fun i => C8.tmR (xs.getD i C8.zero) (ys.getD (rcI xs.length k i) C8.zero)
def rcU (xs ys : List C8) (k : Nat) : Nat → Bool
  | 0 => true
  | i + 1 => rcU xs ys k i && tmOk (xs.getD i C8.zero) (ys.getD (rcI xs.length k i) C8.zero)
theorem rcU_no {xs ys : List C8} {k i : Nat} (h : rcU xs ys k i = false) : ∀ n, i ≤ n → rcU xs ys k n = false
  | 0, hn => by obtain rfl : i = 0 := by omega
                exact h
  | n + 1, hn => by
    by_cases e : i = n + 1
    · subst e; exact h
    · show (rcU xs ys k n && _) = false
      rw [rcU_no h n (by omega)]; rfl
def rcG (xs ys : List C8) : Nat → Bool
  | 0 => true
  | k + 1 => rcG xs ys k && (sumV (rcF xs ys k) xs.length && rcU xs ys k xs.length)
theorem rcG_no {xs ys : List C8} {k : Nat} (h : rcG xs ys k = false) : ∀ n, k ≤ n → rcG xs ys n = false
  | 0, hn => by obtain rfl : k = 0 := by omega
                exact h
  | n + 1, hn => by
    by_cases e : k = n + 1
    · subst e; exact h
    · show (rcG xs ys n && _) = false
      rw [rcG_no h n (by omega)]; rfl
def rcP (xs ys : List C8) (m : Nat) : List C8 := (List.range m).map fun k => sumP (rcF xs ys k) xs.length
theorem rcP_succ (xs ys : List C8) (j : Nat) : rcP xs ys (j + 1) = rcP xs ys j ++ [sumP (rcF xs ys j) xs.length] := by simp [rcP, List.range_succ]
theorem rcP_len (xs ys : List C8) (j : Nat) : (rcP xs ys j).length = j := by simp [rcP]
def rcH (xs ys : List C8) : List C8 := if rcG xs ys xs.length = true then rcP xs ys xs.length else []
def rcOk (xs ys : List C8) : Bool := twOk xs ys && rcG xs ys xs.length
def rcR (xs ys : List C8) : List C8 := if rcOk xs ys = true then rcP xs ys xs.length else []
theorem tmR_ok (a b : C8) : okC (C8.tmR a b) = true := by
  unfold C8.tmR
  split
  · rename_i h; simp only [tmOk, Bool.and_eq_true] at h; exact h.2
  · decide
theorem rcF_lim (xs ys : List C8) (k i : Nat) : C8.lim 1000000000 (rcF xs ys k i) := C8.lim_mono (C8.lim_ok (tmR_ok _ _)) (by omega)
theorem rcI_lt {n k i : Nat} (hk : k < n) : rcI n k i < n := Nat.mod_lt _ (by omega)
theorem rcI_int {n k i : Nat} (hi : i < n) : ((k : Int) - (i : Int) + (n : Int)).tmod n = (rcI n k i : Int) := by
  rw [Int.tmod_eq_emod_of_nonneg (by omega)]
  rw [show (k : Int) - (i : Int) + (n : Int) = ((k + n - i : Nat) : Int) by omega]
  exact (Int.natCast_emod _ _).symm

theorem set_grown {w w2 : World} {g : Nat} {v u : Value} {T : TypeId} (h : w.heap[g]? = some (.cells #[v] T (0, 0))) (hb : Below w.heap.size (w.setCell ⟨g, 0, none⟩ u) w2) : w.grownBy w2 (some g) ∧ w2.heap[g]? = some (.cells #[u] T (0, 0)) := by
  have hlt := lt_of_block h
  have hs : (w.setCell ⟨g, 0, none⟩ u).heap.size = w.heap.size := by simp [World.setCell]
  refine ⟨⟨hb.os, hb.tape, hb.output, by have := hb.size; omega, fun k hk hne => ?_⟩, (hb.block g hlt).trans (one_setCell h)⟩
  exact (hb.block k hk).trans (Below.heap_setCell w ⟨g, 0, none⟩ u k (fun e => hne (by rw [e])))
set_option maxRecDepth 100000 in
set_option maxHeartbeats 1000000 in
theorem circ1_any (B1 B2 B3 B4 B5 b b' cap cap' n k i : Nat) (x y : C8) (f : Bool) (w : World) (hn2 : n ≤ 24) (hi : i < n) (hk : k < n)
    (l1 : B1 < w.heap.size) (l2 : B2 < w.heap.size) (l3 : B3 < w.heap.size) (l4 : B4 < w.heap.size) (l5 : B5 < w.heap.size) (lb : b < w.heap.size) (lb' : b' < w.heap.size)
    (c1 : w.cell? ⟨B1, 0, none⟩ = some (.slice (some ⟨b, 0, none⟩) n cap)) (c2 : w.cell? ⟨B2, 0, none⟩ = some (.slice (some ⟨b', 0, none⟩) n cap')) (c3 : w.cell? ⟨B3, 0, none⟩ = some (.int .i64 k)) (c4 : w.cell? ⟨B4, 0, none⟩ = some (.int .i64 n))
    (c5 : w.heap[B5]? = some (.cells #[.bool f] 4 (0, 0)))
    (hp : PtAt w b (i * 8) x) (hp' : PtAt w b' (rcI n k i * 8) y) :
    Calls Try.prog 63 #[.int .i64 i, .pointer (some ⟨B1, 0, none⟩), .pointer (some ⟨B2, 0, none⟩), .pointer (some ⟨B3, 0, none⟩), .pointer (some ⟨B4, 0, none⟩), .pointer (some ⟨B5, 0, none⟩)] w fun e w' => e = .returned (cv (C8.tmR x y)) ∧ w.grownBy w' (some B5) ∧ w'.heap[B5]? = some (.cells #[.bool (f && tmOk x y)] 4 (0, 0)) := by
  have H5 := Lib.hid c5
  have d5 := cell_of_one c5
  have e5 := free_of_one c5
  have f1 : IntKind.i64.wrap ((k : Int) - (i : Int)) = (k : Int) - (i : Int) := IntWalk.i64_in _ (by omega)
  have f2 : IntKind.i64.wrap ((k : Int) - (i : Int) + (n : Int)) = (k : Int) - (i : Int) + (n : Int) := IntWalk.i64_in _ (by omega)
  have f3 := rcI_int (k := k) hi
  have hlt := rcI_lt (n := n) (i := i) hk
  obtain ⟨r, hr⟩ : ∃ r, rcI n k i = r := ⟨_, rfl⟩
  rw [hr] at f3 hlt hp'
  clear hr c5
  have f4 : IntKind.i64.wrap (r : Int) = (r : Int) := IntWalk.i64_in _ (by omega)
  have i0 : (0 : Int) ≤ (i : Int) := by omega
  have i1 : (i : Int) < (n : Int) := by omega
  have i2 : (0 : Int) ≤ (r : Int) := by omega
  have i3 : (r : Int) < (n : Int) := by omega
  have hn3 : ¬ n = 0 := by omega
  have hn4 : ¬ (n : Int) = 0 := by omega
  obtain ⟨x0, x1, x2, x3, x4, x5, x6, x7⟩ := hp.cells
  obtain ⟨y0, y1, y2, y3, y4, y5, y6, y7⟩ := hp'.cells
  clear hp hp' hk hi hlt
  go_enter Try.func63, Try.ntmps63
  go_wp2_with fail
  go_region_held3 (fun w' => w'.cell? ⟨B1, 0, none⟩ = some (.slice (some ⟨b, 0, none⟩) n cap) ∧ w'.cell? ⟨B2, 0, none⟩ = some (.slice (some ⟨b', 0, none⟩) n cap') ∧ w'.cell? ⟨B3, 0, none⟩ = some (.int .i64 k) ∧ w'.cell? ⟨B4, 0, none⟩ = some (.int .i64 n) ∧ (w'.cell? ⟨b, i * 8, none⟩ = some (.int .i64 x.c0) ∧ w'.cell? ⟨b, i * 8 + 1, none⟩ = some (.int .i64 x.c1) ∧ w'.cell? ⟨b, i * 8 + 2, none⟩ = some (.int .i64 x.c2) ∧ w'.cell? ⟨b, i * 8 + 3, none⟩ = some (.int .i64 x.c3) ∧ w'.cell? ⟨b, i * 8 + 4, none⟩ = some (.int .i64 x.c4) ∧ w'.cell? ⟨b, i * 8 + 5, none⟩ = some (.int .i64 x.c5) ∧ w'.cell? ⟨b, i * 8 + 6, none⟩ = some (.int .i64 x.c6) ∧ w'.cell? ⟨b, i * 8 + 7, none⟩ = some (.int .i64 x.c7)) ∧ (w'.cell? ⟨b', r * 8, none⟩ = some (.int .i64 y.c0) ∧ w'.cell? ⟨b', r * 8 + 1, none⟩ = some (.int .i64 y.c1) ∧ w'.cell? ⟨b', r * 8 + 2, none⟩ = some (.int .i64 y.c2) ∧ w'.cell? ⟨b', r * 8 + 3, none⟩ = some (.int .i64 y.c3) ∧ w'.cell? ⟨b', r * 8 + 4, none⟩ = some (.int .i64 y.c4) ∧ w'.cell? ⟨b', r * 8 + 5, none⟩ = some (.int .i64 y.c5) ∧ w'.cell? ⟨b', r * 8 + 6, none⟩ = some (.int .i64 y.c6) ∧ w'.cell? ⟨b', r * 8 + 7, none⟩ = some (.int .i64 y.c7))) (simp [go_sem, *])
    (first | (go_at_call 44; refine (cycTimes_any _ _ _).mono ?_; rintro e w' ⟨rfl, hb⟩; obtain ⟨os, d, rfl⟩ := more_of_below hb; clear hb))
  all_goals
    cases f
    all_goals
      go_wp2
      go_returns
      refine ⟨rfl, ?_⟩
      simp only [Bool.false_and, Bool.true_and]
      refine set_grown H5.out ?_
      repeat' (first | (with_reducible exact Below.refl _ _) | (with_reducible assumption) | (with_reducible refine Below.alloc ?_ ?_ _) | (with_reducible refine below_more ?_ ?_ _ _) | (with_reducible refine below_rd ?_ ?_ _ _) | (with_reducible refine Below.drew ?_) | (with_reducible refine Below.setCell ?_ ?_ _) | go_size)
end Go.Proofs.Ytelgbmebjickeaa
