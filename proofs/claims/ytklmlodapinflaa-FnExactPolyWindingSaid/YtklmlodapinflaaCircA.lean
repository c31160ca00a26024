/- Circular products of rows: plain words; the item of the program's sums. -/
import Derived.Test.YtklmlodapinflaaTransB
namespace Go.Proofs.Ytklmlodapinflaa
open Go.RowKit
attribute [local go_sem ↓] Go.wp_at_zero Go.wp_at_succ

/-- The items of a sum of a circular product, and whether they are told. -/
def rcI (n k i : Nat) : Nat := (k + n - i) % n
def rcF (xs ys : List C8) (k : Nat) : Nat → C8 := fun i => C8.tmR (xs.getD i C8.zero) (ys.getD (rcI xs.length k i) C8.zero)
def rcU (xs ys : List C8) (k : Nat) : Nat → Bool
  | 0 => true
  | i + 1 => rcU xs ys k i && tmOk (xs.getD i C8.zero) (ys.getD (rcI xs.length k i) C8.zero)
theorem rcU_no {xs ys : List C8} {k i : Nat} (h : rcU xs ys k i = false) : ∀ n, i ≤ n → rcU xs ys k n = false
  | 0, hn => by obtain rfl : i = 0 := by omega
                exact h
  | n + 1, hn => by
    by_cases e : i = n + 1
    · subst e; exact h
    · show (rcU xs ys k n && _) = false
      rw [rcU_no h n (by omega)]; rfl
def rcG (xs ys : List C8) : Nat → Bool
  | 0 => true
  | k + 1 => rcG xs ys k && (sumV (rcF xs ys k) xs.length && rcU xs ys k xs.length)
theorem rcG_no {xs ys : List C8} {k : Nat} (h : rcG xs ys k = false) : ∀ n, k ≤ n → rcG xs ys n = false
  | 0, hn => by obtain rfl : k = 0 := by omega
                exact h
  | n + 1, hn => by
    by_cases e : k = n + 1
    · subst e; exact h
    · show (rcG xs ys n && _) = false
      rw [rcG_no h n (by omega)]; rfl
def rcP (xs ys : List C8) (m : Nat) : List C8 := (List.range m).map fun k => sumP (rcF xs ys k) xs.length
theorem rcP_succ (xs ys : List C8) (j : Nat) : rcP xs ys (j + 1) = rcP xs ys j ++ [sumP (rcF xs ys j) xs.length] := by simp [rcP, List.range_succ]
theorem rcP_len (xs ys : List C8) (j : Nat) : (rcP xs ys j).length = j := by simp [rcP]
def rcH (xs ys : List C8) : List C8 := if rcG xs ys xs.length = true then rcP xs ys xs.length else []
def rcOk (xs ys : List C8) : Bool := twOk xs ys && rcG xs ys xs.length
def rcR (xs ys : List C8) : List C8 := if rcOk xs ys = true then rcP xs ys xs.length else []
theorem tmR_ok (a b : C8) : okC (C8.tmR a b) = true := by
  unfold C8.tmR
  split
  · rename_i h; simp only [tmOk, Bool.and_eq_true] at h; exact h.2
  · decide
theorem rcF_lim (xs ys : List C8) (k i : Nat) : C8.lim 1000000000 (rcF xs ys k i) := C8.lim_mono (C8.lim_ok (tmR_ok _ _)) (by omega)
theorem rcI_lt {n k i : Nat} (hk : k < n) : rcI n k i < n := Nat.mod_lt _ (by omega)
theorem rcI_int {n k i : Nat} (hi : i < n) : ((k : Int) - (i : Int) + (n : Int)).tmod n = (rcI n k i : Int) := by
  rw [Int.tmod_eq_emod_of_nonneg (by omega)]
  rw [show (k : Int) - (i : Int) + (n : Int) = ((k + n - i : Nat) : Int) by omega]
  exact (Int.natCast_emod _ _).symm

theorem set_grown {w w2 : World} {g : Nat} {v u : Value} {T : TypeId} (h : w.heap[g]? = some (.cells #[v] T (0, 0))) (hb : Below w.heap.size (w.setCell ⟨g, 0, none⟩ u) w2) : w.grownBy w2 (some g) ∧ w2.heap[g]? = some (.cells #[u] T (0, 0)) := by
  have hlt := lt_of_block h
  have hs : (w.setCell ⟨g, 0, none⟩ u).heap.size = w.heap.size := by simp [World.setCell]
  refine ⟨⟨hb.os, hb.tape, hb.output, by have := hb.size; omega, fun k hk hne => ?_⟩, (hb.block g hlt).trans (one_setCell h)⟩
  exact (hb.block k hk).trans (Below.heap_setCell w ⟨g, 0, none⟩ u k (fun e => hne (by rw [e])))
end Go.Proofs.Ytklmlodapinflaa
