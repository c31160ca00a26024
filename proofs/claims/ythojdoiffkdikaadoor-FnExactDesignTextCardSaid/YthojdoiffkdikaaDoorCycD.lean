/- Rows of points: RowValid, of the program and of the reference. Contracts on exact points: the reference's sum of a multiple, its step, and steps done so many times. Contracts on exact points: the reference's products and mirrored points. Contracts on exact points: the program's reduction of a list of coefficients. -/
import Derived.Test.YthojdoiffkdikaaDoorRowA
import Derived.Test.YthojdoiffkdikaaDoorCycA
import Derived.StillTailTactics
import Derived.Deep.RegionHeld3
import Derived.Laws.CopyOwn
section -- a part
namespace Go.Proofs.YthojdoiffkdikaaDoor
open Go.RowKit

/-- The length of a row. -/
def rwLen (n : Nat) : Bool := decide (1 ≤ n) && decide (24 % n = 0)
theorem rwLen_iff {n : Nat} : rwLen n = true ↔ 1 ≤ n ∧ 24 % n = 0 := by simp [rwLen]
theorem rwLen_le {n : Nat} (h : rwLen n = true) : 1 ≤ n ∧ n ≤ 24 := by
  obtain ⟨h1, h2⟩ := rwLen_iff.1 h
  refine ⟨h1, Classical.byContradiction fun h3 => ?_⟩
  rw [Nat.mod_eq_of_lt (by omega)] at h2; omega
/-- All points are valid. -/
def okAll (xs : List C8) : Bool := xs.all okC
def rvOk (xs : List C8) : Bool := rwLen xs.length && okAll xs
theorem okAll_iff {xs : List C8} : okAll xs = true ↔ ∀ i, i < xs.length → okC (xs.getD i C8.zero) = true := by
  unfold okAll
  rw [List.all_eq_true]
  constructor
  · intro h i hi
    apply h
    rw [List.getD_eq_getElem?_getD, List.getElem?_eq_getElem hi]; exact List.getElem_mem _
  · intro h x hx
    obtain ⟨i, hi, rfl⟩ := List.getElem_of_mem hx
    have := h i hi
    rw [List.getD_eq_getElem?_getD, List.getElem?_eq_getElem hi] at this
    exact this
theorem okAll_no {xs : List C8} {i : Nat} (hi : i < xs.length) (h : okC (xs.getD i C8.zero) = false) : okAll xs = false := by
  rcases Bool.eq_false_or_eq_true (okAll xs) with h1 | h1
  · rw [okAll_iff.1 h1 i hi] at h; cases h
  · exact h1


end Go.Proofs.YthojdoiffkdikaaDoor
end
section -- a part
namespace Go.Proofs.YthojdoiffkdikaaDoor
open Go.RowKit

theorem l2Sum_any (a : C8) (n : Int) (b : C8) (w : World) :
    Calls Tryd.prog 108 #[cv a, .int .i64 n, cv b] w fun e w' => e = .returned (cv (a.sumW n b)) ∧ Below w.heap.size w w' := by
  go_enter Tryd.func108, Tryd.ntmps108
  go_wp2
  go_loopw [7] (fun s wr => ∃ k : Nat, k ≤ 8 ∧ s = .int .i64 k ∧ ∃ os d, wr = more (((w.alloc (.cells (row (a.sumTo n b k)) 55)).alloc (.cells (row b) 55)).alloc (.cells (row C8.zero) 55)) os d) (fun s _ => 8 - (intOf s).toNat)
  case atStart => exact ⟨0, by omega, rfl, _, _, more_self _⟩
  case round =>
    obtain ⟨k, hk, rfl, os, d, rfl⟩ := hrel
    by_cases hlt : k < 8
    · have r1 := row_g (a.sumTo n b k) k hlt
      have r2 := row_g b k hlt
      go_wp2
      go_region
      all_goals
        go_wp2
        go_roundw
        case rel => exact ⟨k + 1, by omega, by go_num, _, _, rfl⟩
        case measure => simp [intOf]; omega
    · obtain rfl : k = 8 := by omega
      go_wp2
      go_returns
      exact ⟨by rw [C8.sumTo_8], by repeat' (first | (with_reducible exact Below.refl _ _) | (with_reducible assumption) | (with_reducible refine Below.alloc ?_ ?_ _) | (with_reducible refine below_more ?_ ?_ _ _) | (with_reducible refine below_rd ?_ ?_ _ _) | (with_reducible refine Below.drew ?_) | (with_reducible refine Below.setCell ?_ ?_ _) | go_size)⟩






end Go.Proofs.YthojdoiffkdikaaDoor
end
section -- a part
namespace Go.Proofs.YthojdoiffkdikaaDoor
open Go.RowKit


end Go.Proofs.YthojdoiffkdikaaDoor
end
section -- a part
namespace Go.Proofs.YthojdoiffkdikaaDoor
open Go.RowKit

theorem setRow_alloc_at (W : World) (c c' : Array Value) (t : TypeId) : (W.alloc (.cells c t)).setRow W.heap.size c' = W.alloc (.cells c' t) := by
  unfold World.setRow World.alloc
  congr 1
  apply Array.ext_getElem?
  intro k
  simp only [Array.getElem?_modify, Array.getElem?_push]
  by_cases hk : W.heap.size = k
  · subst hk; simp
  · simp only [hk, if_false]
    rw [if_neg (fun h => hk h.symm), if_neg (fun h => hk h.symm)]

/-- The first eight numbers of a row copied into a new array of eight. -/
theorem copy8 (Y : World) (b n : Nat) (q : List Int) (hn : 8 ≤ n) (hsrc : ∀ j, j < 8 → (Y.alloc (.cells (row C8.zero) 55)).cell? ⟨b, j, none⟩ = some (.int .i64 (gt q j))) :
    (Builtin.copy_ #[195, 195] 3 #[.slice (some ⟨Y.heap.size, 0, none⟩) 8 8, .slice (some ⟨b, 0, none⟩) n n]).run Tryd.prog (Y.alloc (.cells (row C8.zero) 55)) = .ok (.int .i64 8) (Y.alloc (.cells (row (C8.of q)) 55)) := by
  have hrow := run_copy_row (P := Tryd.prog) (Y.alloc (.cells (row C8.zero) 55)) 195 195 3 3 Y.heap.size 0 8 8 ⟨b, 0, none⟩ n n (row C8.zero) 55 (row (C8.of q)).toList Tryd.underlying195 (by kernel_rfl) (heap_alloc_new _ _) (by show 8 = min n 8; omega)
    (fun j v hv => by
      have hj : j < 8 := by
        by_cases hj : j < 8
        · exact hj
        · rw [List.getElem?_eq_none (by simpa [row] using hj)] at hv; cases hv
      have hr : (row (C8.of q)).toList[j]? = some (.int .i64 (gt q j)) := by
        have : j = 0 ∨ j = 1 ∨ j = 2 ∨ j = 3 ∨ j = 4 ∨ j = 5 ∨ j = 6 ∨ j = 7 := by omega
        rcases this with rfl | rfl | rfl | rfl | rfl | rfl | rfl | rfl <;> rfl
      rw [hr] at hv
      cases hv
      have e : (⟨b, 0, none⟩ : Addr).add j = ⟨b, j, none⟩ := by by_cases h0 : j = 0 <;> simp [Addr.add, h0]
      rw [e]; exact hsrc j hj) (by show 0 + 8 ≤ 8; omega) (fun v hv => by simp [row] at hv; rcases hv with rfl | rfl | rfl | rfl | rfl | rfl | rfl | rfl <;> rfl)
  rw [hrow]
  refine congrArg (Result.ok (Value.int .i64 8)) ?_
  have e : ((row C8.zero).toList.take 0 ++ (row (C8.of q)).toList ++ (row C8.zero).toList.drop (0 + (row (C8.of q)).toList.length)).toArray = row (C8.of q) := by simp [row]
  rw [e]; exact setRow_alloc_at _ _ _ _

theorem redL_one (j : Nat) (l : List Int) : redL (j + 1) l = redL j (stepR j l) := rfl


end Go.Proofs.YthojdoiffkdikaaDoor
end
