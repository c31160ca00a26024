/- Rows of points: RowValid, of the program and of the reference. Contracts on exact points: the reference's sum of a multiple, its step, and steps done so many times. Contracts on exact points: the reference's products and mirrored points. Contracts on exact points: the program's reduction of a list of coefficients. -/
import Derived.Test.YthojdoiffkdikaaGreatDoorRowA
import Derived.Test.YthojdoiffkdikaaGreatDoorCycH
import Derived.StillTailTactics
import Derived.Deep.RegionHeld3
import Derived.Laws.CopyOwn
section -- a part
namespace Go.Proofs.YthojdoiffkdikaaGreatDoor
open Go.RowKit

/-- The length of a row. -/
def rwLen (n : Nat) : Bool := decide (1 ≤ n) && decide (24 % n = 0)
theorem rwLen_iff {n : Nat} : rwLen n = true ↔ 1 ≤ n ∧ 24 % n = 0 := by simp [rwLen]
theorem rwLen_le {n : Nat} (h : rwLen n = true) : 1 ≤ n ∧ n ≤ 24 := by
  obtain ⟨h1, h2⟩ := rwLen_iff.1 h
  refine ⟨h1, Classical.byContradiction fun h3 => ?_⟩
  rw [Nat.mod_eq_of_lt (by omega)] at h2; omega
/-- All points are valid. -/
def okAll (xs : List C8) : Bool := xs.all okC
def rvOk (xs : List C8) : Bool := rwLen xs.length && okAll xs
theorem okAll_iff {xs : List C8} : okAll xs = true ↔ ∀ i, i < xs.length → okC (xs.getD i C8.zero) = true := by
  unfold okAll
  rw [List.all_eq_true]
  constructor
  · intro h i hi
    apply h
    rw [List.getD_eq_getElem?_getD, List.getElem?_eq_getElem hi]; exact List.getElem_mem _
  · intro h x hx
    obtain ⟨i, hi, rfl⟩ := List.getElem_of_mem hx
    have := h i hi
    rw [List.getD_eq_getElem?_getD, List.getElem?_eq_getElem hi] at this
    exact this
theorem okAll_no {xs : List C8} {i : Nat} (hi : i < xs.length) (h : okC (xs.getD i C8.zero) = false) : okAll xs = false := by
  rcases Bool.eq_false_or_eq_true (okAll xs) with h1 | h1
  · rw [okAll_iff.1 h1 i hi] at h; cases h
  · exact h1


end Go.Proofs.YthojdoiffkdikaaGreatDoor
end
section -- a part
namespace Go.Proofs.YthojdoiffkdikaaGreatDoor
open Go.RowKit

theorem l2Sum_any (a : C8) (n : Int) (b : C8) (w : World) :
    Calls Tryz.prog 142 #[cv a, .int .i64 n, cv b] w fun e w' => e = .returned (cv (a.sumW n b)) ∧ Below w.heap.size w w' := by
  go_enter Tryz.func142, Tryz.ntmps142
  go_wp2
  go_loopw [7] (fun s wr => ∃ k : Nat, k ≤ 8 ∧ s = .int .i64 k ∧ ∃ os d, wr = more (((w.alloc (.cells (row (a.sumTo n b k)) 59)).alloc (.cells (row b) 59)).alloc (.cells (row C8.zero) 59)) os d) (fun s _ => 8 - (intOf s).toNat)
  case atStart => exact ⟨0, by omega, rfl, _, _, more_self _⟩
  case round =>
    obtain ⟨k, hk, rfl, os, d, rfl⟩ := hrel
    by_cases hlt : k < 8
    · have r1 := row_g (a.sumTo n b k) k hlt
      have r2 := row_g b k hlt
      go_wp2
      go_region
      all_goals
        go_wp2
        go_roundw
        case rel => exact ⟨k + 1, by omega, by go_num, _, _, rfl⟩
        case measure => simp [intOf]; omega
    · obtain rfl : k = 8 := by omega
      go_wp2
      go_returns
      exact ⟨by rw [C8.sumTo_8], by repeat' (first | (with_reducible exact Below.refl _ _) | (with_reducible assumption) | (with_reducible refine Below.alloc ?_ ?_ _) | (with_reducible refine below_more ?_ ?_ _ _) | (with_reducible refine below_rd ?_ ?_ _ _) | (with_reducible refine Below.drew ?_) | (with_reducible refine Below.setCell ?_ ?_ _) | go_size)⟩

theorem l2Step_any (a : C8) (w : World) :
    Calls Tryz.prog 168 #[cv a] w fun e w' => e = .returned (cv a.stpW) ∧ Below w.heap.size w w' := by
  go_enter Tryz.func168, Tryz.ntmps168
  go_wp2
  go_loopw [4] (fun s wr => ∃ k : Nat, k ≤ 7 ∧ s = .int .i64 (k + 1) ∧ wr = ((w.alloc (.cells (row a) 59)).alloc (.cells (row C8.zero) 59)).alloc (.cells (row (a.stpTo k)) 59)) (fun s _ => 8 - (intOf s).toNat)
  case atStart => exact ⟨0, by omega, rfl, rfl⟩
  case round =>
    obtain ⟨k, hk, rfl, rfl⟩ := hrel
    by_cases hlt : k < 7
    · have r1 := row_g a k (by omega)
      have r2 := row_g (a.stpTo k) (k + 1) (by omega)
      go_wp2
      go_roundw
      case rel => exact ⟨k + 1, by omega, by go_num, rfl⟩
      case measure => simp [intOf]; omega
    · obtain rfl : k = 7 := by omega
      go_wp2
      go_returns
      exact ⟨by rw [C8.stpTo_7], by repeat' (first | (with_reducible exact Below.refl _ _) | (with_reducible assumption) | (with_reducible refine Below.alloc ?_ ?_ _) | (with_reducible refine below_more ?_ ?_ _ _) | (with_reducible refine below_rd ?_ ?_ _ _) | (with_reducible refine Below.drew ?_) | (with_reducible refine Below.setCell ?_ ?_ _) | go_size)⟩

theorem l2Turned_any (a : C8) (n : Nat) (hn : n < 24) (w : World) :
    Calls Tryz.prog 141 #[cv a, .int .i64 n] w fun e w' => e = .returned (cv (a.turnW n)) ∧ Below w.heap.size w w' := by
  go_enter Tryz.func141, Tryz.ntmps141
  go_wp2
  go_loopw [5] (fun s wr => ∃ k : Nat, k ≤ n ∧ s = .int .i64 k ∧ ∃ os d, wr = more ((w.alloc (.cells (row (a.turnW k)) 59)).alloc (.cells (row C8.zero) 59)) os d) (fun s _ => n - (intOf s).toNat)
  case atStart => exact ⟨0, by omega, rfl, _, _, more_self _⟩
  case round =>
    obtain ⟨k, hk, rfl, os, d, rfl⟩ := hrel
    by_cases hlt : k < n
    · go_wp2_with (go_at_call 168; refine (l2Step_any _ _).mono ?_; rintro e w' ⟨rfl, hb⟩; obtain ⟨os, d, rfl⟩ := more_of_below hb; clear hb)
      go_roundw
      case rel => exact ⟨k + 1, by omega, by go_num, _, _, rfl⟩
      case measure => simp [intOf]; omega
    · obtain rfl : k = n := by omega
      go_wp2
      go_returns
      exact ⟨rfl, by repeat' (first | (with_reducible exact Below.refl _ _) | (with_reducible assumption) | (with_reducible refine Below.alloc ?_ ?_ _) | (with_reducible refine below_more ?_ ?_ _ _) | (with_reducible refine below_rd ?_ ?_ _ _) | (with_reducible refine Below.drew ?_) | (with_reducible refine Below.setCell ?_ ?_ _) | go_size)⟩


theorem l1Is_any (n : Int) (w : World) :
    Calls Tryz.prog 140 #[.int .i64 n] w fun e w' => e = .returned (.bool (inB n 0 23)) ∧ w = w' := by
  go_enter Tryz.func140, Tryz.ntmps140
  go_wp2_with (go_at_call 93; refine (l6In_any _ _ _ _).mono ?_; rintro e w' ⟨rfl, rfl⟩)
  go_ret
  exact ⟨rfl, rfl⟩

theorem specRoot_yes (n : Nat) (h : n < 24) (w : World) :
    Calls Tryz.prog 96 #[.int .i64 n] w fun e w' => e = .returned (.tuple #[cv (C8.rt n), .bool true]) ∧ Below w.heap.size w w' := by
  have hin : inB n 0 23 = true := inB_iff.2 (by omega)
  have K := Lib.hid (C8.rtW n h)
  go_enter Tryz.func96, Tryz.ntmps96
  go_wp2_with (first
    | (go_at_call 140; refine (l1Is_any _ _).mono ?_; rintro e w' ⟨rfl, rfl⟩)
    | (go_at_call 141; refine (l2Turned_any C8.one n h _).mono ?_; rw [K.out]; rintro e w' ⟨rfl, hb⟩; obtain ⟨os, d, rfl⟩ := more_of_below hb; clear hb))
  go_returns
  exact ⟨rfl, by repeat' (first | (with_reducible exact Below.refl _ _) | (with_reducible assumption) | (with_reducible refine Below.alloc ?_ ?_ _) | (with_reducible refine below_more ?_ ?_ _ _) | (with_reducible refine below_rd ?_ ?_ _ _) | (with_reducible refine Below.drew ?_) | (with_reducible refine Below.setCell ?_ ?_ _) | go_size)⟩

theorem specRoot_no (n : Int) (h : inB n 0 23 = false) (w : World) :
    Calls Tryz.prog 96 #[.int .i64 n] w fun e w' => e = .returned (.tuple #[cv C8.zero, .bool false]) ∧ Below w.heap.size w w' := by
  go_enter Tryz.func96, Tryz.ntmps96
  go_wp2_with (go_at_call 140; refine (l1Is_any _ _).mono ?_; rintro e w' ⟨rfl, rfl⟩)
  go_returns
  exact ⟨rfl, by repeat' (first | (with_reducible exact Below.refl _ _) | (with_reducible assumption) | (with_reducible refine Below.alloc ?_ ?_ _) | (with_reducible refine below_more ?_ ?_ _ _) | (with_reducible refine below_rd ?_ ?_ _ _) | (with_reducible refine Below.drew ?_) | (with_reducible refine Below.setCell ?_ ?_ _) | go_size)⟩
end Go.Proofs.YthojdoiffkdikaaGreatDoor
end
section -- a part
namespace Go.Proofs.YthojdoiffkdikaaGreatDoor
open Go.RowKit


end Go.Proofs.YthojdoiffkdikaaGreatDoor
end
section -- a part
namespace Go.Proofs.YthojdoiffkdikaaGreatDoor
open Go.RowKit

theorem setRow_alloc_at (W : World) (c c' : Array Value) (t : TypeId) : (W.alloc (.cells c t)).setRow W.heap.size c' = W.alloc (.cells c' t) := by
  unfold World.setRow World.alloc
  congr 1
  apply Array.ext_getElem?
  intro k
  simp only [Array.getElem?_modify, Array.getElem?_push]
  by_cases hk : W.heap.size = k
  · subst hk; simp
  · simp only [hk, if_false]
    rw [if_neg (fun h => hk h.symm), if_neg (fun h => hk h.symm)]

/-- The first eight numbers of a row copied into a new array of eight. -/
theorem copy8 (Y : World) (b n : Nat) (q : List Int) (hn : 8 ≤ n) (hsrc : ∀ j, j < 8 → (Y.alloc (.cells (row C8.zero) 59)).cell? ⟨b, j, none⟩ = some (.int .i64 (gt q j))) :
    (Builtin.copy_ #[236, 236] 3 #[.slice (some ⟨Y.heap.size, 0, none⟩) 8 8, .slice (some ⟨b, 0, none⟩) n n]).run Tryz.prog (Y.alloc (.cells (row C8.zero) 59)) = .ok (.int .i64 8) (Y.alloc (.cells (row (C8.of q)) 59)) := by
  have hrow := run_copy_row (P := Tryz.prog) (Y.alloc (.cells (row C8.zero) 59)) 236 236 3 3 Y.heap.size 0 8 8 ⟨b, 0, none⟩ n n (row C8.zero) 59 (row (C8.of q)).toList Tryz.underlying236 (by kernel_rfl) (heap_alloc_new _ _) (by show 8 = min n 8; omega)
    (fun j v hv => by
      have hj : j < 8 := by
        by_cases hj : j < 8
        · exact hj
        · rw [List.getElem?_eq_none (by simpa [row] using hj)] at hv; cases hv
      have hr : (row (C8.of q)).toList[j]? = some (.int .i64 (gt q j)) := by
        have : j = 0 ∨ j = 1 ∨ j = 2 ∨ j = 3 ∨ j = 4 ∨ j = 5 ∨ j = 6 ∨ j = 7 := by omega
        rcases this with rfl | rfl | rfl | rfl | rfl | rfl | rfl | rfl <;> rfl
      rw [hr] at hv
      cases hv
      have e : (⟨b, 0, none⟩ : Addr).add j = ⟨b, j, none⟩ := by by_cases h0 : j = 0 <;> simp [Addr.add, h0]
      rw [e]; exact hsrc j hj) (by show 0 + 8 ≤ 8; omega) (fun v hv => by simp [row] at hv; rcases hv with rfl | rfl | rfl | rfl | rfl | rfl | rfl | rfl <;> rfl)
  rw [hrow]
  refine congrArg (Result.ok (Value.int .i64 8)) ?_
  have e : ((row C8.zero).toList.take 0 ++ (row (C8.of q)).toList ++ (row C8.zero).toList.drop (0 + (row (C8.of q)).toList.length)).toArray = row (C8.of q) := by simp [row]
  rw [e]; exact setRow_alloc_at _ _ _ _

theorem redL_one (j : Nat) (l : List Int) : redL (j + 1) l = redL j (stepR j l) := rfl


end Go.Proofs.YthojdoiffkdikaaGreatDoor
end
