/- Marks in rows: the laws' own writes into a block of a row, and their reading back. -/
import Derived.Test.YtklmlodapinflaaRowE
namespace Go.Proofs.Ytklmlodapinflaa
open Go.RowKit

/-- A world in which block g holds the cells c. -/
def blk (w : World) (g : Nat) (T : TypeId) (c : Array Value) : World := { w with heap := w.heap.setIfInBounds g (.cells c T) }
section
variable {w : World} {g : Nat} {T : TypeId} {c : Array Value}
@[simp, go_sem] theorem size_blk : (blk w g T c).heap.size = w.heap.size := by simp [blk]
theorem heap_blk_same (hg : g < w.heap.size) : (blk w g T c).heap[g]? = some (.cells c T (0, 0)) := by
  show (w.heap.setIfInBounds g _)[g]? = _
  rw [Array.getElem?_setIfInBounds]; simp [hg]
theorem heap_blk_other (n : Nat) (hn : n ≠ g) : (blk w g T c).heap[n]? = w.heap[n]? := by
  show (w.heap.setIfInBounds g _)[n]? = _
  rw [Array.getElem?_setIfInBounds, if_neg (fun h => hn h.symm)]
theorem cell_blk (i : Nat) (hg : g < w.heap.size) : (blk w g T c).cell? ⟨g, i, none⟩ = c[i]? := cell_of_row _ g i c T (0, 0) (heap_blk_same hg)
@[go_sem] theorem frozen_blk (i : Nat) (hg : g < w.heap.size) : (blk w g T c).frozen? ⟨g, i, none⟩ = false := frozen_of_row _ g i c T (heap_blk_same hg)
@[go_sem] theorem blk_set (i : Nat) (v : Value) (hg : g < w.heap.size) : (blk w g T c).setCell ⟨g, i, none⟩ v = blk w g T (c.setIfInBounds i v) := by
  unfold blk World.setCell
  congr 1
  apply Array.ext_getElem?
  intro k
  simp only [Array.getElem?_modify, Array.getElem?_setIfInBounds]
  by_cases h : g = k
  · subst h; simp [hg]
  · simp [h]
theorem blk_self (h : w.heap[g]? = some (.cells c T (0, 0))) : w = blk w g T c := by
  cases w with
  | mk heap tape drawn os output =>
    simp only [blk, World.mk.injEq, and_true]
    apply Array.ext_getElem?
    intro k
    rw [Array.getElem?_setIfInBounds]
    by_cases hk : g = k
    · subst hk; simp only at h
      have hlt : g < heap.size := by
        by_cases hl : g < heap.size
        · exact hl
        · rw [Array.getElem?_eq_none (by omega)] at h; cases h
      rw [if_pos rfl, if_pos hlt]; exact h
    · simp [hk]
theorem grown_blk : w.grownBy (blk w g T c) (some g) :=
  ⟨rfl, rfl, rfl, by rw [size_blk]; omega, fun k _ hk => heap_blk_other k (fun e => hk (by rw [e]))⟩
end

/-- The cells with the first m of them marked from k on. -/
def mkb (cur : Array Value) (k : Int) (m : Nat) : Array Value := (Array.range cur.size).map fun x => if x < m then .int .i64 (k + x) else cur[x]?.getD undef
theorem mkb_size (cur : Array Value) (k : Int) (m : Nat) : (mkb cur k m).size = cur.size := by simp [mkb]
theorem mkb_get (cur : Array Value) (k : Int) (m x : Nat) (hx : x < cur.size) : (mkb cur k m)[x]? = some (if x < m then .int .i64 (k + x) else cur[x]?.getD undef) := by
  simp [mkb, hx]
theorem mkb_zero (cur : Array Value) (k : Int) : mkb cur k 0 = cur := by
  apply Array.ext_getElem?
  intro x
  by_cases hx : x < cur.size
  · rw [mkb_get _ _ _ _ hx]; simp [hx]
  · rw [Array.getElem?_eq_none (by rw [mkb_size]; omega), Array.getElem?_eq_none (by omega)]
theorem mkb_set (cur : Array Value) (k : Int) (m : Nat) (hm : m < cur.size) : (mkb cur k m).setIfInBounds m (.int .i64 (k + m)) = mkb cur k (m + 1) := by
  apply Array.ext_getElem?
  intro x
  rw [Array.getElem?_setIfInBounds]
  by_cases hx : x < cur.size
  · by_cases e : m = x
    · subst e; rw [if_pos rfl, if_pos (by rw [mkb_size]; exact hm), mkb_get _ _ _ _ hx, if_pos (by omega)]
    · rw [if_neg e, mkb_get _ _ _ _ hx, mkb_get _ _ _ _ hx]
      by_cases h1 : x < m
      · rw [if_pos h1, if_pos (by omega)]
      · rw [if_neg h1, if_neg (by omega)]
  · rw [if_neg (by omega), Array.getElem?_eq_none (by rw [mkb_size]; omega), Array.getElem?_eq_none (by rw [mkb_size]; omega)]

/-- The cells of a slice of n elements of s cells bear marks from k on. -/
def HeldAt (w : World) (v : Value) (s n : Nat) (k : Int) : Prop :=
  (n = 0 ∧ ∃ a cap, v = .slice a 0 cap) ∨ ∃ g cap : Nat, v = .slice (some ⟨g, 0, none⟩) n cap ∧ g < w.heap.size ∧ ∀ x, x < n * s → w.cell? ⟨g, x, none⟩ = some (.int .i64 (k + x))
theorem HeldAt.kept {w w' : World} {v : Value} {s n : Nat} {k : Int} {row : Option Nat} (h : HeldAt w v s n k) (hg : w.grownBy w' row) (hne : ∀ g, v.ownBlock = some g → row ≠ some g) : HeldAt w' v s n k := by
  rcases h with h | ⟨g, cap, rfl, hlt, hz⟩
  · exact Or.inl h
  · refine Or.inr ⟨g, cap, rfl, by have := hg.size; omega, fun x hx => ?_⟩
    exact hg.cell (hz x hx) (fun e => hne g rfl e.symm)
/-- Behind marks. -/
def MarkPost (w : World) (v : Value) (s n : Nat) (k : Int) (e : Ending) (w' : World) : Prop := e = .returned (.int .i64 (k + n * s)) ∧ w.grownBy w' v.ownBlock ∧ HeldAt w' v s n k

set_option maxRecDepth 100000 in
set_option maxHeartbeats 1000000 in
theorem markCycS_none (a : Option Addr) (cap : Nat) (k : Int) (w : World) :
    Calls Try.prog 50 #[.slice a 0 cap, .int .i64 k] w fun e w' => e = .returned (.int .i64 k) ∧ w = w' := by
  go_enter Try.func50, Try.ntmps50
  go_wp2
  go_rounds 1
  all_goals
    go_ret
    exact ⟨rfl, rfl⟩
set_option maxRecDepth 100000 in
set_option maxHeartbeats 1000000 in
theorem markCycS_some (g cap n : Nat) (cur : Array Value) (k : Int) (w : World) (hg : g < w.heap.size) (hs : 8 * n ≤ cur.size) (hn : n ≤ 1048576) (hk0 : 0 ≤ k) (hk1 : k ≤ 1000000000) :
    Calls Try.prog 50 #[.slice (some ⟨g, 0, none⟩) n cap, .int .i64 k] (blk w g 25 cur) fun e w' => e = .returned (.int .i64 (k + 8 * n)) ∧ w' = blk w g 25 (mkb cur k (8 * n)) := by
  go_enter Try.func50, Try.ntmps50
  go_wp2
  go_loopw [1, 5] (fun q s wr => ∃ i : Nat, i ≤ n ∧ s = .int .i64 i ∧ q = .int .i64 (k + 8 * i) ∧ wr = blk w g 25 (mkb cur k (8 * i))) (fun _ s _ => n - (intOf s).toNat)
  case atStart => exact ⟨0, by omega, rfl, by go_num, by rw [Nat.mul_zero, mkb_zero]⟩
  case round =>
    obtain ⟨i, hi, rfl, rfl, rfl⟩ := hrel
    by_cases hlt : i < n
    · go_wp2
      go_loopw [1, 6] (fun q s wr => ∃ j : Nat, j ≤ 8 ∧ s = .int .i64 j ∧ q = .int .i64 (k + 8 * i + j) ∧ wr = blk w g 25 (mkb cur k (8 * i + j))) (fun _ s _ => 8 - (intOf s).toNat)
      case atStart => exact ⟨0, by omega, rfl, by go_num, rfl⟩
      case round =>
        obtain ⟨j, hj, rfl, rfl, rfl⟩ := hrel
        by_cases hltj : j < 8
        · have c0 : (blk w g 25 (mkb cur k (8 * i + j))).cell? ⟨g, i * 8 + j, none⟩ = some ((mkb cur k (8 * i + j))[i * 8 + j]'(by rw [mkb_size]; omega)) := by
            rw [cell_blk _ hg]; exact Array.getElem?_eq_getElem _
          have st := mkb_set cur k (8 * i + j) (by omega)
          rw [show (k + ((8 * i + j : Nat) : Int)) = k + 8 * i + j by omega, show 8 * i + j = i * 8 + j by omega] at st
          rw [show 8 * i + j = i * 8 + j by omega] at c0 ⊢
          have ST := Lib.hid st
          clear st
          go_wp2
          go_roundw
          case rel => exact ⟨j + 1, by omega, by go_num, by go_num, by rw [ST.out]; congr 2; omega⟩
          case measure => simp [intOf]; omega
        · obtain rfl : j = 8 := by omega
          go_wp2
          go_roundw
          case rel => exact ⟨i + 1, by omega, by go_num, by go_num, rfl⟩
          case measure => simp [intOf]; omega
    · obtain rfl : i = n := by omega
      go_wp2
      go_ret
      exact ⟨rfl, rfl⟩
theorem markCycS_any {B : Nat} {v : Value} {xs : List C8} {w : World} (h : OwnsP w B v xs) (hn : xs.length ≤ 1048576) (k : Int) (hk0 : 0 ≤ k) (hk1 : k ≤ 1000000000) :
    Calls Try.prog 50 #[v, .int .i64 k] w (MarkPost w v 8 xs.length k) := by
  rcases h.2 with ⟨rfl, hn0⟩ | ⟨g, cap, cur, rfl, hb, hg, h1, h2, h3, h4⟩
  · refine (markCycS_none none 0 k w).mono fun e w' h => ?_
    obtain ⟨rfl, rfl⟩ := h
    exact ⟨by rw [hn0]; exact ret_int (by omega), ⟨rfl, rfl, rfl, Nat.le_refl _, fun _ _ _ => rfl⟩, Or.inl ⟨hn0, none, 0, rfl⟩⟩
  · have hlt : g < w.heap.size := (Array.getElem?_eq_some_iff.1 hg).1
    have e0 := blk_self hg
    have key := markCycS_some g cap xs.length cur k w hlt (by omega) hn hk0 hk1
    rw [← e0] at key
    refine key.mono fun e w' h => ?_
    obtain ⟨rfl, rfl⟩ := h
    refine ⟨ret_int (by omega), grown_blk, Or.inr ⟨g, cap, rfl, by rw [size_blk]; exact hlt, fun x hx => ?_⟩⟩
    rw [cell_blk x hlt, mkb_get _ _ _ _ (by omega), if_pos (by omega)]
set_option maxRecDepth 100000 in
set_option maxHeartbeats 1000000 in
theorem heldCycS_none (a : Option Addr) (cap : Nat) (k : Int) (w : World) :
    Calls Try.prog 51 #[.slice a 0 cap, .int .i64 k] w fun e w' => e = .returned (.int .i64 k) ∧ w = w' := by
  go_enter Try.func51, Try.ntmps51
  go_wp2
  go_rounds 1
  all_goals
    go_ret
    exact ⟨rfl, rfl⟩
set_option maxRecDepth 100000 in
set_option maxHeartbeats 1000000 in
theorem heldCycS_some (g cap n : Nat) (k : Int) (w : World) (hz : ∀ x, x < n * 8 → w.cell? ⟨g, x, none⟩ = some (.int .i64 (k + x))) (hn : n ≤ 1048576) (hk0 : 0 ≤ k) (hk1 : k ≤ 1000000000) :
    Calls Try.prog 51 #[.slice (some ⟨g, 0, none⟩) n cap, .int .i64 k] w fun e w' => e = .returned (.int .i64 (k + 8 * n)) ∧ w = w' := by
  have HZ := Lib.hid hz
  clear hz
  go_enter Try.func51, Try.ntmps51
  go_wp2
  go_loop [1, 5] (fun q s => ∃ i : Nat, i ≤ n ∧ s = .int .i64 i ∧ q = .int .i64 (k + 8 * i)) (fun _ s => n - (intOf s).toNat)
  case atStart => exact ⟨0, by omega, rfl, by go_num⟩
  case round =>
    obtain ⟨i, hi, rfl, rfl⟩ := hrel
    by_cases hlt : i < n
    · go_wp2
      go_loop [1, 6] (fun q s => ∃ j : Nat, j ≤ 8 ∧ s = .int .i64 j ∧ q = .int .i64 (k + 8 * i + j)) (fun _ s => 8 - (intOf s).toNat)
      case atStart => exact ⟨0, by omega, rfl, by go_num⟩
      case round =>
        obtain ⟨j, hj, rfl, rfl⟩ := hrel
        by_cases hltj : j < 8
        · have c0 := HZ.out (i * 8 + j) (by omega)
          rw [show (k + ((i * 8 + j : Nat) : Int)) = k + 8 * i + j by omega] at c0
          go_wp2
          go_round
          case rel => exact ⟨j + 1, by omega, by go_num, by go_num⟩
          case measure => simp [intOf]; omega
        · obtain rfl : j = 8 := by omega
          go_wp2
          go_round
          case rel => exact ⟨i + 1, by omega, by go_num, by go_num⟩
          case measure => simp [intOf]; omega
    · obtain rfl : i = n := by omega
      go_wp2
      go_ret
      exact ⟨rfl, rfl⟩
theorem heldCycS_any {v : Value} {n : Nat} {k : Int} {w : World} (h : HeldAt w v 8 n k) (hn : n ≤ 1048576) (hk0 : 0 ≤ k) (hk1 : k ≤ 1000000000) :
    Calls Try.prog 51 #[v, .int .i64 k] w fun e w' => e = .returned (.int .i64 (k + n * (8 : Nat))) ∧ w = w' := by
  rcases h with ⟨rfl, a, cap, rfl⟩ | ⟨g, cap, rfl, hg, hz⟩
  · refine (heldCycS_none a cap k w).mono fun e w' h => ⟨h.1.trans (ret_int (by omega)), h.2⟩
  · refine (heldCycS_some g cap n k w hz hn hk0 hk1).mono fun e w' h => ⟨h.1.trans (ret_int (by omega)), h.2⟩
end Go.Proofs.Ytklmlodapinflaa
