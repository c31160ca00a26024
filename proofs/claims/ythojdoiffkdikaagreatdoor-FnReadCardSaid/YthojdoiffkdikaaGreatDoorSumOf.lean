/- Designs that came in as an argument of a law; the laws' own copies and comparisons of designs. Sums over a function of rows' items: sumOf of the program. -/
import Derived.Test.YthojdoiffkdikaaGreatDoorWheelA
import Derived.Test.YthojdoiffkdikaaGreatDoorRowLaw
import Derived.Test.YthojdoiffkdikaaGreatDoorMark
import Derived.Deep.RegionWith
import Derived.Deep.DrawnRows
section -- a part
namespace Go.Proofs.YthojdoiffkdikaaGreatDoor
open Go.ChangeShapes Go.WideShapes Go.ChangeAt Go.RowKit Go.Joins Go.Deep

end Go.Proofs.YthojdoiffkdikaaGreatDoor
end
section -- a part
namespace Go.Proofs.YthojdoiffkdikaaGreatDoor
open Go.RowKit
attribute [local go_sem ↓] Go.wp_at_zero Go.wp_at_succ

/-- Blocks from B on are as they were; the streams too. -/
structure Up (B : Nat) (w w' : World) : Prop where
  size : w.heap.size ≤ w'.heap.size
  block : ∀ k, B ≤ k → k < w.heap.size → w'.heap[k]? = w.heap[k]?
theorem Up.of_below {B : Nat} {w w' : World} (h : Below w.heap.size w w') : Up B w w' := ⟨h.size, fun k _ hk => h.block k hk⟩
theorem Up.undrew {B : Nat} {w w' : World} (h : Up B w.drew w') : Up B w w' := ⟨h.size, h.block⟩

/-- The sums of items on the way, and whether they are valid. -/
def sumP (f : Nat → C8) : Nat → C8
  | 0 => C8.zero
  | k + 1 => C8.add (sumP f k) (f k)
def sumV (f : Nat → C8) : Nat → Bool
  | 0 => true
  | k + 1 => sumV f k && okC (sumP f (k + 1))
theorem sumV_no {f : Nat → C8} {k : Nat} (h : sumV f k = false) : ∀ n, k ≤ n → sumV f n = false
  | 0, hn => by obtain rfl : k = 0 := by omega
                exact h
  | n + 1, hn => by
    by_cases e : k = n + 1
    · subst e; exact h
    · show (sumV f n && _) = false
      rw [sumV_no h n (by omega)]; rfl
theorem sumV_ok {f : Nat → C8} : ∀ {n : Nat}, sumV f n = true → okC (sumP f n) = true
  | 0, _ => (by decide : okC C8.zero = true)
  | n + 1, h => by simp only [sumV, Bool.and_eq_true] at h; exact h.2
def sumR (f : Nat → C8) (n : Nat) : C8 := if sumV f n = true then sumP f n else C8.zero
/-- No wrap: a valid sum and an item of moderate size. -/
theorem add_wr_lim {a b : C8} (ha : okC a = true) (hb : C8.lim 1000000000 b) : (C8.add a b).wr = C8.add a b := by
  obtain ⟨a0, a1, a2, a3, a4, a5, a6, a7⟩ := okC_bd ha
  obtain ⟨b0, b1, b2, b3, b4, b5, b6, b7⟩ := hb
  apply C8.ext' <;> simp only [C8.wr, C8.add] <;> exact wrap_in (by omega) (by omega)

section
variable {w : World} {g : Nat} {T : TypeId} {c : Array Value}
theorem blk_other (n : Nat) (hn : n ≠ g) (i : Nat) (v : Value) : (blk w g T c).setCell ⟨n, i, none⟩ v = blk (w.setCell ⟨n, i, none⟩ v) g T c := by
  unfold blk World.setCell
  congr 1
  apply Array.ext_getElem?
  intro k
  simp only [Array.getElem?_modify, Array.getElem?_setIfInBounds, Array.size_modify]
  by_cases h : g = k
  · subst h; rw [if_neg hn]; simp
  · simp [h]
theorem blk_more (os : Array Obj) (d : Nat) (hg : g < w.heap.size) : more (blk w g T c) os d = blk (more w os d) g T c := by
  unfold blk more
  congr 1
  apply Array.ext_getElem?
  intro k
  simp only [Array.getElem?_setIfInBounds, Array.getElem?_append, Array.size_append, Array.size_setIfInBounds]
  by_cases h : g = k
  · subst h; simp [hg]; omega
  · simp [h]
theorem cell_blk_other (n i : Nat) (hn : n ≠ g) : (blk w g T c).cell? ⟨n, i, none⟩ = w.cell? ⟨n, i, none⟩ := World.cell?_of_block (w := w) (heap_blk_other n hn)
theorem frozen_blk_other (n i : Nat) (hn : n ≠ g) : (blk w g T c).frozen? ⟨n, i, none⟩ = w.frozen? ⟨n, i, none⟩ := World.frozen?_of_block (w := w) (heap_blk_other n hn)
theorem below_blk {B : Nat} {a : World} (h : Below B a w) (hB : B ≤ g) : Below B a (blk w g T c) :=
  h.trans ⟨rfl, rfl, rfl, by rw [size_blk]; omega, fun k hk => heap_blk_other k (by omega)⟩
end
/-- Two blocks known whole. -/
def two (w : World) (g : Nat) (T : TypeId) (c c' : Array Value) : World := blk (blk w g T c) (g + 1) T c'
section
variable {w : World} {g : Nat} {T : TypeId} {c c' : Array Value}
@[simp, go_sem] theorem size_two : (two w g T c c').heap.size = w.heap.size := by simp [two]
@[go_sem] theorem cell_two0 (i : Nat) (hg : g + 1 < w.heap.size) : (two w g T c c').cell? ⟨g, i, none⟩ = c[i]? := by
  unfold two; rw [cell_blk_other _ _ (by omega), cell_blk _ (by omega)]
@[go_sem] theorem cell_two1 (i : Nat) (hg : g + 1 < w.heap.size) : (two w g T c c').cell? ⟨g + 1, i, none⟩ = c'[i]? := by
  unfold two; rw [cell_blk _ (by simp; omega)]
@[go_sem] theorem frozen_two0 (i : Nat) (hg : g + 1 < w.heap.size) : (two w g T c c').frozen? ⟨g, i, none⟩ = false := by
  unfold two; rw [frozen_blk_other _ _ (by omega), frozen_blk _ (by omega)]
@[go_sem] theorem frozen_two1 (i : Nat) (hg : g + 1 < w.heap.size) : (two w g T c c').frozen? ⟨g + 1, i, none⟩ = false := by
  unfold two; rw [frozen_blk _ (by simp; omega)]
@[go_sem] theorem set_two0 (i : Nat) (v : Value) (hg : g + 1 < w.heap.size) : (two w g T c c').setCell ⟨g, i, none⟩ v = two w g T (c.setIfInBounds i v) c' := by
  unfold two; rw [blk_other _ (by omega), blk_set _ _ (by omega)]
@[go_sem] theorem set_two1 (i : Nat) (v : Value) (hg : g + 1 < w.heap.size) : (two w g T c c').setCell ⟨g + 1, i, none⟩ v = two w g T c (c'.setIfInBounds i v) := by
  unfold two; rw [blk_set _ _ (by simp; omega)]
theorem two_drew : (two w g T c c').drew = two w.drew g T c c' := rfl
theorem two_more (os : Array Obj) (d : Nat) (hg : g + 1 < w.heap.size) : more (two w g T c c') os d = two (more w os d) g T c c' := by
  unfold two; rw [blk_more _ _ (by simp; omega), blk_more _ _ (by omega)]
theorem two_self (h : w.heap[g]? = some (.cells c T (0, 0))) (h' : w.heap[g + 1]? = some (.cells c' T (0, 0))) : w = two w g T c c' := by
  unfold two; rw [← blk_self h]; exact blk_self h'
theorem heap_two0 (hg : g + 1 < w.heap.size) : (two w g T c c').heap[g]? = some (.cells c T (0, 0)) := by
  unfold two; rw [heap_blk_other _ (by omega), heap_blk_same (by omega)]
theorem heap_two1 (hg : g + 1 < w.heap.size) : (two w g T c c').heap[g + 1]? = some (.cells c' T (0, 0)) := by
  unfold two; rw [heap_blk_same (by simp; omega)]
theorem two_up {w2 : World} (hup : Up g (two w g T c c') w2) (hg : g + 1 < w.heap.size) : ∃ w4, w2 = two w4 g T c c' ∧ g + 1 < w4.heap.size :=
  ⟨w2, two_self ((hup.block g (Nat.le_refl _) (by simp; omega)).trans (heap_two0 hg)) ((hup.block (g + 1) (by omega) (by simp; omega)).trans (heap_two1 hg)), by have := hup.size; simp at this; omega⟩
theorem below_two {B : Nat} {a : World} (h : Below B a w) (hB : B ≤ g) : Below B a (two w g T c c') := below_blk (below_blk h hB) (by omega)
theorem below_two_two {B : Nat} (hB : B ≤ g) {d d' : Array Value} : Below B (two w g T c c') (two w g T d d') := by
  refine ⟨rfl, rfl, rfl, by simp, fun k hk => ?_⟩
  unfold two; rw [heap_blk_other _ (by omega), heap_blk_other _ (by omega), heap_blk_other _ (by omega), heap_blk_other _ (by omega)]
end

/-- Behind a sum over items: what the items keep, the sum, and whether it is valid. -/
def SumPost (w : World) (J : Nat → World → Prop) (f : Nat → C8) (n : Nat) (e : Ending) (w' : World) : Prop :=
  e = .returned (.tuple #[cv (sumR f n), .bool (sumV f n)]) ∧ (∃ m, J m w' ∧ (sumV f n = true → m = n)) ∧ w.heap.size ≤ w'.heap.size

end Go.Proofs.YthojdoiffkdikaaGreatDoor
end
