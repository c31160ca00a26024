/- RowTimes, of the program and of the reference. Marks in rows: the laws' own writes into a block of a row, and their reading back. -/
import Derived.Test.YthojdoiffkdikaaDoorRowD
section -- a part
namespace Go.Proofs.YthojdoiffkdikaaDoor
open Go.RowKit

theorem infoC : ∃ i, Tryd.prog.info? 55 = some i ∧ i.zero = some (cv C8.zero) ∧ i.size = 8 ∧ i.bytes = 64 := by
  have h0 := zeroC8
  cases hq : Tryd.prog.info? 55 with
  | none => rw [hq] at h0; cases h0
  | some i =>
    rw [hq] at h0
    simp only [Option.map_some, Option.some.injEq, Prod.mk.injEq] at h0
    exact ⟨i, rfl, h0.1, h0.2.1, h0.2.2⟩
/-- What was appended to a row that the call owns is Below, too. -/
theorem below_grown {B : Nat} {a w w' : World} {v : Value} (h : Below B a w) (hg : w.grownBy w' v.ownBlock) (hB : ∀ k, v.ownBlock = some k → B ≤ k) (hs : B ≤ w.heap.size) : Below B a w' :=
  h.trans ⟨hg.os, hg.tape, hg.output, hg.size, fun k hk => hg.block k (by omega) (fun e => by have := hB k e.symm; omega)⟩
theorem OwnsP.own_le {w : World} {B : Nat} {v : Value} {ys : List C8} (h : OwnsP w B v ys) : ∀ k, v.ownBlock = some k → B ≤ k := fun k hk => (World.ownsRow.lt h k hk).1

@[go_sem] theorem fold_row (a : C8) : Array.foldl (fun (cs : Array Value) (x : Value × Nat) => cs.setIfInBounds x.snd x.fst) #[(row C8.zero)[0]!, (row C8.zero)[1]!, (row C8.zero)[2]!, (row C8.zero)[3]!, (row C8.zero)[4]!, (row C8.zero)[5]!, (row C8.zero)[6]!, (row C8.zero)[7]!] ((row a).zipIdx 0) 0 8 = row a := by
  have e : ((row a).zipIdx 0) = #[(.int .i64 a.c0, 0), (.int .i64 a.c1, 1), (.int .i64 a.c2, 2), (.int .i64 a.c3, 3), (.int .i64 a.c4, 4), (.int .i64 a.c5, 5), (.int .i64 a.c6, 6), (.int .i64 a.c7, 7)] := by
    simp [row]
  rw [e]
  simp [row]
theorem heap_at2 {w : World} (o : Obj) (n : Nat) (hn : n = w.heap.size) : (w.alloc o).heap[n]? = some o := by subst hn; exact heap_alloc_new w o
theorem rowL_ones (a : C8) : ∀ u ∈ (row a).toList, u.oneCell' = true := fun u hu => Array.all_eq_true_iff_forall_mem.1 (rowL_one a) u (by simpa using hu)
theorem OwnsP.snoc {w : World} {B : Nat} {v : Value} {ys : List C8} {x : C8} (h : w.ownsRow B 55 8 v (ys.length + 1) ((rowsV ys).toList ++ (row x).toList)) : OwnsP w B v (ys ++ [x]) := by
  unfold OwnsP; rw [rowsV_snoc, List.length_append]; exact h
end Go.Proofs.YthojdoiffkdikaaDoor
end
section -- a part
namespace Go.Proofs.YthojdoiffkdikaaDoor
open Go.RowKit

/-- A world in which block g holds the cells c. -/
def blk (w : World) (g : Nat) (T : TypeId) (c : Array Value) : World := { w with heap := w.heap.setIfInBounds g (.cells c T) }
section
variable {w : World} {g : Nat} {T : TypeId} {c : Array Value}
@[simp, go_sem] theorem size_blk : (blk w g T c).heap.size = w.heap.size := by simp [blk]
theorem heap_blk_same (hg : g < w.heap.size) : (blk w g T c).heap[g]? = some (.cells c T (0, 0)) := by
  show (w.heap.setIfInBounds g _)[g]? = _
  rw [Array.getElem?_setIfInBounds]; simp [hg]
theorem heap_blk_other (n : Nat) (hn : n ≠ g) : (blk w g T c).heap[n]? = w.heap[n]? := by
  show (w.heap.setIfInBounds g _)[n]? = _
  rw [Array.getElem?_setIfInBounds, if_neg (fun h => hn h.symm)]
theorem cell_blk (i : Nat) (hg : g < w.heap.size) : (blk w g T c).cell? ⟨g, i, none⟩ = c[i]? := cell_of_row _ g i c T (0, 0) (heap_blk_same hg)
@[go_sem] theorem frozen_blk (i : Nat) (hg : g < w.heap.size) : (blk w g T c).frozen? ⟨g, i, none⟩ = false := frozen_of_row _ g i c T (heap_blk_same hg)
@[go_sem] theorem blk_set (i : Nat) (v : Value) (hg : g < w.heap.size) : (blk w g T c).setCell ⟨g, i, none⟩ v = blk w g T (c.setIfInBounds i v) := by
  unfold blk World.setCell
  congr 1
  apply Array.ext_getElem?
  intro k
  simp only [Array.getElem?_modify, Array.getElem?_setIfInBounds]
  by_cases h : g = k
  · subst h; simp [hg]
  · simp [h]
theorem blk_self (h : w.heap[g]? = some (.cells c T (0, 0))) : w = blk w g T c := by
  cases w with
  | mk heap tape drawn os output =>
    simp only [blk, World.mk.injEq, and_true]
    apply Array.ext_getElem?
    intro k
    rw [Array.getElem?_setIfInBounds]
    by_cases hk : g = k
    · subst hk; simp only at h
      have hlt : g < heap.size := by
        by_cases hl : g < heap.size
        · exact hl
        · rw [Array.getElem?_eq_none (by omega)] at h; cases h
      rw [if_pos rfl, if_pos hlt]; exact h
    · simp [hk]
theorem grown_blk : w.grownBy (blk w g T c) (some g) :=
  ⟨rfl, rfl, rfl, by rw [size_blk]; omega, fun k _ hk => heap_blk_other k (fun e => hk (by rw [e]))⟩
end

/-- The cells with the first m of them marked from k on. -/
def mkb (cur : Array Value) (k : Int) (m : Nat) : Array Value := (Array.range cur.size).map fun x => if x < m then .int .i64 (k + x) else cur[x]?.getD undef
theorem mkb_size (cur : Array Value) (k : Int) (m : Nat) : (mkb cur k m).size = cur.size := by simp [mkb]
theorem mkb_get (cur : Array Value) (k : Int) (m x : Nat) (hx : x < cur.size) : (mkb cur k m)[x]? = some (if x < m then .int .i64 (k + x) else cur[x]?.getD undef) := by
  simp [mkb, hx]
theorem mkb_zero (cur : Array Value) (k : Int) : mkb cur k 0 = cur := by
  apply Array.ext_getElem?
  intro x
  by_cases hx : x < cur.size
  · rw [mkb_get _ _ _ _ hx]; simp [hx]
  · rw [Array.getElem?_eq_none (by rw [mkb_size]; omega), Array.getElem?_eq_none (by omega)]
theorem mkb_set (cur : Array Value) (k : Int) (m : Nat) (hm : m < cur.size) : (mkb cur k m).setIfInBounds m (.int .i64 (k + m)) = mkb cur k (m + 1) := by
  apply Array.ext_getElem?
  intro x
  rw [Array.getElem?_setIfInBounds]
  by_cases hx : x < cur.size
  · by_cases e : m = x
    · subst e; rw [if_pos rfl, if_pos (by rw [mkb_size]; exact hm), mkb_get _ _ _ _ hx, if_pos (by omega)]
    · rw [if_neg e, mkb_get _ _ _ _ hx, mkb_get _ _ _ _ hx]
      by_cases h1 : x < m
      · rw [if_pos h1, if_pos (by omega)]
      · rw [if_neg h1, if_neg (by omega)]
  · rw [if_neg (by omega), Array.getElem?_eq_none (by rw [mkb_size]; omega), Array.getElem?_eq_none (by rw [mkb_size]; omega)]

/-- The cells of a slice of n elements of s cells bear marks from k on. -/
def HeldAt (w : World) (v : Value) (s n : Nat) (k : Int) : Prop :=
  (n = 0 ∧ ∃ a cap, v = .slice a 0 cap) ∨ ∃ g cap : Nat, v = .slice (some ⟨g, 0, none⟩) n cap ∧ g < w.heap.size ∧ ∀ x, x < n * s → w.cell? ⟨g, x, none⟩ = some (.int .i64 (k + x))
theorem HeldAt.kept {w w' : World} {v : Value} {s n : Nat} {k : Int} {row : Option Nat} (h : HeldAt w v s n k) (hg : w.grownBy w' row) (hne : ∀ g, v.ownBlock = some g → row ≠ some g) : HeldAt w' v s n k := by
  rcases h with h | ⟨g, cap, rfl, hlt, hz⟩
  · exact Or.inl h
  · refine Or.inr ⟨g, cap, rfl, by have := hg.size; omega, fun x hx => ?_⟩
    exact hg.cell (hz x hx) (fun e => hne g rfl e.symm)
/-- Behind marks. -/
def MarkPost (w : World) (v : Value) (s n : Nat) (k : Int) (e : Ending) (w' : World) : Prop := e = .returned (.int .i64 (k + n * s)) ∧ w.grownBy w' v.ownBlock ∧ HeldAt w' v s n k

end Go.Proofs.YthojdoiffkdikaaDoor
end
