/- Rows of points that are made by append: what they own; rows of products. RowTimes, of the program and of the reference. Marks in rows: the laws' own writes into a block of a row, and their reading back. -/
import Derived.Test.YthojdoiffkdikaaGreatDoorCycD
import Derived.Test.YthojdoiffkdikaaGreatDoorCycI
import Derived.Deep.AppendLies
import Derived.Deep.RegionHeld3
section -- a part
namespace Go.Proofs.YthojdoiffkdikaaGreatDoor
open Go.RowKit

theorem rowsV_snoc (xs : List C8) (x : C8) : (rowsV (xs ++ [x])).toList = (rowsV xs).toList ++ (row x).toList := by
  apply List.ext_getElem?
  intro m
  have hs := rowsV_size xs
  have hs2 := rowsV_size (xs ++ [x])
  by_cases h1 : m < 8 * xs.length
  · rw [List.getElem?_append_left (by rw [Array.length_toList, hs]; exact h1), Array.getElem?_toList, Array.getElem?_toList, rowsV_get _ _ (by simp; omega), rowsV_get _ _ h1]
    congr 3
    rw [List.getD_eq_getElem?_getD, List.getElem?_append_left (by omega), List.getD_eq_getElem?_getD]
  · by_cases h2 : m < 8 * xs.length + 8
    · rw [List.getElem?_append_right (by rw [Array.length_toList, hs]; omega), Array.length_toList, hs, Array.getElem?_toList, rowsV_get _ _ (by simp; omega), rowL_get _ _ (by omega)]
      have e : (xs ++ [x]).getD (m / 8) C8.zero = x := by
        rw [List.getD_eq_getElem?_getD, List.getElem?_append_right (by omega), show m / 8 - xs.length = 0 by omega]; rfl
      rw [e, show m % 8 = m - 8 * xs.length by omega]
    · rw [List.getElem?_eq_none (by rw [Array.length_toList, hs2]; simp; omega), List.getElem?_eq_none (by rw [List.length_append, Array.length_toList, hs, rowL_len]; omega)]

/-- A slice that the call owns: it reads as a row of points. -/
def OwnsP (w : World) (B : Nat) (v : Value) (ys : List C8) : Prop := w.ownsRow B 59 8 v ys.length (rowsV ys).toList
theorem OwnsP.nil (w : World) (B : Nat) : OwnsP w B (.slice none 0 0) [] := ⟨by simp [rowsV], Or.inl ⟨rfl, rfl⟩⟩
theorem OwnsP.more {w : World} {B : Nat} {v : Value} {ys : List C8} (h : OwnsP w B v ys) (os : Array Obj) (d : Nat) : OwnsP (more w os d) B v ys := by
  refine ⟨h.1, ?_⟩
  rcases h.2 with h0 | ⟨g, cap, cur, hv, hb, hg, h1, h2, h3, h4⟩
  · exact Or.inl h0
  · refine Or.inr ⟨g, cap, cur, hv, hb, ?_, h1, h2, h3, h4⟩
    rw [heap_more g (by
      by_cases hlt : g < w.heap.size
      · exact hlt
      · rw [Array.getElem?_eq_none (by omega)] at hg; cases hg)]
    exact hg
/-- What is owned reads as a row in memory. -/
theorem OwnsP.hasP {w : World} {B : Nat} {v : Value} {ys : List C8} (h : OwnsP w B v ys) : ∃ (a : Option Addr) (cap : Nat), v = .slice a ys.length cap ∧ HasP w a ys := by
  rcases h.2 with ⟨hv, hn⟩ | ⟨g, cap, cur, hv, hb, hg, h1, h2, h3, h4⟩
  · exact ⟨none, 0, by rw [hv, hn], Or.inl (List.length_eq_zero_iff.1 hn)⟩
  · refine ⟨some ⟨g, 0, none⟩, cap, hv, Or.inr ⟨g, rfl, ?_, fun i hi j u hu => ?_⟩⟩
    · by_cases hlt : g < w.heap.size
      · exact hlt
      · rw [Array.getElem?_eq_none (by omega)] at hg; cases hg
    · have hj : j < 8 := by
        by_cases hj : j < 8
        · exact hj
        · rw [List.getElem?_eq_none (by rw [rowL_len]; omega)] at hu; cases hu
      rw [rowL_get _ j hj] at hu
      cases hu
      have hm : i * 8 + j < 8 * ys.length := by omega
      have e : (cur.toList.take (ys.length * 8))[i * 8 + j]? = (rowsV ys).toList[i * 8 + j]? := by rw [h4]
      rw [List.getElem?_take_of_lt (by omega), Array.getElem?_toList, Array.getElem?_toList, rowsV_get _ _ hm, show (i * 8 + j) / 8 = i by omega, show (i * 8 + j) % 8 = j by omega] at e
      rw [cell_of_row w g (i * 8 + j) cur _ _ hg]; exact e
theorem OwnsP.alloc {w : World} {B : Nat} {v : Value} {ys : List C8} (h : OwnsP w B v ys) (o : Obj) : OwnsP (w.alloc o) B v ys := World.ownsRow.alloc h o
/-- An empty row with room. -/
theorem OwnsP.made (w : World) (B n : Nat) (hB : B ≤ w.heap.size) (hn : n ≤ 1048576) : OwnsP (w.alloc (.cells (rowsV (List.replicate n C8.zero)) 59)) B (.slice (some ⟨w.heap.size, 0, none⟩) 0 n) [] := by
  refine ⟨by simp [rowsV], Or.inr ⟨w.heap.size, n, _, rfl, hB, heap_alloc_new _ _, Nat.zero_le _, by unfold maxLen; omega, by rw [rowsV_size]; simp; omega, ?_⟩⟩
  simp [rowsV]
theorem PtAt.below {B : Nat} {w w' : World} {b o : Nat} {x : C8} (h : PtAt w b o x) (hb : Below B w w') (hlt : b < B) : PtAt w' b o x := fun j v hv => by
  rw [hb.cell (p := ⟨b, o + j, none⟩) hlt]; exact h j v hv
theorem HasP.below {B : Nat} {w w' : World} {a : Option Addr} {xs : List C8} (h : HasP w a xs) (hb : Below B w w') (hB : B = w.heap.size) : HasP w' a xs := by
  subst hB
  rcases h with h | ⟨b, rfl, hlt, hp⟩
  · exact Or.inl h
  · exact Or.inr ⟨b, rfl, by have := hb.size; omega, fun i hi => (hp i hi).below hb hlt⟩

/-- Two rows of one length. -/
def twOk (xs ys : List C8) : Bool := rvOk xs && rvOk ys && decide (xs.length = ys.length)

/-- The first products, and whether they are told. -/
def prP (xs ys : List C8) (k : Nat) : List C8 := (List.range k).map fun i => C8.mul (xs.getD i C8.zero) (ys.getD i C8.zero)
def prG (xs ys : List C8) : Nat → Bool
  | 0 => true
  | k + 1 => prG xs ys k && tmOk (xs.getD k C8.zero) (ys.getD k C8.zero)
theorem prP_succ (xs ys : List C8) (k : Nat) : prP xs ys (k + 1) = prP xs ys k ++ [C8.mul (xs.getD k C8.zero) (ys.getD k C8.zero)] := by
  simp [prP, List.range_succ]
theorem prP_len (xs ys : List C8) (k : Nat) : (prP xs ys k).length = k := by simp [prP]
theorem prG_no {xs ys : List C8} {k : Nat} (h : prG xs ys k = false) : ∀ n, k ≤ n → prG xs ys n = false
  | 0, hn => by obtain rfl : k = 0 := by omega
                exact h
  | n + 1, hn => by
    by_cases e : k = n + 1
    · subst e; exact h
    · show (prG xs ys n && _) = false
      rw [prG_no h n (by omega)]; rfl
def rtOk (xs ys : List C8) : Bool := twOk xs ys && prG xs ys xs.length
def rtR (xs ys : List C8) : List C8 := if rtOk xs ys = true then prP xs ys xs.length else []
/-- What a function that makes a row gives. -/
def RowPost (w : World) (ok : Bool) (zs : List C8) (e : Ending) (w' : World) : Prop := ∃ v, e = .returned (.tuple #[v, .bool ok]) ∧ OwnsP w' w.heap.size v zs ∧ Below w.heap.size w w'
end Go.Proofs.YthojdoiffkdikaaGreatDoor
end
section -- a part
namespace Go.Proofs.YthojdoiffkdikaaGreatDoor
open Go.RowKit

theorem infoC : ∃ i, Tryz.prog.info? 59 = some i ∧ i.zero = some (cv C8.zero) ∧ i.size = 8 ∧ i.bytes = 64 := by
  have h0 := zeroC8
  cases hq : Tryz.prog.info? 59 with
  | none => rw [hq] at h0; cases h0
  | some i =>
    rw [hq] at h0
    simp only [Option.map_some, Option.some.injEq, Prod.mk.injEq] at h0
    exact ⟨i, rfl, h0.1, h0.2.1, h0.2.2⟩
/-- What was appended to a row that the call owns is Below, too. -/
theorem below_grown {B : Nat} {a w w' : World} {v : Value} (h : Below B a w) (hg : w.grownBy w' v.ownBlock) (hB : ∀ k, v.ownBlock = some k → B ≤ k) (hs : B ≤ w.heap.size) : Below B a w' :=
  h.trans ⟨hg.os, hg.tape, hg.output, hg.size, fun k hk => hg.block k (by omega) (fun e => by have := hB k e.symm; omega)⟩
theorem OwnsP.own_le {w : World} {B : Nat} {v : Value} {ys : List C8} (h : OwnsP w B v ys) : ∀ k, v.ownBlock = some k → B ≤ k := fun k hk => (World.ownsRow.lt h k hk).1

@[go_sem] theorem fold_row (a : C8) : Array.foldl (fun (cs : Array Value) (x : Value × Nat) => cs.setIfInBounds x.snd x.fst) #[(row C8.zero)[0]!, (row C8.zero)[1]!, (row C8.zero)[2]!, (row C8.zero)[3]!, (row C8.zero)[4]!, (row C8.zero)[5]!, (row C8.zero)[6]!, (row C8.zero)[7]!] ((row a).zipIdx 0) 0 8 = row a := by
  have e : ((row a).zipIdx 0) = #[(.int .i64 a.c0, 0), (.int .i64 a.c1, 1), (.int .i64 a.c2, 2), (.int .i64 a.c3, 3), (.int .i64 a.c4, 4), (.int .i64 a.c5, 5), (.int .i64 a.c6, 6), (.int .i64 a.c7, 7)] := by
    simp [row]
  rw [e]
  simp [row]
theorem heap_at2 {w : World} (o : Obj) (n : Nat) (hn : n = w.heap.size) : (w.alloc o).heap[n]? = some o := by subst hn; exact heap_alloc_new w o
theorem rowL_ones (a : C8) : ∀ u ∈ (row a).toList, u.oneCell' = true := fun u hu => Array.all_eq_true_iff_forall_mem.1 (rowL_one a) u (by simpa using hu)
theorem OwnsP.snoc {w : World} {B : Nat} {v : Value} {ys : List C8} {x : C8} (h : w.ownsRow B 59 8 v (ys.length + 1) ((rowsV ys).toList ++ (row x).toList)) : OwnsP w B v (ys ++ [x]) := by
  unfold OwnsP; rw [rowsV_snoc, List.length_append]; exact h
end Go.Proofs.YthojdoiffkdikaaGreatDoor
end
section -- a part
namespace Go.Proofs.YthojdoiffkdikaaGreatDoor
open Go.RowKit

/-- A world in which block g holds the cells c. -/
def blk (w : World) (g : Nat) (T : TypeId) (c : Array Value) : World := { w with heap := w.heap.setIfInBounds g (.cells c T) }
section
variable {w : World} {g : Nat} {T : TypeId} {c : Array Value}
@[simp, go_sem] theorem size_blk : (blk w g T c).heap.size = w.heap.size := by simp [blk]
theorem heap_blk_same (hg : g < w.heap.size) : (blk w g T c).heap[g]? = some (.cells c T (0, 0)) := by
  show (w.heap.setIfInBounds g _)[g]? = _
  rw [Array.getElem?_setIfInBounds]; simp [hg]
theorem heap_blk_other (n : Nat) (hn : n ≠ g) : (blk w g T c).heap[n]? = w.heap[n]? := by
  show (w.heap.setIfInBounds g _)[n]? = _
  rw [Array.getElem?_setIfInBounds, if_neg (fun h => hn h.symm)]
theorem cell_blk (i : Nat) (hg : g < w.heap.size) : (blk w g T c).cell? ⟨g, i, none⟩ = c[i]? := cell_of_row _ g i c T (0, 0) (heap_blk_same hg)
@[go_sem] theorem frozen_blk (i : Nat) (hg : g < w.heap.size) : (blk w g T c).frozen? ⟨g, i, none⟩ = false := frozen_of_row _ g i c T (heap_blk_same hg)
@[go_sem] theorem blk_set (i : Nat) (v : Value) (hg : g < w.heap.size) : (blk w g T c).setCell ⟨g, i, none⟩ v = blk w g T (c.setIfInBounds i v) := by
  unfold blk World.setCell
  congr 1
  apply Array.ext_getElem?
  intro k
  simp only [Array.getElem?_modify, Array.getElem?_setIfInBounds]
  by_cases h : g = k
  · subst h; simp [hg]
  · simp [h]
theorem blk_self (h : w.heap[g]? = some (.cells c T (0, 0))) : w = blk w g T c := by
  cases w with
  | mk heap tape drawn os output =>
    simp only [blk, World.mk.injEq, and_true]
    apply Array.ext_getElem?
    intro k
    rw [Array.getElem?_setIfInBounds]
    by_cases hk : g = k
    · subst hk; simp only at h
      have hlt : g < heap.size := by
        by_cases hl : g < heap.size
        · exact hl
        · rw [Array.getElem?_eq_none (by omega)] at h; cases h
      rw [if_pos rfl, if_pos hlt]; exact h
    · simp [hk]
theorem grown_blk : w.grownBy (blk w g T c) (some g) :=
  ⟨rfl, rfl, rfl, by rw [size_blk]; omega, fun k _ hk => heap_blk_other k (fun e => hk (by rw [e]))⟩
end

/-- The cells with the first m of them marked from k on. -/
def mkb (cur : Array Value) (k : Int) (m : Nat) : Array Value := (Array.range cur.size).map fun x => if x < m then .int .i64 (k + x) else cur[x]?.getD undef
theorem mkb_size (cur : Array Value) (k : Int) (m : Nat) : (mkb cur k m).size = cur.size := by simp [mkb]
theorem mkb_get (cur : Array Value) (k : Int) (m x : Nat) (hx : x < cur.size) : (mkb cur k m)[x]? = some (if x < m then .int .i64 (k + x) else cur[x]?.getD undef) := by
  simp [mkb, hx]
theorem mkb_zero (cur : Array Value) (k : Int) : mkb cur k 0 = cur := by
  apply Array.ext_getElem?
  intro x
  by_cases hx : x < cur.size
  · rw [mkb_get _ _ _ _ hx]; simp [hx]
  · rw [Array.getElem?_eq_none (by rw [mkb_size]; omega), Array.getElem?_eq_none (by omega)]
theorem mkb_set (cur : Array Value) (k : Int) (m : Nat) (hm : m < cur.size) : (mkb cur k m).setIfInBounds m (.int .i64 (k + m)) = mkb cur k (m + 1) := by
  apply Array.ext_getElem?
  intro x
  rw [Array.getElem?_setIfInBounds]
  by_cases hx : x < cur.size
  · by_cases e : m = x
    · subst e; rw [if_pos rfl, if_pos (by rw [mkb_size]; exact hm), mkb_get _ _ _ _ hx, if_pos (by omega)]
    · rw [if_neg e, mkb_get _ _ _ _ hx, mkb_get _ _ _ _ hx]
      by_cases h1 : x < m
      · rw [if_pos h1, if_pos (by omega)]
      · rw [if_neg h1, if_neg (by omega)]
  · rw [if_neg (by omega), Array.getElem?_eq_none (by rw [mkb_size]; omega), Array.getElem?_eq_none (by rw [mkb_size]; omega)]

/-- The cells of a slice of n elements of s cells bear marks from k on. -/
def HeldAt (w : World) (v : Value) (s n : Nat) (k : Int) : Prop :=
  (n = 0 ∧ ∃ a cap, v = .slice a 0 cap) ∨ ∃ g cap : Nat, v = .slice (some ⟨g, 0, none⟩) n cap ∧ g < w.heap.size ∧ ∀ x, x < n * s → w.cell? ⟨g, x, none⟩ = some (.int .i64 (k + x))
theorem HeldAt.kept {w w' : World} {v : Value} {s n : Nat} {k : Int} {row : Option Nat} (h : HeldAt w v s n k) (hg : w.grownBy w' row) (hne : ∀ g, v.ownBlock = some g → row ≠ some g) : HeldAt w' v s n k := by
  rcases h with h | ⟨g, cap, rfl, hlt, hz⟩
  · exact Or.inl h
  · refine Or.inr ⟨g, cap, rfl, by have := hg.size; omega, fun x hx => ?_⟩
    exact hg.cell (hz x hx) (fun e => hne g rfl e.symm)
/-- Behind marks. -/
def MarkPost (w : World) (v : Value) (s n : Nat) (k : Int) (e : Ending) (w' : World) : Prop := e = .returned (.int .i64 (k + n * s)) ∧ w.grownBy w' v.ownBlock ∧ HeldAt w' v s n k

end Go.Proofs.YthojdoiffkdikaaGreatDoor
end
