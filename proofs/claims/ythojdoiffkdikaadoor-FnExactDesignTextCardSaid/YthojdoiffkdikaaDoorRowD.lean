/- Rows of points that are made by append: what they own; rows of products. -/
import Derived.Test.YthojdoiffkdikaaDoorCycD
import Derived.Test.YthojdoiffkdikaaDoorCycI
import Derived.Deep.AppendLies
import Derived.Deep.RegionHeld3
namespace Go.Proofs.YthojdoiffkdikaaDoor
open Go.RowKit

theorem rowsV_snoc (xs : List C8) (x : C8) : (rowsV (xs ++ [x])).toList = (rowsV xs).toList ++ (row x).toList := by
  apply List.ext_getElem?
  intro m
  have hs := rowsV_size xs
  have hs2 := rowsV_size (xs ++ [x])
  by_cases h1 : m < 8 * xs.length
  · rw [List.getElem?_append_left (by rw [Array.length_toList, hs]; exact h1), Array.getElem?_toList, Array.getElem?_toList, rowsV_get _ _ (by simp; omega), rowsV_get _ _ h1]
    congr 3
    rw [List.getD_eq_getElem?_getD, List.getElem?_append_left (by omega), List.getD_eq_getElem?_getD]
  · by_cases h2 : m < 8 * xs.length + 8
    · rw [List.getElem?_append_right (by rw [Array.length_toList, hs]; omega), Array.length_toList, hs, Array.getElem?_toList, rowsV_get _ _ (by simp; omega), rowL_get _ _ (by omega)]
      have e : (xs ++ [x]).getD (m / 8) C8.zero = x := by
        rw [List.getD_eq_getElem?_getD, List.getElem?_append_right (by omega), show m / 8 - xs.length = 0 by omega]; rfl
      rw [e, show m % 8 = m - 8 * xs.length by omega]
    · rw [List.getElem?_eq_none (by rw [Array.length_toList, hs2]; simp; omega), List.getElem?_eq_none (by rw [List.length_append, Array.length_toList, hs, rowL_len]; omega)]

/-- A slice that the call owns: it reads as a row of points. -/
def OwnsP (w : World) (B : Nat) (v : Value) (ys : List C8) : Prop := w.ownsRow B 55 8 v ys.length (rowsV ys).toList
theorem OwnsP.nil (w : World) (B : Nat) : OwnsP w B (.slice none 0 0) [] := ⟨by simp [rowsV], Or.inl ⟨rfl, rfl⟩⟩
theorem OwnsP.more {w : World} {B : Nat} {v : Value} {ys : List C8} (h : OwnsP w B v ys) (os : Array Obj) (d : Nat) : OwnsP (more w os d) B v ys := by
  refine ⟨h.1, ?_⟩
  rcases h.2 with h0 | ⟨g, cap, cur, hv, hb, hg, h1, h2, h3, h4⟩
  · exact Or.inl h0
  · refine Or.inr ⟨g, cap, cur, hv, hb, ?_, h1, h2, h3, h4⟩
    rw [heap_more g (by
      by_cases hlt : g < w.heap.size
      · exact hlt
      · rw [Array.getElem?_eq_none (by omega)] at hg; cases hg)]
    exact hg
/-- What is owned reads as a row in memory. -/
theorem OwnsP.hasP {w : World} {B : Nat} {v : Value} {ys : List C8} (h : OwnsP w B v ys) : ∃ (a : Option Addr) (cap : Nat), v = .slice a ys.length cap ∧ HasP w a ys := by
  rcases h.2 with ⟨hv, hn⟩ | ⟨g, cap, cur, hv, hb, hg, h1, h2, h3, h4⟩
  · exact ⟨none, 0, by rw [hv, hn], Or.inl (List.length_eq_zero_iff.1 hn)⟩
  · refine ⟨some ⟨g, 0, none⟩, cap, hv, Or.inr ⟨g, rfl, ?_, fun i hi j u hu => ?_⟩⟩
    · by_cases hlt : g < w.heap.size
      · exact hlt
      · rw [Array.getElem?_eq_none (by omega)] at hg; cases hg
    · have hj : j < 8 := by
        by_cases hj : j < 8
        · exact hj
        · rw [List.getElem?_eq_none (by rw [rowL_len]; omega)] at hu; cases hu
      rw [rowL_get _ j hj] at hu
      cases hu
      have hm : i * 8 + j < 8 * ys.length := by omega
      have e : (cur.toList.take (ys.length * 8))[i * 8 + j]? = (rowsV ys).toList[i * 8 + j]? := by rw [h4]
      rw [List.getElem?_take_of_lt (by omega), Array.getElem?_toList, Array.getElem?_toList, rowsV_get _ _ hm, show (i * 8 + j) / 8 = i by omega, show (i * 8 + j) % 8 = j by omega] at e
      rw [cell_of_row w g (i * 8 + j) cur _ _ hg]; exact e
theorem OwnsP.alloc {w : World} {B : Nat} {v : Value} {ys : List C8} (h : OwnsP w B v ys) (o : Obj) : OwnsP (w.alloc o) B v ys := World.ownsRow.alloc h o
/-- An empty row with room. -/
theorem OwnsP.made (w : World) (B n : Nat) (hB : B ≤ w.heap.size) (hn : n ≤ 1048576) : OwnsP (w.alloc (.cells (rowsV (List.replicate n C8.zero)) 55)) B (.slice (some ⟨w.heap.size, 0, none⟩) 0 n) [] := by
  refine ⟨by simp [rowsV], Or.inr ⟨w.heap.size, n, _, rfl, hB, heap_alloc_new _ _, Nat.zero_le _, by unfold maxLen; omega, by rw [rowsV_size]; simp; omega, ?_⟩⟩
  simp [rowsV]
theorem PtAt.below {B : Nat} {w w' : World} {b o : Nat} {x : C8} (h : PtAt w b o x) (hb : Below B w w') (hlt : b < B) : PtAt w' b o x := fun j v hv => by
  rw [hb.cell (p := ⟨b, o + j, none⟩) hlt]; exact h j v hv
theorem HasP.below {B : Nat} {w w' : World} {a : Option Addr} {xs : List C8} (h : HasP w a xs) (hb : Below B w w') (hB : B = w.heap.size) : HasP w' a xs := by
  subst hB
  rcases h with h | ⟨b, rfl, hlt, hp⟩
  · exact Or.inl h
  · exact Or.inr ⟨b, rfl, by have := hb.size; omega, fun i hi => (hp i hi).below hb hlt⟩

/-- Two rows of one length. -/
def twOk (xs ys : List C8) : Bool := rvOk xs && rvOk ys && decide (xs.length = ys.length)

/-- The first products, and whether they are told. -/
def prP (xs ys : List C8) (k : Nat) : List C8 := (List.range k).map fun i => C8.mul (xs.getD i C8.zero) (ys.getD i C8.zero)
def prG (xs ys : List C8) : Nat → Bool
  | 0 => true
  | k + 1 => prG xs ys k && tmOk (xs.getD k C8.zero) (ys.getD k C8.zero)
theorem prP_succ (xs ys : List C8) (k : Nat) : prP xs ys (k + 1) = prP xs ys k ++ [C8.mul (xs.getD k C8.zero) (ys.getD k C8.zero)] := by
  simp [prP, List.range_succ]
theorem prP_len (xs ys : List C8) (k : Nat) : (prP xs ys k).length = k := by simp [prP]
theorem prG_no {xs ys : List C8} {k : Nat} (h : prG xs ys k = false) : ∀ n, k ≤ n → prG xs ys n = false
  | 0, hn => by obtain rfl : k = 0 := by omega
                exact h
  | n + 1, hn => by
    by_cases e : k = n + 1
    · subst e; exact h
    · show (prG xs ys n && _) = false
      rw [prG_no h n (by omega)]; rfl
def rtOk (xs ys : List C8) : Bool := twOk xs ys && prG xs ys xs.length
def rtR (xs ys : List C8) : List C8 := if rtOk xs ys = true then prP xs ys xs.length else []
/-- What a function that makes a row gives. -/
def RowPost (w : World) (ok : Bool) (zs : List C8) (e : Ending) (w' : World) : Prop := ∃ v, e = .returned (.tuple #[v, .bool ok]) ∧ OwnsP w' w.heap.size v zs ∧ Below w.heap.size w w'
end Go.Proofs.YthojdoiffkdikaaDoor
