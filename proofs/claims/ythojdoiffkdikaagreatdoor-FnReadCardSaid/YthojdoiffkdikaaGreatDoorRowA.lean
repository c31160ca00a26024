/- Rows of points in memory: plain facts on blocks and ranges; the laws' own copies of rows. -/
import Derived.Test.YthojdoiffkdikaaGreatDoorCycH
import Derived.Deep.MidRow
import Derived.Laws.MakeOwn
import Derived.Deep.RegionWith
import Derived.Deep.RegionHeld3
import Derived.Deep.DeepCutAuto
namespace Go.Proofs.YthojdoiffkdikaaGreatDoor
open Go.RowKit

/-- The cells of a row of points. -/
def rowsV (xs : List C8) : Array Value := (Array.range (8 * xs.length)).map fun m => Value.int .i64 ((xs.getD (m / 8) C8.zero).g (m % 8))
theorem rowsV_size (xs : List C8) : (rowsV xs).size = 8 * xs.length := by simp [rowsV]
theorem rowsV_get (xs : List C8) (m : Nat) (h : m < 8 * xs.length) : (rowsV xs)[m]? = some (.int .i64 ((xs.getD (m / 8) C8.zero).g (m % 8))) := by
  simp [rowsV, h]
theorem rowL_get (x : C8) (j : Nat) (h : j < 8) : (row x).toList[j]? = some (.int .i64 (x.g j)) := by
  have := row_g x j h
  simpa using this
theorem rowL_len (x : C8) : (row x).toList.length = 8 := rfl
theorem rowL_one (x : C8) : (row x).all (·.oneCell') = true := by simp [row, Value.oneCell']

/-- A point lies in a block from a place on. -/
def PtAt (w : World) (b o : Nat) (x : C8) : Prop := w.rangeAt b o (row x).toList
theorem PtAt.of_block {w : World} {b : Nat} {xs : List C8} {T : TypeId} {fr : Nat × Nat} (h : w.heap[b]? = some (.cells (rowsV xs) T fr)) (i : Nat) (hi : i < xs.length) : PtAt w b (i * 8) (xs.getD i C8.zero) := by
  intro j v hv
  have hj : j < 8 := by
    by_cases hj : j < 8
    · exact hj
    · rw [List.getElem?_eq_none (by rw [rowL_len]; omega)] at hv; cases hv
  rw [rowL_get _ _ hj] at hv
  cases hv
  rw [cell_of_row w b (i * 8 + j) _ T fr h, rowsV_get xs (i * 8 + j) (by omega), show (i * 8 + j) / 8 = i by omega, show (i * 8 + j) % 8 = j by omega]

/-- A slice that came in: its points lie in a block below B. -/
def HasC (W : World) (B : Nat) (a : Option Addr) (xs : List C8) : Prop :=
  xs = [] ∨ ∃ b off : Nat, a = some ⟨b, off, none⟩ ∧ b < B ∧ ∀ i, i < xs.length → PtAt W b (off + i * 8) (xs.getD i C8.zero)
theorem HasC.below {W W' : World} {B : Nat} {a : Option Addr} {xs : List C8} (h : HasC W B a xs) (hb : Below B W W') : HasC W' B a xs := by
  rcases h with h | ⟨b, off, rfl, hlt, hz⟩
  · exact Or.inl h
  · exact Or.inr ⟨b, off, rfl, hlt, fun i hi j v hv => by rw [hb.cell (p := ⟨b, off + i * 8 + j, none⟩) hlt]; exact hz i hi j v hv⟩

/-- Made rows. -/
theorem made_rows (n : Nat) : madeCells (row C8.zero) (n * 8) = rowsV (List.replicate n C8.zero) := by
  apply Array.ext_getElem?
  intro m
  by_cases h : m < n * 8
  · rw [rowsV_get _ _ (by simp; omega)]
    have e1 : (List.replicate n C8.zero).getD (m / 8) C8.zero = C8.zero := by
      rw [List.getD_eq_getElem?_getD, List.getElem?_replicate]; split <;> rfl
    have e2 : C8.zero.g (m % 8) = 0 := by
      have : m % 8 = 0 ∨ m % 8 = 1 ∨ m % 8 = 2 ∨ m % 8 = 3 ∨ m % 8 = 4 ∨ m % 8 = 5 ∨ m % 8 = 6 ∨ m % 8 = 7 := by omega
      rcases this with e | e | e | e | e | e | e | e <;> rw [e] <;> rfl
    rw [e1, e2]
    have hm8 : m % 8 < 8 := Nat.mod_lt _ (by omega)
    have hz : ∀ k, k < 8 → (row C8.zero)[k]! = Value.int .i64 0 := by
      intro k hk
      have : k = 0 ∨ k = 1 ∨ k = 2 ∨ k = 3 ∨ k = 4 ∨ k = 5 ∨ k = 6 ∨ k = 7 := by omega
      rcases this with e | e | e | e | e | e | e | e <;> rw [e] <;> rfl
    simp [madeCells, h, row_size, hz _ hm8]
  · rw [Array.getElem?_eq_none (by rw [size_madeCells]; omega), Array.getElem?_eq_none (by rw [rowsV_size]; simp; omega)]

/-- A point is read. -/
theorem wpList_load_pt {ops : Array Oper} {rest : List Oper} {op : Oper} {a : Act} {w : World} {Q : Exit → Act → World → Prop} (hgd : op.guard = none) (ty : TypeId) (x : Operand) (ho : op.op = .load ty x)
    (b o : Nat) (c : C8) (hc : PtAt w b o c) (d : TypeDesc) (hu : Tryz.prog.underlying ty = some d) (hd : d.isRow = true) (hi : (Tryz.prog.info? ty).map (·.size) = some 8) (hx : a.eval x = .pointer (some ⟨b, o, none⟩))
    (h : wpList Tryz.prog ops Q rest (a.put op.dst (cv c)) w) : wpList Tryz.prog ops Q (op :: rest) a w :=
  wpList_load_mid hgd ty x ho b o hx (row c).toList d hc hu hd hi (by rw [Array.toArray_toList]; exact h)

/-- A block of a row, and whatever lies behind it. -/
theorem more_row_at (w : World) (xs : List C8) (T : TypeId) (os : Array Obj) (d : Nat) : (more (w.alloc (.cells (rowsV xs) T)) os d).heap[w.heap.size]? = some (.cells (rowsV xs) T (0, 0)) := by
  rw [heap_more _ (by simp), heap_alloc_new]
theorem there_row (w : World) (xs : List C8) (T : TypeId) (os : Array Obj) (d i : Nat) (hi : i < xs.length) : (more (w.alloc (.cells (rowsV xs) T)) os d).there w.heap.size (i * 8) 8 := by
  intro j hj
  have hb := more_row_at w xs T os d
  refine ⟨?_, frozen_of_row _ _ _ _ _ hb⟩
  rw [cell_of_row _ _ _ _ _ _ hb, rowsV_get _ _ (by omega)]; rfl
theorem setCell_more_row (w : World) (C : Array Value) (T : TypeId) (os : Array Obj) (d m : Nat) (v : Value) : (more (w.alloc (.cells C T)) os d).setCell ⟨w.heap.size, m, none⟩ v = more (w.alloc (.cells (C.setIfInBounds m v) T)) os d := by
  rw [setCell_more _ _ _ (by simp)]
  congr 1
  unfold World.setCell World.alloc
  congr 1
  apply Array.ext_getElem?
  intro k
  simp only [Array.getElem?_modify, Array.getElem?_push]
  by_cases hk : w.heap.size = k
  · subst hk; simp
  · simp only [hk, if_false]
    rw [if_neg (fun h => hk h.symm), if_neg (fun h => hk h.symm)]
/-- A point stored into a row. -/
theorem rows_set (xs : List C8) (i : Nat) (x : C8) (hi : i < xs.length) :
    ((((((((rowsV xs).setIfInBounds (i * 8) (.int .i64 x.c0)).setIfInBounds (i * 8 + 1) (.int .i64 x.c1)).setIfInBounds (i * 8 + 1 + 1) (.int .i64 x.c2)).setIfInBounds (i * 8 + 1 + 1 + 1) (.int .i64 x.c3)).setIfInBounds (i * 8 + 1 + 1 + 1 + 1) (.int .i64 x.c4)).setIfInBounds (i * 8 + 1 + 1 + 1 + 1 + 1) (.int .i64 x.c5)).setIfInBounds (i * 8 + 1 + 1 + 1 + 1 + 1 + 1) (.int .i64 x.c6)).setIfInBounds (i * 8 + 1 + 1 + 1 + 1 + 1 + 1 + 1) (.int .i64 x.c7) = rowsV (xs.set i x) := by
  apply Array.ext_getElem?
  intro m
  by_cases hm : m < 8 * xs.length
  · rw [rowsV_get (xs.set i x) m (by simpa using hm)]
    have hs := rowsV_size xs
    simp only [Array.getElem?_setIfInBounds, Array.size_setIfInBounds, hs]
    by_cases hq : m / 8 = i
    · have e : (xs.set i x).getD (m / 8) C8.zero = x := by
        rw [List.getD_eq_getElem?_getD, List.getElem?_set, if_pos hq.symm, if_pos hi]; rfl
      rw [e]
      have hr : m = i * 8 ∨ m = i * 8 + 1 ∨ m = i * 8 + 2 ∨ m = i * 8 + 3 ∨ m = i * 8 + 4 ∨ m = i * 8 + 5 ∨ m = i * 8 + 6 ∨ m = i * 8 + 7 := by omega
      rcases hr with rfl | rfl | rfl | rfl | rfl | rfl | rfl | rfl
      · rw [if_neg (by omega), if_neg (by omega), if_neg (by omega), if_neg (by omega), if_neg (by omega), if_neg (by omega), if_neg (by omega), if_pos (by omega), if_pos (by omega), show (i * 8) % 8 = 0 by omega]; rfl
      · rw [if_neg (by omega), if_neg (by omega), if_neg (by omega), if_neg (by omega), if_neg (by omega), if_neg (by omega), if_pos (by omega), if_pos (by omega), show (i * 8 + 1) % 8 = 1 by omega]; rfl
      · rw [if_neg (by omega), if_neg (by omega), if_neg (by omega), if_neg (by omega), if_neg (by omega), if_pos (by omega), if_pos (by omega), show (i * 8 + 2) % 8 = 2 by omega]; rfl
      · rw [if_neg (by omega), if_neg (by omega), if_neg (by omega), if_neg (by omega), if_pos (by omega), if_pos (by omega), show (i * 8 + 3) % 8 = 3 by omega]; rfl
      · rw [if_neg (by omega), if_neg (by omega), if_neg (by omega), if_pos (by omega), if_pos (by omega), show (i * 8 + 4) % 8 = 4 by omega]; rfl
      · rw [if_neg (by omega), if_neg (by omega), if_pos (by omega), if_pos (by omega), show (i * 8 + 5) % 8 = 5 by omega]; rfl
      · rw [if_neg (by omega), if_pos (by omega), if_pos (by omega), show (i * 8 + 6) % 8 = 6 by omega]; rfl
      · rw [if_pos (by omega), if_pos (by omega), show (i * 8 + 7) % 8 = 7 by omega]; rfl
    · have e : (xs.set i x).getD (m / 8) C8.zero = xs.getD (m / 8) C8.zero := by
        rw [List.getD_eq_getElem?_getD, List.getElem?_set, if_neg (fun h => hq h.symm), List.getD_eq_getElem?_getD]
      rw [e, if_neg (by omega), if_neg (by omega), if_neg (by omega), if_neg (by omega), if_neg (by omega), if_neg (by omega), if_neg (by omega), if_neg (by omega), rowsV_get xs m hm]
  · rw [Array.getElem?_eq_none (by simp only [Array.size_setIfInBounds, rowsV_size]; omega), Array.getElem?_eq_none (by rw [rowsV_size]; simp; omega)]
theorem setCells_rows (w : World) (xs : List C8) (T : TypeId) (os : Array Obj) (d i : Nat) (x : C8) (hi : i < xs.length) :
    (more (w.alloc (.cells (rowsV xs) T)) os d).setCells w.heap.size (i * 8) (row x).toList = more (w.alloc (.cells (rowsV (xs.set i x)) T)) os d := by
  rw [← rows_set xs i x hi, row_list]
  simp only [World.setCells, setCell_more_row]
/-- A point is stored into a row. -/
theorem wpList_store_pt {ops : Array Oper} {rest : List Oper} {op : Oper} {a : Act} {w : World} {xs : List C8} {T : TypeId} {os : Array Obj} {d : Nat} {Q : Exit → Act → World → Prop} (hgd : op.guard = none) (ty : TypeId) (x y : Operand) (ho : op.op = .store ty x y)
    (i : Nat) (c : C8) (hi : i < xs.length) (hinf : (Tryz.prog.info? ty).map (·.size) = some 8) (hx : a.eval x = .pointer (some ⟨w.heap.size, i * 8, none⟩)) (hy : a.eval y = cv c)
    (h : wpList Tryz.prog ops Q rest (a.put op.dst undef) (more (w.alloc (.cells (rowsV (xs.set i c)) T)) os d)) : wpList Tryz.prog ops Q (op :: rest) a (more (w.alloc (.cells (rowsV xs) T)) os d) :=
  wpList_store_mid hgd ty x y ho w.heap.size (i * 8) (row c) hx hy (there_row w xs T os d i hi) hinf (rowL_one c) (by rw [setCells_rows w xs T os d i c hi]; exact h)

theorem infoC8 : (Tryz.prog.info? 59).map (·.size) = some 8 := by kernel_rfl
theorem zeroC8 : (Tryz.prog.info? 59).map (fun i => (i.zero, i.size, i.bytes)) = some (some (cv C8.zero), 8, 64) := by kernel_rfl
theorem take_rep_set (xs : List C8) (k n : Nat) (hn : xs.length = n) (hk : k < n) : (xs.take k ++ List.replicate (n - k) C8.zero).set k (xs.getD k C8.zero) = xs.take (k + 1) ++ List.replicate (n - (k + 1)) C8.zero := by
  have hl : (xs.take k).length = k := by rw [List.length_take]; omega
  rw [List.set_append_right _ _ (by omega), hl, Nat.sub_self, show n - k = (n - (k + 1)) + 1 by omega, List.replicate_succ, List.set_cons_zero, List.take_succ_eq_append_getElem (by omega), List.append_assoc]
  congr 1
  rw [List.getD_eq_getElem?_getD, List.getElem?_eq_getElem (by omega)]
  rfl


/-- The eight cells of a point. -/
theorem PtAt.cells {w : World} {b o : Nat} {x : C8} (h : PtAt w b o x) : w.cell? ⟨b, o, none⟩ = some (.int .i64 x.c0) ∧ w.cell? ⟨b, o + 1, none⟩ = some (.int .i64 x.c1) ∧ w.cell? ⟨b, o + 2, none⟩ = some (.int .i64 x.c2) ∧ w.cell? ⟨b, o + 3, none⟩ = some (.int .i64 x.c3) ∧ w.cell? ⟨b, o + 4, none⟩ = some (.int .i64 x.c4) ∧ w.cell? ⟨b, o + 5, none⟩ = some (.int .i64 x.c5) ∧ w.cell? ⟨b, o + 6, none⟩ = some (.int .i64 x.c6) ∧ w.cell? ⟨b, o + 7, none⟩ = some (.int .i64 x.c7) := by
  have e : (row x).toList = [.int .i64 x.c0, .int .i64 x.c1, .int .i64 x.c2, .int .i64 x.c3, .int .i64 x.c4, .int .i64 x.c5, .int .i64 x.c6, .int .i64 x.c7] := rfl
  unfold PtAt at h
  rw [e] at h
  exact ⟨h 0 _ rfl, h 1 _ rfl, h 2 _ rfl, h 3 _ rfl, h 4 _ rfl, h 5 _ rfl, h 6 _ rfl, h 7 _ rfl⟩
/-- A row in memory, from the head of a block on. -/
def HasP (w : World) (a : Option Addr) (xs : List C8) : Prop :=
  xs = [] ∨ ∃ b : Nat, a = some ⟨b, 0, none⟩ ∧ b < w.heap.size ∧ ∀ i, i < xs.length → PtAt w b (i * 8) (xs.getD i C8.zero)
theorem PtAt.more {w : World} {b o : Nat} {x : C8} (h : PtAt w b o x) (hb : b < w.heap.size) (os : Array Obj) (d : Nat) : PtAt (more w os d) b o x := fun j v hv => by
  rw [cell?_more _ _ hb]; exact h j v hv
theorem HasP.more {w : World} {a : Option Addr} {xs : List C8} (h : HasP w a xs) (os : Array Obj) (d : Nat) : HasP (more w os d) a xs := by
  rcases h with h | ⟨b, rfl, hb, hp⟩
  · exact Or.inl h
  · exact Or.inr ⟨b, rfl, by rw [size_more]; omega, fun i hi => (hp i hi).more hb os d⟩
theorem HasP.alloc {w : World} {a : Option Addr} {xs : List C8} (h : HasP w a xs) (o : Obj) : HasP (w.alloc o) a xs := by
  rcases h with h | ⟨b, rfl, hb, hp⟩
  · exact Or.inl h
  · exact Or.inr ⟨b, rfl, by simp; omega, fun i hi => World.rangeAt_alloc (hp i hi) o⟩
theorem HasP.made (w : World) (xs : List C8) (T : TypeId) (os : Array Obj) (d : Nat) : HasP (Go.Proofs.YthojdoiffkdikaaGreatDoor.more (w.alloc (.cells (rowsV xs) T)) os d) (some ⟨w.heap.size, 0, none⟩) xs :=
  Or.inr ⟨_, rfl, by simp; omega, fun i hi => PtAt.of_block (more_row_at w xs T os d) i hi⟩

end Go.Proofs.YthojdoiffkdikaaGreatDoor
