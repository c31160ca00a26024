/- Rows of wheels in memory: plain facts on blocks and ranges; the laws' own copies of designs. -/
import Derived.Test.YthojdoiffkdikaaGreatDoorRowA
namespace Go.Proofs.YthojdoiffkdikaaGreatDoor
open Go.RowKit

/-- A wheel. -/
structure W9 where
  s : Int
  r : C8
def W9.zero : W9 := ⟨0, C8.zero⟩
def W9.l (x : W9) : List Int := [x.s, x.r.c0, x.r.c1, x.r.c2, x.r.c3, x.r.c4, x.r.c5, x.r.c6, x.r.c7]
def W9.g (x : W9) (k : Nat) : Int := x.l.getD k 0
/-- A wheel's cells. -/
def rowW (x : W9) : Array Value := #[.int .i64 x.s, .int .i64 x.r.c0, .int .i64 x.r.c1, .int .i64 x.r.c2, .int .i64 x.r.c3, .int .i64 x.r.c4, .int .i64 x.r.c5, .int .i64 x.r.c6, .int .i64 x.r.c7]
abbrev wv (x : W9) : Value := .agg (rowW x)
@[go_sem] theorem rowW_fold (s c0 c1 c2 c3 c4 c5 c6 c7 : Int) : (#[.int .i64 s, .int .i64 c0, .int .i64 c1, .int .i64 c2, .int .i64 c3, .int .i64 c4, .int .i64 c5, .int .i64 c6, .int .i64 c7] : Array Value) = rowW ⟨s, ⟨c0, c1, c2, c3, c4, c5, c6, c7⟩⟩ := rfl
@[go_sem] theorem rowW_size (a : W9) : (rowW a).size = 9 := rfl
@[go_sem] theorem rowW_0 (a : W9) : (rowW a)[0]? = some (.int .i64 a.s) := rfl
@[go_sem] theorem rowW_1 (a : W9) : (rowW a)[1]? = some (.int .i64 a.r.c0) := rfl
@[go_sem] theorem rowW_2 (a : W9) : (rowW a)[2]? = some (.int .i64 a.r.c1) := rfl
@[go_sem] theorem rowW_3 (a : W9) : (rowW a)[3]? = some (.int .i64 a.r.c2) := rfl
@[go_sem] theorem rowW_4 (a : W9) : (rowW a)[4]? = some (.int .i64 a.r.c3) := rfl
@[go_sem] theorem rowW_5 (a : W9) : (rowW a)[5]? = some (.int .i64 a.r.c4) := rfl
@[go_sem] theorem rowW_6 (a : W9) : (rowW a)[6]? = some (.int .i64 a.r.c5) := rfl
@[go_sem] theorem rowW_7 (a : W9) : (rowW a)[7]? = some (.int .i64 a.r.c6) := rfl
@[go_sem] theorem rowW_8 (a : W9) : (rowW a)[8]? = some (.int .i64 a.r.c7) := rfl
theorem rowW_g (a : W9) (k : Nat) (hk : k < 9) : (rowW a)[k]? = some (.int .i64 (a.g k)) := by
  have : k = 0 ∨ k = 1 ∨ k = 2 ∨ k = 3 ∨ k = 4 ∨ k = 5 ∨ k = 6 ∨ k = 7 ∨ k = 8 := by omega
  rcases this with rfl | rfl | rfl | rfl | rfl | rfl | rfl | rfl | rfl <;> rfl
@[go_sem] theorem rowW_list (a : W9) : (rowW a).toList = [.int .i64 a.s, .int .i64 a.r.c0, .int .i64 a.r.c1, .int .i64 a.r.c2, .int .i64 a.r.c3, .int .i64 a.r.c4, .int .i64 a.r.c5, .int .i64 a.r.c6, .int .i64 a.r.c7] := rfl
@[go_sem] theorem W9.eta (a : W9) : W9.mk a.s a.r = a := rfl
def W9.updS (a : W9) (v : Int) : W9 := ⟨v, a.r⟩
def W9.updR (a : W9) (k : Nat) (v : Int) : W9 := ⟨a.s, a.r.upd k v⟩
@[go_sem] theorem rowW_upd0 (a : W9) (v : Int) : (rowW a).setIfInBounds 0 (.int .i64 v) = rowW ⟨v, a.r⟩ := by simp [rowW]
@[go_sem] theorem rowW_upd1 (a : W9) (v : Int) : (rowW a).setIfInBounds 1 (.int .i64 v) = rowW ⟨a.s, a.r.upd 0 v⟩ := by simp [rowW, C8.upd]
@[go_sem] theorem rowW_upd2 (a : W9) (v : Int) : (rowW a).setIfInBounds 2 (.int .i64 v) = rowW ⟨a.s, a.r.upd 1 v⟩ := by simp [rowW, C8.upd]
@[go_sem] theorem rowW_upd3 (a : W9) (v : Int) : (rowW a).setIfInBounds 3 (.int .i64 v) = rowW ⟨a.s, a.r.upd 2 v⟩ := by simp [rowW, C8.upd]
@[go_sem] theorem rowW_upd4 (a : W9) (v : Int) : (rowW a).setIfInBounds 4 (.int .i64 v) = rowW ⟨a.s, a.r.upd 3 v⟩ := by simp [rowW, C8.upd]
@[go_sem] theorem rowW_upd5 (a : W9) (v : Int) : (rowW a).setIfInBounds 5 (.int .i64 v) = rowW ⟨a.s, a.r.upd 4 v⟩ := by simp [rowW, C8.upd]
@[go_sem] theorem rowW_upd6 (a : W9) (v : Int) : (rowW a).setIfInBounds 6 (.int .i64 v) = rowW ⟨a.s, a.r.upd 5 v⟩ := by simp [rowW, C8.upd]
@[go_sem] theorem rowW_upd7 (a : W9) (v : Int) : (rowW a).setIfInBounds 7 (.int .i64 v) = rowW ⟨a.s, a.r.upd 6 v⟩ := by simp [rowW, C8.upd]
@[go_sem] theorem rowW_upd8 (a : W9) (v : Int) : (rowW a).setIfInBounds 8 (.int .i64 v) = rowW ⟨a.s, a.r.upd 7 v⟩ := by simp [rowW, C8.upd]

/-- The cells of a row of points. -/
def rowsW (xs : List W9) : Array Value := (Array.range (9 * xs.length)).map fun m => Value.int .i64 ((xs.getD (m / 9) W9.zero).g (m % 9))
theorem rowsW_size (xs : List W9) : (rowsW xs).size = 9 * xs.length := by simp [rowsW]
theorem rowsW_get (xs : List W9) (m : Nat) (h : m < 9 * xs.length) : (rowsW xs)[m]? = some (.int .i64 ((xs.getD (m / 9) W9.zero).g (m % 9))) := by
  simp [rowsW, h]
theorem rowWL_get (x : W9) (j : Nat) (h : j < 9) : (rowW x).toList[j]? = some (.int .i64 (x.g j)) := by
  have := rowW_g x j h
  simpa using this
theorem rowWL_len (x : W9) : (rowW x).toList.length = 9 := rfl
theorem rowWL_one (x : W9) : (rowW x).all (·.oneCell') = true := by simp [rowW, Value.oneCell']

/-- A point lies in a block from a place on. -/
def WhAt (w : World) (b o : Nat) (x : W9) : Prop := w.rangeAt b o (rowW x).toList
theorem WhAt.of_block {w : World} {b : Nat} {xs : List W9} {T : TypeId} {fr : Nat × Nat} (h : w.heap[b]? = some (.cells (rowsW xs) T fr)) (i : Nat) (hi : i < xs.length) : WhAt w b (i * 9) (xs.getD i W9.zero) := by
  intro j v hv
  have hj : j < 9 := by
    by_cases hj : j < 9
    · exact hj
    · rw [List.getElem?_eq_none (by rw [rowWL_len]; omega)] at hv; cases hv
  rw [rowWL_get _ _ hj] at hv
  cases hv
  rw [cell_of_row w b (i * 9 + j) _ T fr h, rowsW_get xs (i * 9 + j) (by omega), show (i * 9 + j) / 9 = i by omega, show (i * 9 + j) % 9 = j by omega]

/-- A slice that came in: its points lie in a block below B. -/
def HasWC (W : World) (B : Nat) (a : Option Addr) (xs : List W9) : Prop :=
  xs = [] ∨ ∃ b off : Nat, a = some ⟨b, off, none⟩ ∧ b < B ∧ ∀ i, i < xs.length → WhAt W b (off + i * 9) (xs.getD i W9.zero)
theorem HasWC.below {W W' : World} {B : Nat} {a : Option Addr} {xs : List W9} (h : HasWC W B a xs) (hb : Below B W W') : HasWC W' B a xs := by
  rcases h with h | ⟨b, off, rfl, hlt, hz⟩
  · exact Or.inl h
  · exact Or.inr ⟨b, off, rfl, hlt, fun i hi j v hv => by rw [hb.cell (p := ⟨b, off + i * 9 + j, none⟩) hlt]; exact hz i hi j v hv⟩

/-- Made rows. -/
theorem made_wheels (n : Nat) : madeCells (rowW W9.zero) (n * 9) = rowsW (List.replicate n W9.zero) := by
  apply Array.ext_getElem?
  intro m
  by_cases h : m < n * 9
  · rw [rowsW_get _ _ (by simp; omega)]
    have e1 : (List.replicate n W9.zero).getD (m / 9) W9.zero = W9.zero := by
      rw [List.getD_eq_getElem?_getD, List.getElem?_replicate]; split <;> rfl
    have e2 : W9.zero.g (m % 9) = 0 := by
      have : m % 9 = 0 ∨ m % 9 = 1 ∨ m % 9 = 2 ∨ m % 9 = 3 ∨ m % 9 = 4 ∨ m % 9 = 5 ∨ m % 9 = 6 ∨ m % 9 = 7 ∨ m % 9 = 8 := by omega
      rcases this with e | e | e | e | e | e | e | e | e <;> rw [e] <;> rfl
    rw [e1, e2]
    have hm8 : m % 9 < 9 := Nat.mod_lt _ (by omega)
    have hz : ∀ k, k < 9 → (rowW W9.zero)[k]! = Value.int .i64 0 := by
      intro k hk
      have : k = 0 ∨ k = 1 ∨ k = 2 ∨ k = 3 ∨ k = 4 ∨ k = 5 ∨ k = 6 ∨ k = 7 ∨ k = 8 := by omega
      rcases this with e | e | e | e | e | e | e | e | e <;> rw [e] <;> rfl
    simp [madeCells, h, rowW_size, hz _ hm8]
  · rw [Array.getElem?_eq_none (by rw [size_madeCells]; omega), Array.getElem?_eq_none (by rw [rowsW_size]; simp; omega)]

/-- A point is read. -/
theorem wpList_load_wh {ops : Array Oper} {rest : List Oper} {op : Oper} {a : Act} {w : World} {Q : Exit → Act → World → Prop} (hgd : op.guard = none) (ty : TypeId) (x : Operand) (ho : op.op = .load ty x)
    (b o : Nat) (c : W9) (hc : WhAt w b o c) (d : TypeDesc) (hu : Tryz.prog.underlying ty = some d) (hd : d.isRow = true) (hi : (Tryz.prog.info? ty).map (·.size) = some 9) (hx : a.eval x = .pointer (some ⟨b, o, none⟩))
    (h : wpList Tryz.prog ops Q rest (a.put op.dst (wv c)) w) : wpList Tryz.prog ops Q (op :: rest) a w :=
  wpList_load_mid hgd ty x ho b o hx (rowW c).toList d hc hu hd hi (by rw [Array.toArray_toList]; exact h)

/-- A block of a row, and whatever lies behind it. -/
theorem more_wrow_at (w : World) (xs : List W9) (T : TypeId) (os : Array Obj) (d : Nat) : (more (w.alloc (.cells (rowsW xs) T)) os d).heap[w.heap.size]? = some (.cells (rowsW xs) T (0, 0)) := by
  rw [heap_more _ (by simp), heap_alloc_new]
theorem there_wrow (w : World) (xs : List W9) (T : TypeId) (os : Array Obj) (d i : Nat) (hi : i < xs.length) : (more (w.alloc (.cells (rowsW xs) T)) os d).there w.heap.size (i * 9) 9 := by
  intro j hj
  have hb := more_wrow_at w xs T os d
  refine ⟨?_, frozen_of_row _ _ _ _ _ hb⟩
  rw [cell_of_row _ _ _ _ _ _ hb, rowsW_get _ _ (by omega)]; rfl
/-- A wheel stored into a row. -/
theorem wrows_set (xs : List W9) (i : Nat) (x : W9) (hi : i < xs.length) :
    ((((((((((rowsW xs).setIfInBounds (i * 9) (.int .i64 x.s)).setIfInBounds (i * 9 + 1) (.int .i64 x.r.c0)).setIfInBounds (i * 9 + 1 + 1) (.int .i64 x.r.c1)).setIfInBounds (i * 9 + 1 + 1 + 1) (.int .i64 x.r.c2)).setIfInBounds (i * 9 + 1 + 1 + 1 + 1) (.int .i64 x.r.c3)).setIfInBounds (i * 9 + 1 + 1 + 1 + 1 + 1) (.int .i64 x.r.c4)).setIfInBounds (i * 9 + 1 + 1 + 1 + 1 + 1 + 1) (.int .i64 x.r.c5)).setIfInBounds (i * 9 + 1 + 1 + 1 + 1 + 1 + 1 + 1) (.int .i64 x.r.c6)).setIfInBounds (i * 9 + 1 + 1 + 1 + 1 + 1 + 1 + 1 + 1) (.int .i64 x.r.c7)) = rowsW (xs.set i x) := by
  apply Array.ext_getElem?
  intro m
  by_cases hm : m < 9 * xs.length
  · rw [rowsW_get (xs.set i x) m (by simpa using hm)]
    have hs := rowsW_size xs
    simp only [Array.getElem?_setIfInBounds, Array.size_setIfInBounds, hs]
    by_cases hq : m / 9 = i
    · have e : (xs.set i x).getD (m / 9) W9.zero = x := by
        rw [List.getD_eq_getElem?_getD, List.getElem?_set, if_pos hq.symm, if_pos hi]; rfl
      rw [e]
      have hr : m = i * 9 ∨ m = i * 9 + 1 ∨ m = i * 9 + 2 ∨ m = i * 9 + 3 ∨ m = i * 9 + 4 ∨ m = i * 9 + 5 ∨ m = i * 9 + 6 ∨ m = i * 9 + 7 ∨ m = i * 9 + 8 := by omega
      rcases hr with rfl | rfl | rfl | rfl | rfl | rfl | rfl | rfl | rfl
      · rw [if_neg (by omega), if_neg (by omega), if_neg (by omega), if_neg (by omega), if_neg (by omega), if_neg (by omega), if_neg (by omega), if_neg (by omega), if_pos (by omega), if_pos (by omega), show (i * 9) % 9 = 0 by omega]; rfl
      · rw [if_neg (by omega), if_neg (by omega), if_neg (by omega), if_neg (by omega), if_neg (by omega), if_neg (by omega), if_neg (by omega), if_pos (by omega), if_pos (by omega), show (i * 9 + 1) % 9 = 1 by omega]; rfl
      · rw [if_neg (by omega), if_neg (by omega), if_neg (by omega), if_neg (by omega), if_neg (by omega), if_neg (by omega), if_pos (by omega), if_pos (by omega), show (i * 9 + 2) % 9 = 2 by omega]; rfl
      · rw [if_neg (by omega), if_neg (by omega), if_neg (by omega), if_neg (by omega), if_neg (by omega), if_pos (by omega), if_pos (by omega), show (i * 9 + 3) % 9 = 3 by omega]; rfl
      · rw [if_neg (by omega), if_neg (by omega), if_neg (by omega), if_neg (by omega), if_pos (by omega), if_pos (by omega), show (i * 9 + 4) % 9 = 4 by omega]; rfl
      · rw [if_neg (by omega), if_neg (by omega), if_neg (by omega), if_pos (by omega), if_pos (by omega), show (i * 9 + 5) % 9 = 5 by omega]; rfl
      · rw [if_neg (by omega), if_neg (by omega), if_pos (by omega), if_pos (by omega), show (i * 9 + 6) % 9 = 6 by omega]; rfl
      · rw [if_neg (by omega), if_pos (by omega), if_pos (by omega), show (i * 9 + 7) % 9 = 7 by omega]; rfl
      · rw [if_pos (by omega), if_pos (by omega), show (i * 9 + 8) % 9 = 8 by omega]; rfl
    · have e : (xs.set i x).getD (m / 9) W9.zero = xs.getD (m / 9) W9.zero := by
        rw [List.getD_eq_getElem?_getD, List.getElem?_set, if_neg (fun h => hq h.symm), List.getD_eq_getElem?_getD]
      rw [e, if_neg (by omega), if_neg (by omega), if_neg (by omega), if_neg (by omega), if_neg (by omega), if_neg (by omega), if_neg (by omega), if_neg (by omega), if_neg (by omega), rowsW_get xs m hm]
  · rw [Array.getElem?_eq_none (by simp only [Array.size_setIfInBounds, rowsW_size]; omega), Array.getElem?_eq_none (by rw [rowsW_size]; simp; omega)]
theorem setCells_wrows (w : World) (xs : List W9) (T : TypeId) (os : Array Obj) (d i : Nat) (x : W9) (hi : i < xs.length) :
    (more (w.alloc (.cells (rowsW xs) T)) os d).setCells w.heap.size (i * 9) (rowW x).toList = more (w.alloc (.cells (rowsW (xs.set i x)) T)) os d := by
  rw [← wrows_set xs i x hi, rowW_list]
  simp only [World.setCells, setCell_more_row]
/-- A point is stored into a row. -/
theorem wpList_store_wh {ops : Array Oper} {rest : List Oper} {op : Oper} {a : Act} {w : World} {xs : List W9} {T : TypeId} {os : Array Obj} {d : Nat} {Q : Exit → Act → World → Prop} (hgd : op.guard = none) (ty : TypeId) (x y : Operand) (ho : op.op = .store ty x y)
    (i : Nat) (c : W9) (hi : i < xs.length) (hinf : (Tryz.prog.info? ty).map (·.size) = some 9) (hx : a.eval x = .pointer (some ⟨w.heap.size, i * 9, none⟩)) (hy : a.eval y = wv c)
    (h : wpList Tryz.prog ops Q rest (a.put op.dst undef) (more (w.alloc (.cells (rowsW (xs.set i c)) T)) os d)) : wpList Tryz.prog ops Q (op :: rest) a (more (w.alloc (.cells (rowsW xs) T)) os d) :=
  wpList_store_mid hgd ty x y ho w.heap.size (i * 9) (rowW c) hx hy (there_wrow w xs T os d i hi) hinf (rowWL_one c) (by rw [setCells_wrows w xs T os d i c hi]; exact h)


theorem infoW9 : (Tryz.prog.info? 61).map (·.size) = some 9 := by kernel_rfl
theorem zeroW9 : (Tryz.prog.info? 61).map (fun i => (i.zero, i.size, i.bytes)) = some (some (wv W9.zero), 9, 72) := by kernel_rfl
theorem mkWheelS (n : Nat) (h : n ≤ 1048576) (w : World) : (Instr.makeSlice 31 (.int .i64 (n : Int)) (.int .i64 (n : Int))).run Tryz.prog w = .ok (.slice (some ⟨w.heap.size, 0, none⟩) n n) (w.alloc (.cells (rowsW (List.replicate n W9.zero)) 61)) := by
  have h0 := zeroW9
  cases hq : Tryz.prog.info? 61 with
  | none => rw [hq] at h0; cases h0
  | some i =>
    rw [hq] at h0
    simp only [Option.map_some, Option.some.injEq, Prod.mk.injEq] at h0
    have := run_make (P := Tryz.prog) w 31 61 i (wv W9.zero) Tryz.underlying31 hq h0.1 .i64 .i64 n n (by omega) (by omega) (by rw [h0.2.2]; omega) (by omega)
    rw [this, h0.2.1]
    simp only [Int.toNat_natCast]
    rw [show (wv W9.zero).cells = rowW W9.zero from rfl, made_wheels]
theorem take_rep_setW (xs : List W9) (k n : Nat) (hn : xs.length = n) (hk : k < n) : (xs.take k ++ List.replicate (n - k) W9.zero).set k (xs.getD k W9.zero) = xs.take (k + 1) ++ List.replicate (n - (k + 1)) W9.zero := by
  have hl : (xs.take k).length = k := by rw [List.length_take]; omega
  rw [List.set_append_right _ _ (by omega), hl, Nat.sub_self, show n - k = (n - (k + 1)) + 1 by omega, List.replicate_succ, List.set_cons_zero, List.take_succ_eq_append_getElem (by omega), List.append_assoc]
  congr 1
  rw [List.getD_eq_getElem?_getD, List.getElem?_eq_getElem (by omega)]
  rfl
/-- The nine cells of a wheel; its radius. -/
theorem WhAt.cells {w : World} {b o : Nat} {x : W9} (h : WhAt w b o x) : w.cell? ⟨b, o, none⟩ = some (.int .i64 x.s) ∧ w.cell? ⟨b, o + 1, none⟩ = some (.int .i64 x.r.c0) ∧ w.cell? ⟨b, o + 2, none⟩ = some (.int .i64 x.r.c1) ∧ w.cell? ⟨b, o + 3, none⟩ = some (.int .i64 x.r.c2) ∧ w.cell? ⟨b, o + 4, none⟩ = some (.int .i64 x.r.c3) ∧ w.cell? ⟨b, o + 5, none⟩ = some (.int .i64 x.r.c4) ∧ w.cell? ⟨b, o + 6, none⟩ = some (.int .i64 x.r.c5) ∧ w.cell? ⟨b, o + 7, none⟩ = some (.int .i64 x.r.c6) ∧ w.cell? ⟨b, o + 8, none⟩ = some (.int .i64 x.r.c7) := by
  have e : (rowW x).toList = [.int .i64 x.s, .int .i64 x.r.c0, .int .i64 x.r.c1, .int .i64 x.r.c2, .int .i64 x.r.c3, .int .i64 x.r.c4, .int .i64 x.r.c5, .int .i64 x.r.c6, .int .i64 x.r.c7] := rfl
  unfold WhAt at h
  rw [e] at h
  exact ⟨h 0 _ rfl, h 1 _ rfl, h 2 _ rfl, h 3 _ rfl, h 4 _ rfl, h 5 _ rfl, h 6 _ rfl, h 7 _ rfl, h 8 _ rfl⟩
/-- A row of wheels in memory, from the head of a block on. -/
def HasW (w : World) (a : Option Addr) (xs : List W9) : Prop :=
  xs = [] ∨ ∃ b : Nat, a = some ⟨b, 0, none⟩ ∧ b < w.heap.size ∧ ∀ i, i < xs.length → WhAt w b (i * 9) (xs.getD i W9.zero)
theorem WhAt.more {w : World} {b o : Nat} {x : W9} (h : WhAt w b o x) (hb : b < w.heap.size) (os : Array Obj) (d : Nat) : WhAt (more w os d) b o x := fun j v hv => by
  rw [cell?_more _ _ hb]; exact h j v hv
theorem WhAt.below {B : Nat} {w w' : World} {b o : Nat} {x : W9} (h : WhAt w b o x) (hb : Below B w w') (hlt : b < B) : WhAt w' b o x := fun j v hv => by
  rw [hb.cell (p := ⟨b, o + j, none⟩) hlt]; exact h j v hv
theorem HasW.more {w : World} {a : Option Addr} {xs : List W9} (h : HasW w a xs) (os : Array Obj) (d : Nat) : HasW (more w os d) a xs := by
  rcases h with h | ⟨b, rfl, hb, hp⟩
  · exact Or.inl h
  · exact Or.inr ⟨b, rfl, by rw [size_more]; omega, fun i hi => (hp i hi).more hb os d⟩
theorem HasW.alloc {w : World} {a : Option Addr} {xs : List W9} (h : HasW w a xs) (o : Obj) : HasW (w.alloc o) a xs := by
  rcases h with h | ⟨b, rfl, hb, hp⟩
  · exact Or.inl h
  · exact Or.inr ⟨b, rfl, by simp; omega, fun i hi => World.rangeAt_alloc (hp i hi) o⟩
theorem HasW.below {B : Nat} {w w' : World} {a : Option Addr} {xs : List W9} (h : HasW w a xs) (hb : Below B w w') (hB : B = w.heap.size) : HasW w' a xs := by
  subst hB
  rcases h with h | ⟨b, rfl, hlt, hp⟩
  · exact Or.inl h
  · exact Or.inr ⟨b, rfl, by have := hb.size; omega, fun i hi => (hp i hi).below hb hlt⟩
theorem HasW.made (w : World) (xs : List W9) (T : TypeId) (os : Array Obj) (d : Nat) : HasW (Go.Proofs.YthojdoiffkdikaaGreatDoor.more (w.alloc (.cells (rowsW xs) T)) os d) (some ⟨w.heap.size, 0, none⟩) xs :=
  Or.inr ⟨_, rfl, by simp; omega, fun i hi => WhAt.of_block (more_wrow_at w xs T os d) i hi⟩
theorem eqWheel_same (x : W9) (w : World) :
    Calls Tryz.prog 38 #[wv x, wv x] w fun e w' => e = .returned (.bool true) ∧ Below w.heap.size w w' := by
  go_enter Tryz.func38, Tryz.ntmps38
  go_wp2_with (go_at_call 62; refine (eqCyc_same _ _).mono ?_; rintro e w' ⟨rfl, hb⟩; obtain ⟨os, d, rfl⟩ := more_of_below hb; clear hb)
  go_ret
  exact ⟨rfl, by repeat' (first | (with_reducible exact Below.refl _ _) | (with_reducible assumption) | (with_reducible refine Below.alloc ?_ ?_ _) | (with_reducible refine below_more ?_ ?_ _ _) | (with_reducible refine below_rd ?_ ?_ _ _) | (with_reducible refine Below.drew ?_) | (with_reducible refine Below.setCell ?_ ?_ _) | go_size)⟩
end Go.Proofs.YthojdoiffkdikaaGreatDoor
