/- Rows of points in memory: plain facts on blocks and ranges; the laws' own copies of rows. -/
import Derived.Test.YtklmlodapinflaaCycH
import Derived.Deep.MidRow
import Derived.Laws.MakeOwn
import Derived.Deep.RegionWith
import Derived.Deep.RegionHeld3
import Derived.Deep.DeepCutAuto
namespace Go.Proofs.Ytklmlodapinflaa
open Go.RowKit

/-- The cells of a row of points. -/
def rowsV (xs : List C8) : Array Value := (Array.range (8 * xs.length)).map fun m => Value.int .i64 ((xs.getD (m / 8) C8.zero).g (m % 8))
theorem rowsV_size (xs : List C8) : (rowsV xs).size = 8 * xs.length := by simp [rowsV]
theorem rowsV_get (xs : List C8) (m : Nat) (h : m < 8 * xs.length) : (rowsV xs)[m]? = some (.int .i64 ((xs.getD (m / 8) C8.zero).g (m % 8))) := by
  simp [rowsV, h]
theorem rowL_get (x : C8) (j : Nat) (h : j < 8) : (row x).toList[j]? = some (.int .i64 (x.g j)) := by
  have := row_g x j h
  simpa using this
theorem rowL_len (x : C8) : (row x).toList.length = 8 := rfl
theorem rowL_one (x : C8) : (row x).all (·.oneCell') = true := by simp [row, Value.oneCell']

/-- A point lies in a block from a place on. -/
def PtAt (w : World) (b o : Nat) (x : C8) : Prop := w.rangeAt b o (row x).toList
theorem PtAt.of_block {w : World} {b : Nat} {xs : List C8} {T : TypeId} {fr : Nat × Nat} (h : w.heap[b]? = some (.cells (rowsV xs) T fr)) (i : Nat) (hi : i < xs.length) : PtAt w b (i * 8) (xs.getD i C8.zero) := by
  intro j v hv
  have hj : j < 8 := by
    by_cases hj : j < 8
    · exact hj
    · rw [List.getElem?_eq_none (by rw [rowL_len]; omega)] at hv; cases hv
  rw [rowL_get _ _ hj] at hv
  cases hv
  rw [cell_of_row w b (i * 8 + j) _ T fr h, rowsV_get xs (i * 8 + j) (by omega), show (i * 8 + j) / 8 = i by omega, show (i * 8 + j) % 8 = j by omega]

/-- A slice that came in: its points lie in a block below B. -/
def HasC (W : World) (B : Nat) (a : Option Addr) (xs : List C8) : Prop :=
  xs = [] ∨ ∃ b off : Nat, a = some ⟨b, off, none⟩ ∧ b < B ∧ ∀ i, i < xs.length → PtAt W b (off + i * 8) (xs.getD i C8.zero)
theorem HasC.below {W W' : World} {B : Nat} {a : Option Addr} {xs : List C8} (h : HasC W B a xs) (hb : Below B W W') : HasC W' B a xs := by
  rcases h with h | ⟨b, off, rfl, hlt, hz⟩
  · exact Or.inl h
  · exact Or.inr ⟨b, off, rfl, hlt, fun i hi j v hv => by rw [hb.cell (p := ⟨b, off + i * 8 + j, none⟩) hlt]; exact hz i hi j v hv⟩

/-- Made rows. -/
theorem made_rows (n : Nat) : madeCells (row C8.zero) (n * 8) = rowsV (List.replicate n C8.zero) := by
  apply Array.ext_getElem?
  intro m
  by_cases h : m < n * 8
  · rw [rowsV_get _ _ (by simp; omega)]
    have e1 : (List.replicate n C8.zero).getD (m / 8) C8.zero = C8.zero := by
      rw [List.getD_eq_getElem?_getD, List.getElem?_replicate]; split <;> rfl
    have e2 : C8.zero.g (m % 8) = 0 := by
      have : m % 8 = 0 ∨ m % 8 = 1 ∨ m % 8 = 2 ∨ m % 8 = 3 ∨ m % 8 = 4 ∨ m % 8 = 5 ∨ m % 8 = 6 ∨ m % 8 = 7 := by omega
      rcases this with e | e | e | e | e | e | e | e <;> rw [e] <;> rfl
    rw [e1, e2]
    have hm8 : m % 8 < 8 := Nat.mod_lt _ (by omega)
    have hz : ∀ k, k < 8 → (row C8.zero)[k]! = Value.int .i64 0 := by
      intro k hk
      have : k = 0 ∨ k = 1 ∨ k = 2 ∨ k = 3 ∨ k = 4 ∨ k = 5 ∨ k = 6 ∨ k = 7 := by omega
      rcases this with e | e | e | e | e | e | e | e <;> rw [e] <;> rfl
    simp [madeCells, h, row_size, hz _ hm8]
  · rw [Array.getElem?_eq_none (by rw [size_madeCells]; omega), Array.getElem?_eq_none (by rw [rowsV_size]; simp; omega)]

/-- A point is read. -/
theorem wpList_load_pt {ops : Array Oper} {rest : List Oper} {op : Oper} {a : Act} {w : World} {Q : Exit → Act → World → Prop} (hgd : op.guard = none) (ty : TypeId) (x : Operand) (ho : op.op = .load ty x)
    (b o : Nat) (c : C8) (hc : PtAt w b o c) (d : TypeDesc) (hu : Try.prog.underlying ty = some d) (hd : d.isRow = true) (hi : (Try.prog.info? ty).map (·.size) = some 8) (hx : a.eval x = .pointer (some ⟨b, o, none⟩))
    (h : wpList Try.prog ops Q rest (a.put op.dst (cv c)) w) : wpList Try.prog ops Q (op :: rest) a w :=
  wpList_load_mid hgd ty x ho b o hx (row c).toList d hc hu hd hi (by rw [Array.toArray_toList]; exact h)

/-- A block of a row, and whatever lies behind it. -/
theorem more_row_at (w : World) (xs : List C8) (T : TypeId) (os : Array Obj) (d : Nat) : (more (w.alloc (.cells (rowsV xs) T)) os d).heap[w.heap.size]? = some (.cells (rowsV xs) T (0, 0)) := by
  rw [heap_more _ (by simp), heap_alloc_new]
theorem there_row (w : World) (xs : List C8) (T : TypeId) (os : Array Obj) (d i : Nat) (hi : i < xs.length) : (more (w.alloc (.cells (rowsV xs) T)) os d).there w.heap.size (i * 8) 8 := by
  intro j hj
  have hb := more_row_at w xs T os d
  refine ⟨?_, frozen_of_row _ _ _ _ _ hb⟩
  rw [cell_of_row _ _ _ _ _ _ hb, rowsV_get _ _ (by omega)]; rfl
theorem setCell_more_row (w : World) (C : Array Value) (T : TypeId) (os : Array Obj) (d m : Nat) (v : Value) : (more (w.alloc (.cells C T)) os d).setCell ⟨w.heap.size, m, none⟩ v = more (w.alloc (.cells (C.setIfInBounds m v) T)) os d := by
  rw [setCell_more _ _ _ (by simp)]
  congr 1
  unfold World.setCell World.alloc
  congr 1
  apply Array.ext_getElem?
  intro k
  simp only [Array.getElem?_modify, Array.getElem?_push]
  by_cases hk : w.heap.size = k
  · subst hk; simp
  · simp only [hk, if_false]
    rw [if_neg (fun h => hk h.symm), if_neg (fun h => hk h.symm)]
/-- A point stored into a row. -/
theorem rows_set (xs : List C8) (i : Nat) (x : C8) (hi : i < xs.length) :
    ((((((((rowsV xs).setIfInBounds (i * 8) (.int .i64 x.c0)).setIfInBounds (i * 8 + 1) (.int .i64 x.c1)).setIfInBounds (i * 8 + 1 + 1) (.int .i64 x.c2)).setIfInBounds (i * 8 + 1 + 1 + 1) (.int .i64 x.c3)).setIfInBounds (i * 8 + 1 + 1 + 1 + 1) (.int .i64 x.c4)).setIfInBounds (i * 8 + 1 + 1 + 1 + 1 + 1) (.int .i64 x.c5)).setIfInBounds (i * 8 + 1 + 1 + 1 + 1 + 1 + 1) (.int .i64 x.c6)).setIfInBounds (i * 8 + 1 + 1 + 1 + 1 + 1 + 1 + 1) (.int .i64 x.c7) = rowsV (xs.set i x) := by
  apply Array.ext_getElem?
  intro m
  by_cases hm : m < 8 * xs.length
  · rw [rowsV_get (xs.set i x) m (by simpa using hm)]
    have hs := rowsV_size xs
    simp only [Array.getElem?_setIfInBounds, Array.size_setIfInBounds, hs]
    by_cases hq : m / 8 = i
    · have e : (xs.set i x).getD (m / 8) C8.zero = x := by
        rw [List.getD_eq_getElem?_getD, List.getElem?_set, if_pos hq.symm, if_pos hi]; rfl
      rw [e]
      have hr : m = i * 8 ∨ m = i * 8 + 1 ∨ m = i * 8 + 2 ∨ m = i * 8 + 3 ∨ m = i * 8 + 4 ∨ m = i * 8 + 5 ∨ m = i * 8 + 6 ∨ m = i * 8 + 7 := by omega
      rcases hr with rfl | rfl | rfl | rfl | rfl | rfl | rfl | rfl
      · rw [if_neg (by omega), if_neg (by omega), if_neg (by omega), if_neg (by omega), if_neg (by omega), if_neg (by omega), if_neg (by omega), if_pos (by omega), if_pos (by omega), show (i * 8) % 8 = 0 by omega]; rfl
      · rw [if_neg (by omega), if_neg (by omega), if_neg (by omega), if_neg (by omega), if_neg (by omega), if_neg (by omega), if_pos (by omega), if_pos (by omega), show (i * 8 + 1) % 8 = 1 by omega]; rfl
      · rw [if_neg (by omega), if_neg (by omega), if_neg (by omega), if_neg (by omega), if_neg (by omega), if_pos (by omega), if_pos (by omega), show (i * 8 + 2) % 8 = 2 by omega]; rfl
      · rw [if_neg (by omega), if_neg (by omega), if_neg (by omega), if_neg (by omega), if_pos (by omega), if_pos (by omega), show (i * 8 + 3) % 8 = 3 by omega]; rfl
      · rw [if_neg (by omega), if_neg (by omega), if_neg (by omega), if_pos (by omega), if_pos (by omega), show (i * 8 + 4) % 8 = 4 by omega]; rfl
      · rw [if_neg (by omega), if_neg (by omega), if_pos (by omega), if_pos (by omega), show (i * 8 + 5) % 8 = 5 by omega]; rfl
      · rw [if_neg (by omega), if_pos (by omega), if_pos (by omega), show (i * 8 + 6) % 8 = 6 by omega]; rfl
      · rw [if_pos (by omega), if_pos (by omega), show (i * 8 + 7) % 8 = 7 by omega]; rfl
    · have e : (xs.set i x).getD (m / 8) C8.zero = xs.getD (m / 8) C8.zero := by
        rw [List.getD_eq_getElem?_getD, List.getElem?_set, if_neg (fun h => hq h.symm), List.getD_eq_getElem?_getD]
      rw [e, if_neg (by omega), if_neg (by omega), if_neg (by omega), if_neg (by omega), if_neg (by omega), if_neg (by omega), if_neg (by omega), if_neg (by omega), rowsV_get xs m hm]
  · rw [Array.getElem?_eq_none (by simp only [Array.size_setIfInBounds, rowsV_size]; omega), Array.getElem?_eq_none (by rw [rowsV_size]; simp; omega)]
theorem setCells_rows (w : World) (xs : List C8) (T : TypeId) (os : Array Obj) (d i : Nat) (x : C8) (hi : i < xs.length) :
    (more (w.alloc (.cells (rowsV xs) T)) os d).setCells w.heap.size (i * 8) (row x).toList = more (w.alloc (.cells (rowsV (xs.set i x)) T)) os d := by
  rw [← rows_set xs i x hi, row_list]
  simp only [World.setCells, setCell_more_row]
/-- A point is stored into a row. -/
theorem wpList_store_pt {ops : Array Oper} {rest : List Oper} {op : Oper} {a : Act} {w : World} {xs : List C8} {T : TypeId} {os : Array Obj} {d : Nat} {Q : Exit → Act → World → Prop} (hgd : op.guard = none) (ty : TypeId) (x y : Operand) (ho : op.op = .store ty x y)
    (i : Nat) (c : C8) (hi : i < xs.length) (hinf : (Try.prog.info? ty).map (·.size) = some 8) (hx : a.eval x = .pointer (some ⟨w.heap.size, i * 8, none⟩)) (hy : a.eval y = cv c)
    (h : wpList Try.prog ops Q rest (a.put op.dst undef) (more (w.alloc (.cells (rowsV (xs.set i c)) T)) os d)) : wpList Try.prog ops Q (op :: rest) a (more (w.alloc (.cells (rowsV xs) T)) os d) :=
  wpList_store_mid hgd ty x y ho w.heap.size (i * 8) (row c) hx hy (there_row w xs T os d i hi) hinf (rowL_one c) (by rw [setCells_rows w xs T os d i c hi]; exact h)

theorem infoC8 : (Try.prog.info? 25).map (·.size) = some 8 := by kernel_rfl
theorem zeroC8 : (Try.prog.info? 25).map (fun i => (i.zero, i.size, i.bytes)) = some (some (cv C8.zero), 8, 64) := by kernel_rfl
theorem mkCycS (n : Nat) (h : n ≤ 1048576) (w : World) : (Instr.makeSlice 49 (.int .i64 (n : Int)) (.int .i64 (n : Int))).run Try.prog w = .ok (.slice (some ⟨w.heap.size, 0, none⟩) n n) (w.alloc (.cells (rowsV (List.replicate n C8.zero)) 25)) := by
  have h0 := zeroC8
  cases hq : Try.prog.info? 25 with
  | none => rw [hq] at h0; cases h0
  | some i =>
    rw [hq] at h0
    simp only [Option.map_some, Option.some.injEq, Prod.mk.injEq] at h0
    have := run_make (P := Try.prog) w 49 25 i (cv C8.zero) Try.underlying49 hq h0.1 .i64 .i64 n n (by omega) (by omega) (by rw [h0.2.2]; omega) (by omega)
    rw [this, h0.2.1]
    simp only [Int.toNat_natCast]
    rw [show (cv C8.zero).cells = row C8.zero from rfl, made_rows]

theorem take_rep_set (xs : List C8) (k n : Nat) (hn : xs.length = n) (hk : k < n) : (xs.take k ++ List.replicate (n - k) C8.zero).set k (xs.getD k C8.zero) = xs.take (k + 1) ++ List.replicate (n - (k + 1)) C8.zero := by
  have hl : (xs.take k).length = k := by rw [List.length_take]; omega
  rw [List.set_append_right _ _ (by omega), hl, Nat.sub_self, show n - k = (n - (k + 1)) + 1 by omega, List.replicate_succ, List.set_cons_zero, List.take_succ_eq_append_getElem (by omega), List.append_assoc]
  congr 1
  rw [List.getD_eq_getElem?_getD, List.getElem?_eq_getElem (by omega)]
  rfl

theorem infoL8 : (Try.prog.info? 35).map (·.size) = some 8 := by kernel_rfl
set_option maxRecDepth 100000 in
theorem toCycS_any (a : Option Addr) (cap : Nat) (xs : List C8) (w W0 : World) (B : Nat) (hx : HasC W0 B a xs) (hb : Below B W0 w) (hB : B ≤ w.heap.size) (hn : xs.length ≤ 1048576) (hc : xs.length ≤ cap) :
    Calls Try.prog 34 #[.slice a xs.length cap] w fun e w' => e = .returned (.slice (some ⟨w.heap.size, 0, none⟩) xs.length xs.length) ∧ ∃ os d, w' = more (w.alloc (.cells (rowsV xs) 25)) os d := by
  obtain ⟨n, hn'⟩ : ∃ n, xs.length = n := ⟨_, rfl⟩
  rw [hn'] at hn hc ⊢
  have HN := Lib.hid hn'
  clear hn'
  have hmk := mkCycS n hn
  have HX := Lib.hid hx
  clear hx
  go_enter Try.func34, Try.ntmps34
  go_wp2
  go_loopw [4] (fun s wr => ∃ k : Nat, k ≤ n ∧ s = .int .i64 k ∧ ∃ os d, wr = more (w.alloc (.cells (rowsV (xs.take k ++ List.replicate (n - k) C8.zero)) 25)) os d) (fun s _ => n - (intOf s).toNat)
  case atStart => exact ⟨0, by omega, rfl, _, _, by rw [List.take_zero, List.nil_append, Nat.sub_zero]; exact more_self _⟩
  case round =>
    obtain ⟨k, hk, rfl, os, d, rfl⟩ := hrel
    by_cases hlt : k < n
    · rcases HX.out with hx | ⟨b, off, rfl, hlt2, hp⟩
      · exfalso; have := HN.out; rw [hx] at this; simp at this; omega
      · have hpk : PtAt (more (w.alloc (.cells (rowsV (xs.take k ++ List.replicate (n - k) C8.zero)) 25)) os d) b (off + k * 8) (xs.getD k C8.zero) := fun j v hv => by
          rw [cell?_more _ _ (by simp; omega), World.cell?_alloc_lt _ _ _ (by show b < w.heap.size; omega), hb.cell (p := ⟨b, off + k * 8 + j, none⟩) hlt2]
          exact hp k (by rw [HN.out]; exact hlt) j v hv
        clear hp
        have hkl : k < (xs.take k ++ List.replicate (n - k) C8.zero).length := by rw [List.length_append, List.length_take, List.length_replicate, HN.out]; omega
        have e0 := take_rep_set xs k n HN.out hlt
        obtain ⟨x, hxk⟩ : ∃ x, xs.getD k C8.zero = x := ⟨_, rfl⟩
        rw [hxk] at e0 hpk
        have E := Lib.hid e0
        have HP := Lib.hid hpk
        clear hxk e0
        have HK := Lib.hid hkl
        clear hpk hkl
        go_wp2_with (first
          | ((with_reducible refine wpList_load_pt (op := ⟨some 19, .load 35 (.tmp 18), _, _, _, _⟩) rfl _ _ rfl b (off + k * 8) _ HP.out _ Try.underlying35 rfl infoL8 ?_ ?_); (focus rfl))
          | ((with_reducible refine wpList_store_pt (op := ⟨none, .store 25 (.tmp 21) (.tmp 20), _, _, _, _⟩) rfl _ _ _ rfl k x HK.out infoC8 ?_ ?_ ?_); (focus rfl); (focus rfl); rw [E.out])
          | (go_at_call 20; refine (toCyc_any _ _).mono ?_; rintro e w' ⟨rfl, hb⟩; obtain ⟨os, d, rfl⟩ := more_of_below hb; clear hb))
        go_roundw
        case rel => exact ⟨k + 1, by omega, by go_num, _, _, rfl⟩
        case measure => simp [intOf]; omega
    · obtain rfl : k = n := by omega
      go_wp2
      go_returns
      exact ⟨rfl, _, _, by rw [List.take_of_length_le (by rw [HN.out]; omega)]⟩

/-- The eight cells of a point. -/
theorem PtAt.cells {w : World} {b o : Nat} {x : C8} (h : PtAt w b o x) : w.cell? ⟨b, o, none⟩ = some (.int .i64 x.c0) ∧ w.cell? ⟨b, o + 1, none⟩ = some (.int .i64 x.c1) ∧ w.cell? ⟨b, o + 2, none⟩ = some (.int .i64 x.c2) ∧ w.cell? ⟨b, o + 3, none⟩ = some (.int .i64 x.c3) ∧ w.cell? ⟨b, o + 4, none⟩ = some (.int .i64 x.c4) ∧ w.cell? ⟨b, o + 5, none⟩ = some (.int .i64 x.c5) ∧ w.cell? ⟨b, o + 6, none⟩ = some (.int .i64 x.c6) ∧ w.cell? ⟨b, o + 7, none⟩ = some (.int .i64 x.c7) := by
  have e : (row x).toList = [.int .i64 x.c0, .int .i64 x.c1, .int .i64 x.c2, .int .i64 x.c3, .int .i64 x.c4, .int .i64 x.c5, .int .i64 x.c6, .int .i64 x.c7] := rfl
  unfold PtAt at h
  rw [e] at h
  exact ⟨h 0 _ rfl, h 1 _ rfl, h 2 _ rfl, h 3 _ rfl, h 4 _ rfl, h 5 _ rfl, h 6 _ rfl, h 7 _ rfl⟩
/-- A row in memory, from the head of a block on. -/
def HasP (w : World) (a : Option Addr) (xs : List C8) : Prop :=
  xs = [] ∨ ∃ b : Nat, a = some ⟨b, 0, none⟩ ∧ b < w.heap.size ∧ ∀ i, i < xs.length → PtAt w b (i * 8) (xs.getD i C8.zero)
theorem PtAt.more {w : World} {b o : Nat} {x : C8} (h : PtAt w b o x) (hb : b < w.heap.size) (os : Array Obj) (d : Nat) : PtAt (more w os d) b o x := fun j v hv => by
  rw [cell?_more _ _ hb]; exact h j v hv
theorem HasP.more {w : World} {a : Option Addr} {xs : List C8} (h : HasP w a xs) (os : Array Obj) (d : Nat) : HasP (more w os d) a xs := by
  rcases h with h | ⟨b, rfl, hb, hp⟩
  · exact Or.inl h
  · exact Or.inr ⟨b, rfl, by rw [size_more]; omega, fun i hi => (hp i hi).more hb os d⟩
theorem HasP.alloc {w : World} {a : Option Addr} {xs : List C8} (h : HasP w a xs) (o : Obj) : HasP (w.alloc o) a xs := by
  rcases h with h | ⟨b, rfl, hb, hp⟩
  · exact Or.inl h
  · exact Or.inr ⟨b, rfl, by simp; omega, fun i hi => World.rangeAt_alloc (hp i hi) o⟩
theorem HasP.made (w : World) (xs : List C8) (T : TypeId) (os : Array Obj) (d : Nat) : HasP (Go.Proofs.Ytklmlodapinflaa.more (w.alloc (.cells (rowsV xs) T)) os d) (some ⟨w.heap.size, 0, none⟩) xs :=
  Or.inr ⟨_, rfl, by simp; omega, fun i hi => PtAt.of_block (more_row_at w xs T os d) i hi⟩

set_option maxRecDepth 100000 in
theorem eqCycS_none (a a' : Option Addr) (c c' : Nat) (w : World) :
    Calls Try.prog 36 #[.slice a 0 c, .slice a' 0 c'] w fun e w' => e = .returned (.bool true) ∧ Below w.heap.size w w' := by
  go_enter Try.func36, Try.ntmps36
  go_wp2
  go_rounds 1
  all_goals
    go_ret
    exact ⟨rfl, by repeat' (first | (with_reducible exact Below.refl _ _) | (with_reducible assumption) | (with_reducible refine Below.alloc ?_ ?_ _) | (with_reducible refine below_more ?_ ?_ _ _) | (with_reducible refine below_rd ?_ ?_ _ _) | (with_reducible refine Below.drew ?_) | (with_reducible refine Below.setCell ?_ ?_ _) | go_size)⟩
set_option maxRecDepth 100000 in
set_option maxHeartbeats 1000000 in
theorem eqCycS_some (b b' c c' : Nat) (xs : List C8) (w : World) (hb : b < w.heap.size) (hb' : b' < w.heap.size) (hp : ∀ i, i < xs.length → PtAt w b (i * 8) (xs.getD i C8.zero)) (hp' : ∀ i, i < xs.length → PtAt w b' (i * 8) (xs.getD i C8.zero)) (hn : xs.length ≤ 1048576) :
    Calls Try.prog 36 #[.slice (some ⟨b, 0, none⟩) xs.length c, .slice (some ⟨b', 0, none⟩) xs.length c'] w fun e w' => e = .returned (.bool true) ∧ Below w.heap.size w w' := by
  have HP := Lib.hid hp
  have HP' := Lib.hid hp'
  clear hp hp'
  obtain ⟨n, hn'⟩ : ∃ n, xs.length = n := ⟨_, rfl⟩
  rw [hn'] at hn ⊢
  have HN := Lib.hid hn'
  clear hn'
  go_enter Try.func36, Try.ntmps36
  go_wp2
  go_loopw [5] (fun s wr => ∃ k : Nat, k ≤ n ∧ s = .int .i64 k ∧ ∃ os d, wr = more w os d) (fun s _ => n - (intOf s).toNat)
  case atStart => exact ⟨0, by omega, rfl, _, _, more_self _⟩
  case round =>
    obtain ⟨k, hk, rfl, os, d, rfl⟩ := hrel
    by_cases hlt : k < n
    · have hpk := HP.out k (by rw [HN.out]; exact hlt)
      have hpk' := HP'.out k (by rw [HN.out]; exact hlt)
      obtain ⟨x, hxk⟩ : ∃ x, xs.getD k C8.zero = x := ⟨_, rfl⟩
      rw [hxk] at hpk hpk'
      clear hxk
      obtain ⟨x0, x1, x2, x3, x4, x5, x6, x7⟩ := hpk.cells
      obtain ⟨y0, y1, y2, y3, y4, y5, y6, y7⟩ := hpk'.cells
      have i0 : (0 : Int) ≤ (k : Int) := by omega
      have i1 : (k : Int) < (n : Int) := by omega
      clear hpk hpk'
      go_wp2_with fail
      go_region_held3 (fun w' => (w'.cell? ⟨b, k * 8, none⟩ = some (.int .i64 x.c0) ∧ w'.cell? ⟨b, k * 8 + 1, none⟩ = some (.int .i64 x.c1) ∧ w'.cell? ⟨b, k * 8 + 2, none⟩ = some (.int .i64 x.c2) ∧ w'.cell? ⟨b, k * 8 + 3, none⟩ = some (.int .i64 x.c3) ∧ w'.cell? ⟨b, k * 8 + 4, none⟩ = some (.int .i64 x.c4) ∧ w'.cell? ⟨b, k * 8 + 5, none⟩ = some (.int .i64 x.c5) ∧ w'.cell? ⟨b, k * 8 + 6, none⟩ = some (.int .i64 x.c6) ∧ w'.cell? ⟨b, k * 8 + 7, none⟩ = some (.int .i64 x.c7)) ∧ (w'.cell? ⟨b', k * 8, none⟩ = some (.int .i64 x.c0) ∧ w'.cell? ⟨b', k * 8 + 1, none⟩ = some (.int .i64 x.c1) ∧ w'.cell? ⟨b', k * 8 + 2, none⟩ = some (.int .i64 x.c2) ∧ w'.cell? ⟨b', k * 8 + 3, none⟩ = some (.int .i64 x.c3) ∧ w'.cell? ⟨b', k * 8 + 4, none⟩ = some (.int .i64 x.c4) ∧ w'.cell? ⟨b', k * 8 + 5, none⟩ = some (.int .i64 x.c5) ∧ w'.cell? ⟨b', k * 8 + 6, none⟩ = some (.int .i64 x.c6) ∧ w'.cell? ⟨b', k * 8 + 7, none⟩ = some (.int .i64 x.c7))) (simp [go_sem, *])
        (first | (go_at_call 45; refine (eqCyc_same _ _).mono ?_; rintro e w' ⟨rfl, hb⟩; obtain ⟨os, d, rfl⟩ := more_of_below hb; clear hb))
      all_goals
        go_wp2
        go_roundw
        case rel => exact ⟨k + 1, by omega, by go_num, _, _, rfl⟩
        case measure => simp [intOf]; omega
    · obtain rfl : k = n := by omega
      go_wp2
      go_ret
      exact ⟨rfl, by repeat' (first | (with_reducible exact Below.refl _ _) | (with_reducible assumption) | (with_reducible refine Below.alloc ?_ ?_ _) | (with_reducible refine below_more ?_ ?_ _ _) | (with_reducible refine below_rd ?_ ?_ _ _) | (with_reducible refine Below.drew ?_) | (with_reducible refine Below.setCell ?_ ?_ _) | go_size)⟩
theorem eqCycS_same (a a' : Option Addr) (c c' : Nat) (xs : List C8) (w : World) (h : HasP w a xs) (h' : HasP w a' xs) (hn : xs.length ≤ 1048576) :
    Calls Try.prog 36 #[.slice a xs.length c, .slice a' xs.length c'] w fun e w' => e = .returned (.bool true) ∧ Below w.heap.size w w' := by
  rcases h with rfl | ⟨b, rfl, hb, hp⟩
  · exact eqCycS_none _ _ _ _ w
  · rcases h' with rfl | ⟨b', rfl, hb', hp'⟩
    · exact eqCycS_none _ _ _ _ w
    · exact eqCycS_some b b' c c' xs w hb hb' hp hp' hn
theorem szCycS_any (a : Option Addr) (len cap : Nat) (left : Int) (h0 : 0 ≤ left) (h1 : left ≤ 1048576) (hl : len ≤ 9223372036854775807) (w : World) :
    Calls Try.prog 32 #[.slice a len cap, .int .i64 left] w fun e w' => e = .returned (.int .i64 (if left < len then -1 else left - len)) ∧ w = w' := by
  by_cases h : left < len
  · rw [if_pos h]
    go_enter Try.func32, Try.ntmps32
    go_wp2
    go_ret
    exact ⟨rfl, rfl⟩
  · rw [if_neg h]
    go_enter Try.func32, Try.ntmps32
    go_wp2
    go_ret
    exact ⟨rfl, rfl⟩
end Go.Proofs.Ytklmlodapinflaa
