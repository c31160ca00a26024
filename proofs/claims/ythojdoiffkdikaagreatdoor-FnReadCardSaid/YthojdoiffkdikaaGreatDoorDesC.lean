/- Tidy designs: the program's loop. -/
import Derived.Test.YthojdoiffkdikaaGreatDoorDesS
import Derived.Test.YthojdoiffkdikaaGreatDoorFix
import Derived.Test.YthojdoiffkdikaaGreatDoorCycI
import Derived.Deep.MidRow
namespace Go.Proofs.YthojdoiffkdikaaGreatDoor
open Go.RowKit

section
variable {P : Program} {ops : Array Oper}
/-- A region that draws its order, of which all operations but the last yield the same in whatever order; the last is forced. -/
theorem region_fixedT (S : World → Prop) {id : Nat} {a : Act} {w : World} {Q : Exit → Act → World → Prop} (hm : P.follows .mixedOrders = true) (m : Nat) (vs : List Value) (o : Oper) (ho : ops.toList.drop m = [o]) (hgd : o.guard = none) (hd : ∀ c, o.op ≠ .defer c) (hms : m ≤ ops.size) (hB : fixB .any ops a.tmps.size = true) (hT : tailB .any ops m = true) (hS : S w.drew)
    (hob : ObAll P ops S (puts a (ops.toList.take m) vs) (ops.toList.take m)) (hend : ∀ w, S w → o.wp P (puts a (ops.toList.take m) vs) w (fun a' w' => Q .normal a' w') Q) : (Code.region id ops true).wp P Q a w := by
  refine (wpIn_wide (n := 0)).1 (region_fixedIn (lets_wide 0) S hm m vs hms hB hT hS hob fun w1 hs => ?_)
  rw [ho]
  unfold wpListIn
  rw [if_pos (by simp [Region.wanted, hgd])]
  exact (lets_wide 0).2 o _ w1 _ Q hd (hend w1 hs)
/-- The same, where the last is a store of cells. (No goal is an operation's own: to elaborate against it runs the program.) -/
theorem region_fixedS (S : World → Prop) {id : Nat} {a : Act} {w : World} {Q : Exit → Act → World → Prop} (hm : P.follows .mixedOrders = true) (m : Nat) (vs : List Value) (o : Oper) (ho : ops.toList.drop m = [o]) (hgd : o.guard = none) (ty : TypeId) (x y : Operand) (hop : o.op = .store ty x y) (hms : m ≤ ops.size) (hB : fixB .any ops a.tmps.size = true) (hT : tailB .any ops m = true) (hS : S w.drew)
    (b off : Nat) (cells : Array Value) (hx : (puts a (ops.toList.take m) vs).eval x = .pointer (some ⟨b, off, none⟩)) (hy : (puts a (ops.toList.take m) vs).eval y = .agg cells) (hi : (P.info? ty).map (·.size) = some cells.size) (h1 : cells.all (·.oneCell') = true)
    (hob : ObAll P ops S (puts a (ops.toList.take m) vs) (ops.toList.take m)) (ht : ∀ w, S w → w.there b off cells.size) (hend : ∀ w, S w → Q .normal ((puts a (ops.toList.take m) vs).put o.dst undef) (w.setCells b off cells.toList)) : (Code.region id ops true).wp P Q a w :=
  region_fixedT S hm m vs o ho hgd (fun c h => by rw [hop] at h; cases h) hms hB hT hS hob fun w1 hs => wp_store_mid ty x y hop b off cells hx hy (ht w1 hs) hi h1 (hend w1 hs)
end
theorem idxS_none {xs : List W9} {s : Int} (h : ∀ x ∈ xs, x.s ≠ s) : idxS xs s = -1 := by
  unfold idxS Lib.idxBy
  have : ∀ (l : List W9) (i : Nat), (∀ x ∈ l, x.s ≠ s) → Lib.idxByFrom (fun _ (y : W9) => decide (y.s = s)) default l i = -1 := by
    intro l
    induction l with
    | nil => intro i _; rfl
    | cons y l ih =>
      intro i h
      rw [Lib.idxByFrom, if_neg (by simpa using h y (by simp)), ih (i + 1) fun x hx => h x (by simp [hx])]
  exact this xs 0 h
theorem idxS_some {xs : List W9} {s : Int} (h : ∃ x ∈ xs, x.s = s) : ∃ i, i < xs.length ∧ idxS xs s = (i : Int) ∧ (xs.getD i W9.zero).s = s ∧ ∀ j, j < i → (xs.getD j W9.zero).s ≠ s := by
  unfold idxS Lib.idxBy
  have : ∀ (l : List W9) (k : Nat), (∃ x ∈ l, x.s = s) → ∃ i, i < l.length ∧ Lib.idxByFrom (fun _ (y : W9) => decide (y.s = s)) default l k = ((k + i : Nat) : Int) ∧ (l.getD i W9.zero).s = s ∧ ∀ j, j < i → (l.getD j W9.zero).s ≠ s := by
    intro l
    induction l with
    | nil => intro k h; simp at h
    | cons y l ih =>
      intro k h
      by_cases hy : y.s = s
      · exact ⟨0, by simp, by rw [Lib.idxByFrom, if_pos (by simpa using hy)]; rfl, hy, fun j hj => by omega⟩
      · obtain ⟨i, h1, h2, h3, h4⟩ := ih (k + 1) (by
          obtain ⟨x, hx, e⟩ := h
          rcases List.mem_cons.1 hx with rfl | hx
          · exact absurd e hy
          · exact ⟨x, hx, e⟩)
        refine ⟨i + 1, by simp; omega, ?_, h3, fun j hj => ?_⟩
        · rw [Lib.idxByFrom, if_neg (by simpa using hy), h2]; congr 1; omega
        · cases j with
          | zero => exact hy
          | succ j => exact h4 j (by omega)
  obtain ⟨i, h1, h2, h3⟩ := this xs 0 h
  exact ⟨i, h1, by rw [h2]; congr 1; omega, h3⟩
/-- What is done at a place. -/
theorem addI_at : ∀ {xs : List W9} {w : W9} {i : Nat}, i < xs.length → (xs.getD i W9.zero).s = w.s → (∀ j, j < i → (xs.getD j W9.zero).s ≠ w.s) →
    addI xs w = xs.set i ⟨(xs.getD i W9.zero).s, C8.add (xs.getD i W9.zero).r w.r⟩ ∧ sumAt xs w = C8.add (xs.getD i W9.zero).r w.r
  | [], _, _, h, _, _ => by simp at h
  | x :: l, w, 0, _, h, _ => by
    have h : x.s = w.s := h
    rw [addI, if_pos h, sumAt, if_pos h]; exact ⟨rfl, rfl⟩
  | x :: l, w, i + 1, hi, h, hj => by
    have h0 : x.s ≠ w.s := hj 0 (by omega)
    obtain ⟨h1, h2⟩ := addI_at (xs := l) (w := w) (i := i) (by simpa using hi) h (fun j hjl => hj (j + 1) (by omega))
    rw [addI, if_neg h0, sumAt, if_neg h0, h1, h2]; exact ⟨rfl, rfl⟩
theorem addI_new {xs : List W9} {w : W9} (h : ∀ x ∈ xs, x.s ≠ w.s) : addI xs w = (xs ++ [(⟨w.s, C8.zero⟩ : W9)]).set xs.length (⟨w.s, C8.add C8.zero w.r⟩ : W9) ∧ sumAt xs w = C8.add C8.zero w.r := by
  have e : C8.add C8.zero w.r = w.r := by
    apply C8.ext' <;> simp [C8.add, C8.zero]
  rw [e, addI_none h, sumAt_none h, List.set_append_right _ _ (Nat.le_refl _), Nat.sub_self]
  exact ⟨rfl, rfl⟩
theorem add_ok {a b : C8} (ha : okC a = true) (hb : okC b = true) : (C8.add a b).wr = C8.add a b := by
  obtain ⟨a0, a1, a2, a3, a4, a5, a6, a7⟩ := okC_bd ha
  obtain ⟨b0, b1, b2, b3, b4, b5', b6, b7⟩ := okC_bd hb
  apply C8.ext' <;> simp only [C8.wr, C8.add] <;> exact wrap_in (by omega) (by omega)
/-- A row that a call owns, whatever capacity its slice tells. -/
def OwnsL (w : World) (B : Nat) (v : Value) (ys : List W9) : Prop := (v = .slice none 0 0 ∧ ys = []) ∨
  ∃ (g cap : Nat) (cur : Array Value), v = .slice (some ⟨g, 0, none⟩) ys.length cap ∧ B ≤ g ∧ w.heap[g]? = some (.cells cur 61 (0, 0)) ∧ ys.length ≤ cap ∧ 9 * ys.length ≤ cur.size ∧ cur.toList.take (9 * ys.length) = (rowsW ys).toList
theorem OwnsW.loose {w : World} {B : Nat} {v : Value} {ys : List W9} (h : OwnsW w B v ys) : OwnsL w B v ys := by
  rcases h.2 with ⟨hv, hn⟩ | ⟨g, cap, cur, hv, hb, hg, h1, h2, h3, h4⟩
  · exact Or.inl ⟨hv, List.length_eq_zero_iff.1 hn⟩
  · exact Or.inr ⟨g, cap, cur, hv, hb, hg, h1, by omega, by rw [Nat.mul_comm]; exact h4⟩
theorem OwnsW.clipped {w : World} {B g n cap : Nat} {ys : List W9} (h : OwnsW w B (.slice (some ⟨g, 0, none⟩) n cap) ys) (hn : ys.length = n) : OwnsL w B (.slice (some ⟨g, 0, none⟩) n n) ys := by
  subst hn
  rcases h.2 with ⟨hv, hn⟩ | ⟨g', cap', cur, hv, hb, hg, h1, h2, h3, h4⟩
  · cases hv
  · cases hv
    exact Or.inr ⟨g, _, cur, rfl, hb, hg, Nat.le_refl _, by omega, by rw [Nat.mul_comm]; exact h4⟩
theorem OwnsL.keep {w w' : World} {B : Nat} {v : Value} {ys : List W9} (h : OwnsL w B v ys) (hb : Below w.heap.size w w') : OwnsL w' B v ys := by
  rcases h with h0 | ⟨g, cap, cur, hv, hg, hh, h1, h2, h3⟩
  · exact Or.inl h0
  · exact Or.inr ⟨g, cap, cur, hv, hg, (hb.block g (Array.getElem?_eq_some_iff.1 hh).1).trans hh, h1, h2, h3⟩
theorem OwnsL.mono {w : World} {B B' : Nat} {v : Value} {ys : List W9} (h : OwnsL w B v ys) (hb : B' ≤ B) : OwnsL w B' v ys :=
  h.imp id (fun ⟨g, cap, cur, a, b, c⟩ => ⟨g, cap, cur, a, by omega, c⟩)
theorem OwnsL.hasW {w : World} {B : Nat} {v : Value} {ys : List W9} (h : OwnsL w B v ys) : ∃ (a : Option Addr) (cap : Nat), v = .slice a ys.length cap ∧ ys.length ≤ cap ∧ HasW w a ys := by
  rcases h with ⟨hv, hn⟩ | ⟨g, cap, cur, hv, hb, hg, h1, h2, h3⟩
  · exact ⟨none, 0, by rw [hv, hn]; rfl, by rw [hn]; exact Nat.le_refl _, Or.inl hn⟩
  · refine ⟨some ⟨g, 0, none⟩, cap, hv, h1, Or.inr ⟨g, rfl, (Array.getElem?_eq_some_iff.1 hg).1, fun i hi j u hu => ?_⟩⟩
    have hj : j < 9 := by
      by_cases hj : j < 9
      · exact hj
      · rw [List.getElem?_eq_none (by rw [rowWL_len]; omega)] at hu; cases hu
    rw [rowWL_get _ j hj] at hu
    cases hu
    have hm : i * 9 + j < 9 * ys.length := by omega
    have e : (cur.toList.take (9 * ys.length))[i * 9 + j]? = (rowsW ys).toList[i * 9 + j]? := by rw [h3]
    rw [List.getElem?_take_of_lt (by omega), Array.getElem?_toList, Array.getElem?_toList, rowsW_get _ _ hm, show (i * 9 + j) / 9 = i by omega, show (i * 9 + j) % 9 = j by omega] at e
    rw [cell_of_row w g (i * 9 + j) cur _ _ hg]; exact e
/-- The world behind a step has the row and more. -/
def DesPost (w : World) (r : Option (List W9)) (e : Ending) (w' : World) : Prop := ∃ v, e = .returned (.tuple #[v, .bool r.isSome]) ∧ OwnsL w' w.heap.size v (r.getD []) ∧ Below w.heap.size w w'
/-- A round of the loop of tidied, where the place is found. -/
structure TidMid (w W : World) (acc : List W9) (x : W9) (acc3 : List W9) (g3 c3 N3 i3 q3 k : Nat) : Prop where
  own : OwnsW W w.heap.size (.slice (some ⟨g3, 0, none⟩) N3 c3) acc3
  bel : Below w.heap.size w W
  box : W.heap[q3]? = some (.cells (rowW x) 61 (0, 0))
  len : acc3.length = N3
  hi : i3 < N3
  le : N3 ≤ k + 1
  ok : ∀ y ∈ acc3, okC y.r = true
  add : addI acc x = acc3.set i3 ⟨(acc3.getD i3 W9.zero).s, C8.add (acc3.getD i3 W9.zero).r x.r⟩
  sum : sumAt acc x = C8.add (acc3.getD i3 W9.zero).r x.r
theorem drew_selfW (w : World) : w.drew = Go.Proofs.YthojdoiffkdikaaGreatDoor.more w #[] (w.drawn + 1) := by cases w; simp [Go.Proofs.YthojdoiffkdikaaGreatDoor.more, World.drew]
theorem getD_memW {xs : List W9} {i : Nat} (h : i < xs.length) : xs.getD i W9.zero ∈ xs := by
  rw [List.getD_eq_getElem?_getD, List.getElem?_eq_getElem h]; exact List.getElem_mem _
theorem getD_snocW (xs : List W9) (y : W9) : (xs ++ [y]).getD xs.length W9.zero = y := by
  rw [List.getD_eq_getElem?_getD, List.getElem?_append_right (Nat.le_refl _), Nat.sub_self]; rfl
theorem okC_zero : okC C8.zero = true := by decide
section
variable {w W : World} {acc acc3 : List W9} {x : W9} {g3 c3 N3 i3 q3 k : Nat}
theorem TidMid.cells (h : TidMid w W acc x acc3 g3 c3 N3 i3 q3 k) : W.cell? ⟨g3, i3 * 9 + 1, none⟩ = some (.int .i64 (acc3.getD i3 W9.zero).r.c0) ∧ W.cell? ⟨g3, i3 * 9 + 1 + 1, none⟩ = some (.int .i64 (acc3.getD i3 W9.zero).r.c1) ∧ W.cell? ⟨g3, i3 * 9 + 1 + 2, none⟩ = some (.int .i64 (acc3.getD i3 W9.zero).r.c2) ∧ W.cell? ⟨g3, i3 * 9 + 1 + 3, none⟩ = some (.int .i64 (acc3.getD i3 W9.zero).r.c3) ∧ W.cell? ⟨g3, i3 * 9 + 1 + 4, none⟩ = some (.int .i64 (acc3.getD i3 W9.zero).r.c4) ∧ W.cell? ⟨g3, i3 * 9 + 1 + 5, none⟩ = some (.int .i64 (acc3.getD i3 W9.zero).r.c5) ∧ W.cell? ⟨g3, i3 * 9 + 1 + 6, none⟩ = some (.int .i64 (acc3.getD i3 W9.zero).r.c6) ∧ W.cell? ⟨g3, i3 * 9 + 1 + 7, none⟩ = some (.int .i64 (acc3.getD i3 W9.zero).r.c7) := by
  have ho := h.own
  rw [← h.len] at ho
  have hw := ho.lie i3 (by rw [h.len]; exact h.hi)
  rw [Nat.zero_add] at hw
  exact hw.cells.2
theorem TidMid.bcells (h : TidMid w W acc x acc3 g3 c3 N3 i3 q3 k) : W.cell? ⟨q3, 1, none⟩ = some (.int .i64 x.r.c0) ∧ W.cell? ⟨q3, 2, none⟩ = some (.int .i64 x.r.c1) ∧ W.cell? ⟨q3, 3, none⟩ = some (.int .i64 x.r.c2) ∧ W.cell? ⟨q3, 4, none⟩ = some (.int .i64 x.r.c3) ∧ W.cell? ⟨q3, 5, none⟩ = some (.int .i64 x.r.c4) ∧ W.cell? ⟨q3, 6, none⟩ = some (.int .i64 x.r.c5) ∧ W.cell? ⟨q3, 7, none⟩ = some (.int .i64 x.r.c6) ∧ W.cell? ⟨q3, 8, none⟩ = some (.int .i64 x.r.c7) :=
  ⟨Lib.cell_of_heap h.box 1, Lib.cell_of_heap h.box 2, Lib.cell_of_heap h.box 3, Lib.cell_of_heap h.box 4, Lib.cell_of_heap h.box 5, Lib.cell_of_heap h.box 6, Lib.cell_of_heap h.box 7, Lib.cell_of_heap h.box 8⟩
end
theorem TidMid.done {w W : World} {acc acc3 : List W9} {x y : W9} {g3 c3 N3 i3 q3 k : Nat} (h : TidMid w W acc x acc3 g3 c3 N3 i3 q3 k) (hy : acc3.getD i3 W9.zero = y) (os : Array Obj) (d : Nat) :
    OwnsW ((Go.Proofs.YthojdoiffkdikaaGreatDoor.more W os d).setCells g3 (i3 * 9 + 1) (row (C8.add y.r x.r)).toList) w.heap.size (.slice (some ⟨g3, 0, none⟩) N3 c3) (addI acc x) ∧ Below w.heap.size w ((Go.Proofs.YthojdoiffkdikaaGreatDoor.more W os d).setCells g3 (i3 * 9 + 1) (row (C8.add y.r x.r)).toList) ∧
    (addI acc x).length = N3 ∧ (addI acc x).getD i3 W9.zero = ⟨y.s, C8.add y.r x.r⟩ ∧ sumAt acc x = C8.add y.r x.r ∧ (okC (C8.add y.r x.r) = true → ∀ z ∈ addI acc x, okC z.r = true) := by
  have ho := h.own.more os d
  have hl := h.len
  have hi := h.hi
  subst hl
  obtain ⟨o4, g4⟩ := ho.rad i3 hi (C8.add y.r x.r)
  have ha := h.add
  rw [hy] at ha o4
  rw [← ha] at o4
  refine ⟨o4, ?_, by rw [ha, List.length_set], ?_, by rw [h.sum, hy], fun hok z hz => ?_⟩
  · refine below_ownedW (v := .slice (some ⟨g3, 0, none⟩) acc3.length c3) (below_more h.bel h.bel.size os d) g4 (h.own.own_le) ?_
    rw [size_more]; have := h.bel.size; omega
  · rw [ha, List.getD_eq_getElem?_getD, List.getElem?_set, if_pos rfl, if_pos hi]; rfl
  · rw [ha] at hz
    rcases List.mem_or_eq_of_mem_set hz with hz | rfl
    · exact h.ok z hz
    · exact hok
theorem OwnsW.cellsAt {w : World} {B g n cap : Nat} {xs : List W9} {z : W9} (h : OwnsW w B (.slice (some ⟨g, 0, none⟩) n cap) xs) (hn : xs.length = n) {i : Nat} (hi : i < n) (hz : xs.getD i W9.zero = z) : w.cell? ⟨g, i * 9, none⟩ = some (.int .i64 z.s) ∧ w.cell? ⟨g, i * 9 + 1, none⟩ = some (.int .i64 z.r.c0) ∧ w.cell? ⟨g, i * 9 + 1 + 1, none⟩ = some (.int .i64 z.r.c1) ∧ w.cell? ⟨g, i * 9 + 1 + 2, none⟩ = some (.int .i64 z.r.c2) ∧ w.cell? ⟨g, i * 9 + 1 + 3, none⟩ = some (.int .i64 z.r.c3) ∧ w.cell? ⟨g, i * 9 + 1 + 4, none⟩ = some (.int .i64 z.r.c4) ∧ w.cell? ⟨g, i * 9 + 1 + 5, none⟩ = some (.int .i64 z.r.c5) ∧ w.cell? ⟨g, i * 9 + 1 + 6, none⟩ = some (.int .i64 z.r.c6) ∧ w.cell? ⟨g, i * 9 + 1 + 7, none⟩ = some (.int .i64 z.r.c7) := by
  subst hn
  have hw := h.lie i hi
  rw [Nat.zero_add, hz] at hw
  exact hw.cells
theorem tyI_step {ds acc : List W9} {x : W9} {k : Nat} (hk : k < ds.length) (hx : ds.getD k W9.zero = x) (h : tyI [] ds = tyI acc (ds.drop k)) : tyI [] ds = if okC (sumAt acc x) = true then tyI (addI acc x) (ds.drop (k + 1)) else none := by
  have e : ds.drop k = x :: ds.drop (k + 1) := by
    rw [List.drop_eq_getElem_cons hk]
    congr 1
    rw [← hx, List.getD_eq_getElem?_getD, List.getElem?_eq_getElem hk]; rfl
  rw [h, e, tyI]
theorem tdR_none {ds : List W9} (h : tyI [] ds = none) : tdR ds = none := by
  rcases ty_end ds with ⟨-, h2⟩ | ⟨a, b, h1, -⟩
  · exact h2
  · rw [h] at h1; cases h1
theorem OwnsW.nil {w : World} {B : Nat} : OwnsW w B (.slice none 0 0) [] := ⟨by simp [rowsW], Or.inl ⟨rfl, rfl⟩⟩
theorem OwnsW.has {w : World} {B g cap : Nat} {xs : List W9} (h : OwnsW w B (.slice (some ⟨g, 0, none⟩) xs.length cap) xs) : HasW w (some ⟨g, 0, none⟩) xs :=
  Or.inr ⟨g, rfl, (World.ownsRow.lt h g rfl).2, fun i hi => by have := h.lie i hi; rwa [Nat.zero_add] at this⟩
theorem clip_any (g n c : Nat) (hc : n ≤ c) (w : World) :
    Calls Tryz.prog 113 #[.slice (some ⟨g, 0, none⟩) n c] w fun e w' => e = .returned (.slice (some ⟨g, 0, none⟩) n n) ∧ w = w' := by
  have h1 : (0 : Int) ≤ (n : Int) := by omega
  have h2 : (n : Int) ≤ (c : Int) := by omega
  go_enter Tryz.func113, Tryz.ntmps113
  go_wp2_with fail
  go_returns
  exact ⟨rfl, rfl⟩
/-- The world that the loop of tidied is in: what is done, and what is left. -/
structure TidSt (w wr : World) (ds acc : List W9) (k : Nat) (v : Value) : Prop where
  own : OwnsW wr w.heap.size v acc
  bel : Below w.heap.size w wr
  ty : tyI [] ds = tyI acc (ds.drop k)
  ok : ∀ x ∈ acc, okC x.r = true
set_option maxRecDepth 100000 in
set_option maxHeartbeats 4000000 in
theorem tidied_some (a : Option Addr) (cap : Nat) (ds : List W9) (w : World) (h : HasW w a ds) (hds : ∀ x ∈ ds, okC x.r = true) (hn : ds.length ≤ 12) :
    Calls Tryz.prog 70 #[.slice a ds.length cap] w (DesPost w (tdR ds)) := by
  obtain ⟨ic, hi, hz0, hz1, hz2⟩ := infoW
  have H := Lib.hid h
  have HDS := Lib.hid hds
  obtain ⟨n, hn'⟩ : ∃ n, ds.length = n := ⟨_, rfl⟩
  rw [hn'] at hn ⊢
  have HN := Lib.hid hn'
  clear h hds hi hz0 hz1 hz2 hn'
  have hmf : ∀ (fn : Fn) (first cap : Array Value) (w : World), (Instr.makeFunc fn first cap).run Tryz.prog w = .ok (.func fn first cap) w := fun _ _ _ _ => rfl
  go_enter Tryz.func70, Tryz.ntmps70
  go_wp2_with fail
  go_loopw [4, 11] (fun s4 s11 wr => ∃ (k g c : Nat) (acc : List W9), k ≤ n ∧ s11 = .int .i64 k ∧ s4 = .slice (some ⟨g, 0, none⟩) acc.length c ∧ acc.length ≤ k ∧ g < wr.heap.size ∧ Hid (TidSt w wr ds acc k (.slice (some ⟨g, 0, none⟩) acc.length c))) (fun _ s11 _ => n - (intOf s11).toNat)
  case atStart => exact ⟨0, _, _, [], by omega, rfl, rfl, by simp, by simp, ⟨OwnsW.empty w (Nat.le_refl _), by repeat' (first | (with_reducible exact Below.refl _ _) | (with_reducible assumption) | (with_reducible refine Below.alloc ?_ ?_ _) | (with_reducible refine below_more ?_ ?_ _ _) | (with_reducible refine below_rd ?_ ?_ _ _) | (with_reducible refine Below.drew ?_) | (with_reducible refine Below.setCell ?_ ?_ _) | go_size), by simp, by simp⟩⟩
  case round =>
    obtain ⟨k, g, c, acc, hk, rfl, rfl, hal, hg, hst⟩ := hrel
    by_cases hlt : k < n
    · have hn12 : acc.length ≤ 1048576 := by omega
      rcases H.out with h0 | ⟨b, rfl, hb, hp⟩
      · have := HN.out; rw [h0] at this; simp at this; omega
      have hpk := (hp k (by rw [HN.out]; exact hlt)).below hst.out.bel hb
      obtain ⟨x, hxk⟩ : ∃ x, ds.getD k W9.zero = x := ⟨_, rfl⟩
      rw [hxk] at hpk
      have HX := Lib.hid hxk
      have HK := Lib.hid hpk
      clear hpk hxk hp
      have hsz := hst.out.bel.size
      have hbx : (wr.alloc (.cells (rowW x) 61)).heap[wr.heap.size]? = some (.cells (rowW x) 61 (0, 0)) := heap_alloc_new _ _
      have HBX := Lib.hid hbx
      have HO1 := Lib.hid (hst.out.own.alloc (.cells (rowW x) 61))
      have HB1 := Lib.hid (hst.out.bel.alloc hsz (.cells (rowW x) 61))
      clear hbx
      by_cases hf : ∃ y ∈ acc, y.s = x.s
      focus
        obtain ⟨i, hi1, hi2, hi3, hi4⟩ := idxS_some hf
        have HI := Lib.hid hi2
        have HT := Lib.hid (addI_at hi1 hi3 hi4)
        have HS := Lib.hid hst.out.ok
        have hi3 := Lib.hid hi3
        have hi4 := Lib.hid hi4
        clear hf hi2
        go_wp2_with (first
          | ((with_reducible refine wpList_load_wh (op := ⟨some 14, .load 61 (.tmp 13), _, _, _, _⟩) rfl _ _ rfl b (k * 9) _ HK.out _ Tryz.underlying61 rfl infoW9 ?_ ?_); (focus rfl))
          | (go_at_call 105; go_must (refine (indexS_any g c wr.heap.size x.s acc _ ?_ ?_ hn12 ?_ ?_).mono ?_; (focus (rw [World.size_alloc]; omega)); (focus (exact HO1.out.lie)); (focus (rw [World.size_alloc]; omega)); (focus (exact (Lib.cell_of_heap HBX.out 0).trans rfl)); rintro e w2 ⟨rfl, hb2⟩; rw [HI.out]; have HO2 := Lib.hid (HO1.out.keep hb2); have HB2 := Lib.hid (HB1.out.trans (hb2.mono HB1.out.size)); have HX2 := Lib.hid ((hb2.block wr.heap.size (by rw [World.size_alloc]; omega)).trans HBX.out); clear hb2)))
        have HM := Lib.hid (⟨HO2.out, HB2.out, HX2.out, rfl, hi1, by omega, HS.out, HT.out.1, HT.out.2⟩ : TidMid w w2 acc x acc g c acc.length i wr.heap.size k)
        clear HO2 HB2 HX2 HI HT HS hi3 hi4 hi1
        generalize wr.heap.size = q3 at HM ⊢
        generalize acc.length = N3 at HM ⊢
        generalize g = g3 at HM ⊢
        generalize c = c3 at HM ⊢
        generalize (i : Nat) = i3 at HM ⊢
        generalize w2 = W3 at HM ⊢
        obtain ⟨acc3, HM⟩ : ∃ acc3, Hid (TidMid w W3 acc x acc3 g3 c3 N3 i3 q3 k) := ⟨_, HM⟩
      rotate_left
      focus
        have hno : ∀ y ∈ acc, y.s ≠ x.s := fun y hy e => hf ⟨y, hy, e⟩
        have HI := Lib.hid (idxS_none hno)
        have HT := Lib.hid (addI_new hno)
        have HS := Lib.hid hst.out.ok
        clear hf hno
        go_wp2_with (first
          | ((with_reducible refine wpList_load_wh (op := ⟨some 14, .load 61 (.tmp 13), _, _, _, _⟩) rfl _ _ rfl b (k * 9) _ HK.out _ Tryz.underlying61 rfl infoW9 ?_ ?_); (focus rfl))
          | (go_at_call 105; go_must (refine (indexS_any g c wr.heap.size x.s acc _ ?_ ?_ hn12 ?_ ?_).mono ?_; (focus (rw [World.size_alloc]; omega)); (focus (exact HO1.out.lie)); (focus (rw [World.size_alloc]; omega)); (focus (exact (Lib.cell_of_heap HBX.out 0).trans rfl)); rintro e w2 ⟨rfl, hb2⟩; rw [HI.out]; have HO2 := Lib.hid (HO1.out.keep hb2); have HB2 := Lib.hid (HB1.out.trans (hb2.mono HB1.out.size)); have hX2 := ((hb2.block wr.heap.size (by rw [World.size_alloc]; omega)).trans HBX.out); have hq2 : wr.heap.size < w2.heap.size := (Array.getElem?_eq_some_iff.1 hX2).1; have q0 : w2.cell? ⟨wr.heap.size, 0, none⟩ = some (.int .i64 x.s) := (Lib.cell_of_heap hX2 0).trans rfl; have HX2 := Lib.hid hX2; clear hb2 hX2))
          | (at_builtin; go_must (refine wpList_append_wh rfl _ _ rfl w.heap.size acc [⟨x.s, C8.zero⟩] (.slice (some ⟨g, 0, none⟩) acc.length c) rfl (HO2.out.alloc _) w2.heap.size 0 1 1 rfl rfl ?_ (by omega) (by omega) (by rw [World.size_alloc]; omega) ?_; (focus (exact Lie9.one (heap_alloc_new w2 (.cells (rowW ⟨x.s, C8.zero⟩) 61)))); intro g4 c4 w4 hown4 hgrow hat hb4; have HO4 := Lib.hid hown4; have HB4 := Lib.hid hb4; have HG4 := Lib.hid hgrow; clear hown4 hgrow hat hb4)))
        have HM := Lib.hid (⟨HO4.out, (HB2.out.alloc HB2.out.size _).trans HB4.out, (HG4.out.block wr.heap.size (by rw [World.size_alloc]; omega) (by intro e; have e2 : wr.heap.size = g := Option.some.inj e; omega)).trans ((((Below.refl _ w2).alloc (Nat.le_refl _) _).block _ hq2).trans HX2.out), by simp, by omega, by omega, (by intro y hy; rcases List.mem_append.1 hy with hy | hy; exact HS.out y hy; rw [List.mem_singleton.1 hy]; exact okC_zero), (by rw [getD_snocW]; exact HT.out.1), (by rw [getD_snocW]; exact HT.out.2)⟩ : TidMid w w4 acc x (acc ++ [⟨x.s, C8.zero⟩]) g4 c4 (acc.length + 1) acc.length wr.heap.size k)
        clear HO2 HO4 HB2 HB4 HX2 HI HT HS HG4 q0 hq2
        generalize wr.heap.size = q3 at HM ⊢
        generalize acc.length + 1 = N3 at HM ⊢
        generalize acc.length = i3 at HM ⊢
        generalize g4 = g3 at HM ⊢
        generalize c4 = c3 at HM ⊢
        generalize w4 = W3 at HM ⊢
        obtain ⟨acc3, HM⟩ : ∃ acc3, Hid (TidMid w W3 acc x acc3 g3 c3 N3 i3 q3 k) := ⟨_, HM⟩
      all_goals
        have HTY := Lib.hid hst.out.ty
        clear HO1 HB1 HBX hst
        obtain ⟨a0, a1, a2, a3, a4, a5, a6, a7⟩ := HM.out.cells
        obtain ⟨b0, b1, b2, b3, b4, b5', b6, b7⟩ := HM.out.bcells
        have hi0 : (0 : Int) ≤ (i3 : Int) := by omega
        have hi1 : (i3 : Int) < (N3 : Int) := by have := HM.out.hi; omega
        have hg3 : g3 < W3.heap.size := (World.ownsRow.lt HM.out.own g3 rfl).2
        have hq3 : q3 < W3.heap.size := (Array.getElem?_eq_some_iff.1 HM.out.box).1
        have HY := Lib.hid (add_ok (HM.out.ok _ (getD_memW (by rw [HM.out.len]; exact HM.out.hi))) (HDS.out x (by rw [← HX.out]; exact getD_memW (by rw [HN.out]; exact hlt))))
        obtain ⟨y, hy⟩ : ∃ y, acc3.getD i3 W9.zero = y := ⟨_, rfl⟩
        rw [hy] at a0 a1 a2 a3 a4 a5 a6 a7 HY
        have HYY := Lib.hid hy
        clear hy
        refine region_fixedS (fun w' => ∃ os' d', w' = Go.Proofs.YthojdoiffkdikaaGreatDoor.more W3 os' d') (by kernel_rfl) 12 [.slice (some ⟨g3, 0, none⟩) N3 c3, .int .i64 i3, .slice (some ⟨g3, 0, none⟩) N3 c3, .int .i64 i3, .pointer (some ⟨g3, i3 * 9, none⟩), .pointer (some ⟨g3, i3 * 9 + 1, none⟩), cv y.r, .pointer (some ⟨q3, 1, none⟩), cv x.r, cv (C8.add y.r x.r), .pointer (some ⟨g3, i3 * 9, none⟩), .pointer (some ⟨g3, i3 * 9 + 1, none⟩)] ⟨none, .store 59 (.tmp 39) (.tmp 37), _, _, _, none⟩ rfl rfl 59 (.tmp 39) (.tmp 37) rfl (by simp) (by kernel_rfl) (by kernel_rfl) ⟨#[], _, drew_selfW _⟩ g3 (i3 * 9 + 1) (row (C8.add y.r x.r)) ?_ ?_ infoC8 (rowL_one _) ?_ ?_ ?_
        · simp only [List.take_succ_cons, List.take_zero, puts, Act.put, List.setIfInBounds_toArray, List.set_cons_zero, List.set_cons_succ]
          rfl
        · simp only [List.take_succ_cons, List.take_zero, puts, Act.put, List.setIfInBounds_toArray, List.set_cons_zero, List.set_cons_succ]
          rfl
        · simp only [List.take_succ_cons, List.take_zero, puts, Act.put, List.setIfInBounds_toArray, List.set_cons_zero, List.set_cons_succ]
          refine ⟨?_, ?_, ?_, ?_, ?_, ?_, ?_, ?_, ?_, ?_, ?_, ?_, trivial⟩
          all_goals
            refine Or.inl ⟨by kernel_rfl, ?_⟩
            rintro w' ⟨os', d', rfl⟩ K2 hK
          iterate 9
            · go_simp
              with_reducible exact hK.out _ ⟨_, _, rfl⟩
          · go_simp
            go_at_call 107
            refine (cplus_any _ _ _).mono ?_
            rw [HY.out]
            rintro e w' ⟨rfl, hb⟩; obtain ⟨os, d, rfl⟩ := more_of_below hb; clear hb
            go_simp
            with_reducible exact hK.out _ ⟨_, _, rfl⟩
          iterate 2
            · go_simp
              with_reducible exact hK.out _ ⟨_, _, rfl⟩
        · rintro w' ⟨os', d', rfl⟩
          exact (HM.out.own.more os' d').there HM.out.len _ _ (by have := HM.out.hi; show i3 * 9 + 1 + 8 ≤ _; omega)
        · rintro w' ⟨os', d', rfl⟩
          simp only [List.take_succ_cons, List.take_zero, puts, Act.put, List.setIfInBounds_toArray, List.set_cons_zero, List.set_cons_succ]
          obtain ⟨o5, b5, l5, d5, s5, k5⟩ := HM.out.done HYY.out os' d'
          have hle3 := HM.out.le
          have HSUM := Lib.hid (tyI_step (by rw [HN.out]; exact hlt) HX.out HTY.out)
          rw [s5] at HSUM
          clear a0 a1 a2 a3 a4 a5 a6 a7 b0 b1 b2 b3 b4 b5' b6 b7 HM HY HYY HK HTY
          generalize (Go.Proofs.YthojdoiffkdikaaGreatDoor.more W3 os' d').setCells g3 (i3 * 9 + 1) (row (C8.add y.r x.r)).toList = W5 at o5 b5 ⊢
          obtain ⟨-, e0, e1, e2, e3, e4, e5, e6, e7⟩ := o5.cellsAt l5 (by omega) d5
          obtain ⟨z, hz⟩ : ∃ z, C8.add y.r x.r = z := ⟨_, rfl⟩
          simp only [hz] at e0 e1 e2 e3 e4 e5 e6 e7 k5 HSUM
          have hg5 : g3 < W5.heap.size := (World.ownsRow.lt o5 g3 rfl).2
          have HL5 := Lib.hid l5
          have HO5 := Lib.hid o5
          have HB5 := Lib.hid b5
          have HK5 := Lib.hid k5
          clear o5 b5 l5 d5 s5 k5
          rcases Bool.eq_false_or_eq_true (okC z) with hok | hok
          · rw [if_pos hok] at HSUM
            go_wp2_with (go_at_call 104; refine (cvalid_any _ _).mono ?_; rintro e w' ⟨rfl, hb⟩; obtain ⟨os, d, rfl⟩ := more_of_below hb; clear hb)
            go_roundw
            case rel => exact ⟨k + 1, g3, c3, addI acc x, by omega, by go_num, by rw [HL5.out], by rw [HL5.out]; omega, by rw [size_more]; omega, ⟨by rw [HL5.out]; exact HO5.out.more _ _, below_more HB5.out HB5.out.size _ _, HSUM.out, HK5.out hok⟩⟩
            case measure => simp [intOf]; omega
          · rw [if_neg (by rw [hok]; decide)] at HSUM
            go_wp2_with (go_at_call 104; refine (cvalid_any _ _).mono ?_; rintro e w' ⟨rfl, hb⟩; obtain ⟨os, d, rfl⟩ := more_of_below hb; clear hb)
            go_returns
            exact ⟨.slice none 0 0, by rw [tdR_none HSUM.out]; rfl, by rw [tdR_none HSUM.out]; exact Or.inl ⟨rfl, rfl⟩, below_more HB5.out HB5.out.size _ _⟩
    · obtain rfl : k = n := by omega
      have hty := hst.out.ty
      rw [List.drop_eq_nil_of_le (by rw [HN.out]; omega), tyI] at hty
      have hown := hst.out.own
      have hbel := hst.out.bel
      have hbz := hbel.size
      have HAL := Lib.hid (show acc.length ≤ 12 by omega)
      rcases ty_end ds with ⟨h1, -⟩ | ⟨a', l, h1, hp, hs, hcase⟩
      · rw [hty] at h1; cases h1
      · rw [hty] at h1
        cases h1
        have hkl : (keepW acc).length ≤ acc.length := List.length_filter_le _ _
        have HO := Lib.hid hown
        have HB := Lib.hid hbel
        have HP := Lib.hid hp
        have HS := Lib.hid hs
        have HCASE := Lib.hid hcase
        have hn2 : (keepW acc).length ≤ 1048576 := by omega
        have hn1 : acc.length ≤ 1048576 := by omega
        clear hty hown hbel hp hs hcase hst
        rcases Bool.eq_false_or_eq_true (dvOk (keepW acc)) with hdv | hdv
        · have HT := Lib.hid (show tdR ds = some l from HCASE.out.elim (fun h => by rw [hdv] at h; cases h.1) (fun h => h.2))
          have HDV := Lib.hid hdv
          clear HCASE hdv
          go_wp2_with (first
            | (go_at_call 108; go_must (refine (deleteFunc_any g c w.heap.size acc _ HO.out hn1).mono ?_; rintro e w1 ⟨rfl, ho1, hg1⟩; have HB1 := Lib.hid (below_ownedW (v := .slice (some ⟨g, 0, none⟩) acc.length c) HB.out hg1 HO.out.own_le hbz); have HO1 := Lib.hid ho1; clear ho1 hg1))
            | (go_at_call 69; go_must (refine (designValid_any _ _ _ _ HO1.out.has hn2).mono ?_; rintro e w2 ⟨rfl, hb2⟩; rw [HDV.out]; have HO2 := Lib.hid (HO1.out.keep hb2); have HB2 := Lib.hid (HB1.out.trans (hb2.mono HB1.out.size)); clear hb2))
            | (go_at_call 110; go_must (refine (sortFunc_any g c w.heap.size _ _ HO2.out hn2).mono ?_; rintro e w3 ⟨rfl, ys, hy1, hy2, ho3, hg3⟩; obtain rfl := srt_unique (hy1.trans HP.out) HS.out hy2; have HB3 := Lib.hid (below_ownedW (v := .slice (some ⟨g, 0, none⟩) (keepW acc).length c) HB2.out hg3 HO2.out.own_le HB2.out.size); have HO3 := Lib.hid ho3; have HLL := Lib.hid hy1.length_eq; clear ho3 hg3 hy1 hy2))
            | (go_at_call 113; go_must (refine (clip_any g _ c HO3.out.capN _).mono ?_; rintro e w4 ⟨rfl, hw4⟩; obtain rfl := hw4)))
          go_returns
          exact ⟨_, by rw [HT.out]; rfl, by rw [HT.out]; exact HO3.out.clipped HLL.out, HB3.out⟩
        · have HT := Lib.hid (show tdR ds = none from HCASE.out.elim (fun h => h.2) (fun h => by rw [hdv] at h; cases h.1))
          have HDV := Lib.hid hdv
          clear HCASE hdv
          go_wp2_with (first
            | (go_at_call 108; go_must (refine (deleteFunc_any g c w.heap.size acc _ HO.out hn1).mono ?_; rintro e w1 ⟨rfl, ho1, hg1⟩; have HB1 := Lib.hid (below_ownedW (v := .slice (some ⟨g, 0, none⟩) acc.length c) HB.out hg1 HO.out.own_le hbz); have HO1 := Lib.hid ho1; clear ho1 hg1))
            | (go_at_call 69; go_must (refine (designValid_any _ _ _ _ HO1.out.has hn2).mono ?_; rintro e w2 ⟨rfl, hb2⟩; rw [HDV.out]; have HO2 := Lib.hid (HO1.out.keep hb2); have HB2 := Lib.hid (HB1.out.trans (hb2.mono HB1.out.size)); clear hb2)))
          go_returns
          exact ⟨.slice none 0 0, by rw [HT.out]; rfl, by rw [HT.out]; exact Or.inl ⟨rfl, rfl⟩, HB2.out⟩
end Go.Proofs.YthojdoiffkdikaaGreatDoor
