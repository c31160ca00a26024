/- Designs as rows that a call owns: appends, stores. -/
import Derived.Test.YthojdoiffkdikaaGreatDoorTidyP
import Derived.Laws.OwnMore
import Derived.Deep.AppendLies
namespace Go.Proofs.YthojdoiffkdikaaGreatDoor
open Go.RowKit

theorem infoW : ∃ i, Tryz.prog.info? 61 = some i ∧ i.zero = some (wv W9.zero) ∧ i.size = 9 ∧ i.bytes = 72 := by
  have h0 := zeroW9
  cases hq : Tryz.prog.info? 61 with
  | none => rw [hq] at h0; cases h0
  | some i =>
    rw [hq] at h0
    simp only [Option.map_some, Option.some.injEq, Prod.mk.injEq] at h0
    exact ⟨i, rfl, h0.1, h0.2.1, h0.2.2⟩
theorem flat9_get (xs : List W9) (m : Nat) : (xs.flatMap fun x => (rowW x).toList)[m]? = if m < 9 * xs.length then some (.int .i64 ((xs.getD (m / 9) W9.zero).g (m % 9))) else none := by
  induction xs generalizing m with
  | nil => simp
  | cons x l ih =>
    rw [List.flatMap_cons, List.getElem?_append, rowWL_len]
    by_cases h : m < 9
    · rw [if_pos h, if_pos (by simp; omega), rowWL_get x m h, show m / 9 = 0 by omega, show m % 9 = m by omega]; rfl
    · rw [if_neg h, ih]
      by_cases h2 : m - 9 < 9 * l.length
      · rw [if_pos h2, if_pos (by simp; omega), show m / 9 = (m - 9) / 9 + 1 by omega, show m % 9 = (m - 9) % 9 by omega]; rfl
      · rw [if_neg h2, if_neg (by simp; omega)]
theorem rowsW_flat (xs : List W9) : (rowsW xs).toList = xs.flatMap fun x => (rowW x).toList := by
  apply List.ext_getElem?
  intro m
  rw [flat9_get, Array.getElem?_toList]
  by_cases h : m < 9 * xs.length
  · rw [if_pos h, rowsW_get xs m h]
  · rw [if_neg h, Array.getElem?_eq_none (by rw [rowsW_size]; omega)]
theorem rowsW_app (xs ys : List W9) : (rowsW (xs ++ ys)).toList = (rowsW xs).toList ++ (rowsW ys).toList := by
  rw [rowsW_flat, rowsW_flat, rowsW_flat, List.flatMap_append]
theorem rowsW_one (x : W9) : (rowsW [x]).toList = (rowW x).toList := by
  rw [rowsW_flat]; simp
theorem rowsWL_len (xs : List W9) : (rowsW xs).toList.length = 9 * xs.length := by rw [Array.length_toList, rowsW_size]
theorem rowsWL_ones (xs : List W9) : ∀ u ∈ (rowsW xs).toList, u.oneCell' = true := by
  intro u hu
  rw [rowsW_flat] at hu
  obtain ⟨x, -, hx⟩ := List.mem_flatMap.1 hu
  exact Array.all_eq_true_iff_forall_mem.1 (rowWL_one x) u (by simpa using hx)
section
variable {w w' : World} {B : Nat} {v : Value} {xs ys : List W9}
theorem OwnsW.alloc (h : OwnsW w B v xs) (o : Obj) : OwnsW (w.alloc o) B v xs := World.ownsRow.alloc h o
theorem OwnsW.more (h : OwnsW w B v xs) (os : Array Obj) (d : Nat) : OwnsW (Go.Proofs.YthojdoiffkdikaaGreatDoor.more w os d) B v xs := h.keep (below_more (Below.refl _ _) (Nat.le_refl _) os d)
theorem OwnsW.own_le (h : OwnsW w B v xs) : ∀ k, v.ownBlock = some k → B ≤ k := fun k hk => (World.ownsRow.lt h k hk).1
theorem OwnsW.mono {B' : Nat} (h : OwnsW w B v xs) (hb : B' ≤ B) : OwnsW w B' v xs := ⟨h.1, h.2.imp id (fun ⟨g, cap, cur, a, b, c⟩ => ⟨g, cap, cur, a, by omega, c⟩)⟩
theorem OwnsW.app (h : w.ownsRow B 61 9 v (xs.length + ys.length) ((rowsW xs).toList ++ (rowsW ys).toList)) : OwnsW w B v (xs ++ ys) := by
  unfold OwnsW; rw [rowsW_app, List.length_append]; exact h
theorem OwnsW.empty (w : World) (hb : B ≤ w.heap.size) : OwnsW (w.alloc (.cells #[] 61)) B (.slice (some ⟨w.heap.size, 0, none⟩) 0 0) [] := by
  have h := World.ownsRow_lit (base := B) (e := 61) (size := 9) w #[] 0 hb (Nat.zero_le _) rfl
  unfold OwnsW
  rw [show (rowsW []).toList = [] by rw [rowsW_flat]; rfl]
  exact h
theorem OwnsW.shape (h : OwnsW w B v xs) (hne : xs ≠ []) : ∃ g cap, v = .slice (some ⟨g, 0, none⟩) xs.length cap := by
  rcases h.2 with ⟨-, h0⟩ | ⟨g, cap, cur, hv, -⟩
  · exact absurd (List.length_eq_zero_iff.1 h0) hne
  · exact ⟨g, cap, hv⟩
end
theorem below_ownedW {B : Nat} {a w w' : World} {v : Value} (h : Below B a w) (hg : w.grownBy w' v.ownBlock) (hB : ∀ k, v.ownBlock = some k → B ≤ k) (hs : B ≤ w.heap.size) : Below B a w' :=
  h.trans ⟨hg.os, hg.tape, hg.output, hg.size, fun k hk => hg.block k (by omega) (fun e => by have := hB k e.symm; omega)⟩
/-- Wheels that lie one behind the other. -/
def Lie9 (w : World) (g o : Nat) (ys : List W9) : Prop := ∀ i, i < ys.length → WhAt w g (o + i * 9) (ys.getD i W9.zero)
theorem Lie9.cells {w : World} {g o : Nat} {ys : List W9} (h : Lie9 w g o ys) : ∀ j u, (rowsW ys).toList[j]? = some u → w.cell? ((⟨g, o, none⟩ : Addr).add j) = some u := by
  intro j u hu
  have hadd : (⟨g, o, none⟩ : Addr).add j = ⟨g, o + j, none⟩ := by unfold Addr.add; split <;> simp_all
  rw [hadd]
  have hj : j < 9 * ys.length := by
    by_cases hj : j < 9 * ys.length
    · exact hj
    · rw [List.getElem?_eq_none (by rw [rowsWL_len]; omega)] at hu; cases hu
  rw [Array.getElem?_toList, rowsW_get ys j hj] at hu
  have h1 := h (j / 9) (by omega) (j % 9) _ (rowWL_get _ _ (Nat.mod_lt _ (by omega)))
  rw [show o + j / 9 * 9 + j % 9 = o + j by omega] at h1
  rw [h1]; exact hu
theorem Lie9.one {w : World} {g : Nat} {x : W9} {T : TypeId} (h : w.heap[g]? = some (.cells (rowW x) T (0, 0))) : Lie9 w g 0 [x] := by
  intro i hi j u hu
  obtain rfl : i = 0 := by simp at hi; omega
  rw [cell_of_row w g _ _ T (0, 0) h]
  simpa using hu
theorem Lie9.below {B : Nat} {w w' : World} {g o : Nat} {ys : List W9} (h : Lie9 w g o ys) (hb : Below B w w') (hg : g < B) : Lie9 w' g o ys := fun i hi => (h i hi).below hb hg
theorem OwnsW.lie {w : World} {B g cap : Nat} {xs : List W9} (h : OwnsW w B (.slice (some ⟨g, 0, none⟩) xs.length cap) xs) : Lie9 w g 0 xs := by
  obtain ⟨a, cap', e, hp⟩ := h.hasW
  cases e
  intro i hi
  rcases hp with rfl | ⟨b, e, hb, hp⟩
  · simp at hi
  · cases e; rw [Nat.zero_add]; exact hp i hi
theorem Lie9.part {w : World} {g o : Nat} {xs : List W9} (h : Lie9 w g o xs) (k n : Nat) : Lie9 w g (o + k * 9) ((xs.drop k).take n) := by
  intro i hi
  simp only [List.length_take, List.length_drop] at hi
  have h1 := h (k + i) (by omega)
  rw [show o + (k + i) * 9 = o + k * 9 + i * 9 by omega] at h1
  rw [show ((xs.drop k).take n).getD i W9.zero = xs.getD (k + i) W9.zero by
    rw [List.getD_eq_getElem?_getD, List.getElem?_take_of_lt (by omega), List.getElem?_drop, List.getD_eq_getElem?_getD]]
  exact h1
/-- Wheels are appended. -/
theorem wpList_append_wh {w : World} {ops : Array Oper} {rest : List Oper} {o : Oper} {a : Act} {Q : Exit → Act → World → Prop} (hgd : o.guard = none) (s x : Operand)
    (ho : o.op = .call { callee := .builtin .append, args := #[s, x], argTypes := #[31, 31] })
    (B : Nat) (xs ys : List W9) (v : Value) (hs : a.eval s = v) (hown : OwnsW w B v xs) (g0 off m c : Nat) (hx : a.eval x = .slice (some ⟨g0, off, none⟩) m c) (hm : ys.length = m)
    (hl : Lie9 w g0 off ys) (h0 : 0 < m) (hle : xs.length + m ≤ 1048576) (hB : B ≤ w.heap.size)
    (h : ∀ g cap w', OwnsW w' B (.slice (some ⟨g, 0, none⟩) (xs.length + m) cap) (xs ++ ys) → w.grownBy w' v.ownBlock → (v.ownBlock = some g ∨ g = w.heap.size) → Below B w w' → wpList Tryz.prog ops Q rest (a.put o.dst (.slice (some ⟨g, 0, none⟩) (xs.length + m) cap)) w') :
    wpList Tryz.prog ops Q (o :: rest) a w := by
  obtain ⟨i, hi, hz0, hz1, hz2⟩ := infoW
  subst hm
  refine wpList_append_lies w hgd s x 31 ho B 61 i (wv W9.zero) 9 72 Tryz.underlying31 hi hz0 hz1 hz2 rfl (by omega) v xs.length (rowsW xs).toList hs hown ⟨g0, off, none⟩ ys.length c (rowsW ys).toList hx (by rw [rowsWL_len, Nat.mul_comm]) hl.cells (rowsWL_ones ys) h0 (by unfold maxLen; omega) (by omega) hB _ rfl ?_
  intro g cap w' hown' hgrow hat _
  exact h g cap w' (OwnsW.app hown') hgrow hat (below_ownedW (Below.refl B w) hgrow hown.own_le hB)
theorem step_append_wh {w : World} {ops : Array Oper} {o : Oper} {a : Act} {K : Act → World → Prop} {Q : Exit → Act → World → Prop} {E : Prop} (hgd : o.guard = none) (s x : Operand)
    (ho : o.op = .call { callee := .builtin .append, args := #[s, x], argTypes := #[31, 31] })
    (B : Nat) (xs ys : List W9) (v : Value) (hs : a.eval s = v) (hown : OwnsW w B v xs) (g0 off m c : Nat) (hx : a.eval x = .slice (some ⟨g0, off, none⟩) m c) (hm : ys.length = m)
    (hl : Lie9 w g0 off ys) (h0 : 0 < m) (hle : xs.length + m ≤ 1048576) (hB : B ≤ w.heap.size)
    (h : ∀ g cap w', OwnsW w' B (.slice (some ⟨g, 0, none⟩) (xs.length + m) cap) (xs ++ ys) → w.grownBy w' v.ownBlock → (v.ownBlock = some g ∨ g = w.heap.size) → Below B w w' → K (a.put o.dst (.slice (some ⟨g, 0, none⟩) (xs.length + m) cap)) w') :
    if Region.wanted o (yielded ops a.tmps) = true then Oper.wp Tryz.prog o a w K Q else E := by
  obtain ⟨i, hi, hz0, hz1, hz2⟩ := infoW
  subst hm
  refine step_append_lies w hgd s x 31 ho B 61 i (wv W9.zero) 9 72 Tryz.underlying31 hi hz0 hz1 hz2 rfl (by omega) v xs.length (rowsW xs).toList hs hown ⟨g0, off, none⟩ ys.length c (rowsW ys).toList hx (by rw [rowsWL_len, Nat.mul_comm]) hl.cells (rowsWL_ones ys) h0 (by unfold maxLen; omega) (by omega) hB _ rfl ?_
  intro g cap w' hown' hgrow hat _
  exact h g cap w' (OwnsW.app hown') hgrow hat (below_ownedW (Below.refl B w) hgrow hown.own_le hB)
/-- The same, the length told. -/
theorem wpList_append_whL {w : World} {ops : Array Oper} {rest : List Oper} {o : Oper} {a : Act} {Q : Exit → Act → World → Prop} (hgd : o.guard = none) (s x : Operand)
    (ho : o.op = .call { callee := .builtin .append, args := #[s, x], argTypes := #[31, 31] })
    (B : Nat) (xs ys : List W9) (v : Value) (hs : a.eval s = v) (hown : OwnsW w B v xs) (g0 off m c L : Nat) (hL : xs.length + m = L) (hx : a.eval x = .slice (some ⟨g0, off, none⟩) m c) (hm : ys.length = m)
    (hl : Lie9 w g0 off ys) (h0 : 0 < m) (hle : L ≤ 1048576) (hB : B ≤ w.heap.size)
    (h : ∀ g cap w', OwnsW w' B (.slice (some ⟨g, 0, none⟩) L cap) (xs ++ ys) → w.grownBy w' v.ownBlock → (v.ownBlock = some g ∨ g = w.heap.size) → Below B w w' → wpList Tryz.prog ops Q rest (a.put o.dst (.slice (some ⟨g, 0, none⟩) L cap)) w') :
    wpList Tryz.prog ops Q (o :: rest) a w := by
  subst hL
  exact wpList_append_wh hgd s x ho B xs ys v hs hown g0 off m c hx hm hl h0 hle hB h
theorem step_append_whL {w : World} {ops : Array Oper} {o : Oper} {a : Act} {K : Act → World → Prop} {Q : Exit → Act → World → Prop} {E : Prop} (hgd : o.guard = none) (s x : Operand)
    (ho : o.op = .call { callee := .builtin .append, args := #[s, x], argTypes := #[31, 31] })
    (B : Nat) (xs ys : List W9) (v : Value) (hs : a.eval s = v) (hown : OwnsW w B v xs) (g0 off m c L : Nat) (hL : xs.length + m = L) (hx : a.eval x = .slice (some ⟨g0, off, none⟩) m c) (hm : ys.length = m)
    (hl : Lie9 w g0 off ys) (h0 : 0 < m) (hle : L ≤ 1048576) (hB : B ≤ w.heap.size)
    (h : ∀ g cap w', OwnsW w' B (.slice (some ⟨g, 0, none⟩) L cap) (xs ++ ys) → w.grownBy w' v.ownBlock → (v.ownBlock = some g ∨ g = w.heap.size) → Below B w w' → K (a.put o.dst (.slice (some ⟨g, 0, none⟩) L cap)) w') :
    if Region.wanted o (yielded ops a.tmps) = true then Oper.wp Tryz.prog o a w K Q else E := by
  subst hL
  exact step_append_wh hgd s x ho B xs ys v hs hown g0 off m c hx hm hl h0 hle hB h
/-- Nothing is appended. -/
theorem run_append_wh0 {w : World} {B : Nat} {v : Value} {xs : List W9} (hown : OwnsW w B v xs) (ad : Option Addr) (c : Nat) (ty : TypeId) :
    (Builtin.append_ #[31, 31] ty #[v, .slice ad 0 c]).run Tryz.prog w = .ok v w := by
  obtain ⟨i, hi, hz0, hz1, hz2⟩ := infoW
  rcases hown.2 with ⟨rfl, h0⟩ | ⟨g, cap, cur, rfl, _, _, hnc, _⟩
  · cases ad <;> simp [Builtin.append_, run_underlying Tryz.underlying31, sizeOf, typeInfo, hi, Builtin.lenOf, Builtin.firstCells, loadCells, loadCellsFrom]
  · cases ad <;> simp [Builtin.append_, run_underlying Tryz.underlying31, sizeOf, typeInfo, hi, Builtin.lenOf, Builtin.firstCells, hnc, storeCells, loadCells, loadCellsFrom]
/-- Wheels are appended, or nothing is, at a step of a region that draws its order. -/
theorem step_append_whA {w : World} {ops : Array Oper} {o : Oper} {a : Act} {K : Act → World → Prop} {Q : Exit → Act → World → Prop} {E : Prop} (hgd : o.guard = none) (s x : Operand)
    (ho : o.op = .call { callee := .builtin .append, args := #[s, x], argTypes := #[31, 31] })
    (B : Nat) (xs ys : List W9) (g1 n1 c1 : Nat) (hs : a.eval s = .slice (some ⟨g1, 0, none⟩) n1 c1) (hown : OwnsW w B (.slice (some ⟨g1, 0, none⟩) n1 c1) xs) (hn1 : xs.length = n1) (g0 off m c L : Nat) (hL : n1 + m = L) (hx : a.eval x = .slice (some ⟨g0, off, none⟩) m c) (hm : ys.length = m)
    (hl : Lie9 w g0 off ys) (hle : L ≤ 1048576) (hB : B ≤ w.heap.size)
    (h : ∀ g cap w', OwnsW w' B (.slice (some ⟨g, 0, none⟩) L cap) (xs ++ ys) → w.grownBy w' (some g1) → Below B w w' → K (a.put o.dst (.slice (some ⟨g, 0, none⟩) L cap)) w') :
    if Region.wanted o (yielded ops a.tmps) = true then Oper.wp Tryz.prog o a w K Q else E := by
  subst hn1
  by_cases h0 : 0 < m
  · exact step_append_whL hgd s x ho B xs ys _ hs hown g0 off m c L hL hx hm hl h0 hle hB fun g cap w' h1 h2 _ h4 => h g cap w' h1 h2 h4
  · obtain rfl : m = 0 := by omega
    obtain rfl : ys = [] := List.length_eq_zero_iff.1 hm
    obtain rfl : xs.length = L := by omega
    have hw : Region.wanted o (yielded ops a.tmps) = true := by simp [Region.wanted, hgd]
    rw [if_pos hw]
    have hr := run_append_wh0 hown (some ⟨g0, off, none⟩) c o.type
    have hk := h g1 c1 w (by rw [List.append_nil]; exact hown) ⟨rfl, rfl, rfl, Nat.le_refl _, fun _ _ _ => rfl⟩ (Below.refl _ _)
    unfold Oper.wp execOp
    simp only [ho, resolve, invoke, builtin, Sem.run_bind, Sem.run_pure, Result.andThen_ok, List.map_toArray, List.map_cons, List.map_nil, hs, hx, hr]
    exact hk
/-- A run of stores into a list. -/
def setsL : List Value → Nat → List Value → List Value
  | L, _, [] => L
  | L, j, u :: us => setsL (L.set j u) (j + 1) us
theorem setsL_len : ∀ (us : List Value) (j : Nat) (L : List Value), (setsL L j us).length = L.length
  | [], _, _ => rfl
  | u :: us, j, L => by rw [setsL, setsL_len us]; simp
theorem setsL_get : ∀ (us : List Value) (j : Nat) (L : List Value) (m : Nat), j + us.length ≤ L.length → (setsL L j us)[m]? = if j ≤ m ∧ m < j + us.length then us[m - j]? else L[m]?
  | [], j, L, m, _ => by rw [setsL, if_neg (by simp only [List.length_nil]; omega)]
  | u :: us, j, L, m, h => by
    simp only [List.length_cons] at h
    rw [setsL, setsL_get us (j + 1) _ m (by simp; omega), List.getElem?_set]
    by_cases h1 : j + 1 ≤ m ∧ m < j + 1 + us.length
    · rw [if_pos h1, if_pos (by simp; omega), show m - j = (m - (j + 1)) + 1 by omega]; rfl
    · rw [if_neg h1]
      by_cases h2 : j = m
      · subst h2
        rw [if_pos rfl, if_pos (by omega), if_pos (by simp), Nat.sub_self]; rfl
      · rw [if_neg h2, if_neg (by simp; omega)]
theorem grownBy_trans2 {w1 w2 w3 : World} {g : Nat} (h1 : w1.grownBy w2 (some g)) (h2 : w2.grownBy w3 (some g)) : w1.grownBy w3 (some g) :=
  ⟨h2.os.trans h1.os, h2.tape.trans h1.tape, h2.output.trans h1.output, Nat.le_trans h1.size h2.size, fun k hk hne => (h2.block k (Nat.lt_of_lt_of_le hk h1.size) hne).trans (h1.block k hk hne)⟩
theorem storedMany {base g n cap : Nat} {e : TypeId} {size : Nat} : ∀ (us : List Value) (j : Nat) {w : World} {xs : List Value}, w.ownsRow base e size (.slice (some ⟨g, 0, none⟩) n cap) n xs →
    (w.setCells g j us).ownsRow base e size (.slice (some ⟨g, 0, none⟩) n cap) n (setsL xs j us) ∧ w.grownBy (w.setCells g j us) (some g)
  | [], _, w, xs, h => ⟨h, ⟨rfl, rfl, rfl, Nat.le_refl _, fun _ _ _ => rfl⟩⟩
  | u :: us, j, w, xs, h => by
    obtain ⟨h1, g1⟩ := World.ownsRow.stored h j u
    obtain ⟨h2, g2⟩ := storedMany us (j + 1) h1
    exact ⟨h2, grownBy_trans2 g1 g2⟩
theorem setsL_rad (xs : List W9) (i : Nat) (c : C8) (hi : i < xs.length) : setsL (rowsW xs).toList (i * 9 + 1) (row c).toList = (rowsW (xs.set i ⟨(xs.getD i W9.zero).s, c⟩)).toList := by
  apply List.ext_getElem?
  intro m
  rw [setsL_get _ _ _ _ (by rw [rowsWL_len, rowL_len]; omega), rowL_len]
  by_cases hm : m < 9 * xs.length
  · simp only [Array.getElem?_toList]
    rw [rowsW_get xs m hm, rowsW_get _ m (by simpa using hm)]
    by_cases hq : m / 9 = i
    · rw [show (xs.set i ⟨(xs.getD i W9.zero).s, c⟩).getD (m / 9) W9.zero = ⟨(xs.getD i W9.zero).s, c⟩ by
        rw [List.getD_eq_getElem?_getD, List.getElem?_set, if_pos hq.symm, if_pos hi]; rfl]
      by_cases hr : m % 9 = 0
      · rw [if_neg (by omega), hr, hq]; rfl
      · rw [if_pos (by omega), row_g c _ (by omega)]
        congr 2
        have : m % 9 = m - (i * 9 + 1) + 1 := by omega
        rw [this]; rfl
    · rw [if_neg (by omega), show (xs.set i ⟨(xs.getD i W9.zero).s, c⟩).getD (m / 9) W9.zero = xs.getD (m / 9) W9.zero by
        rw [List.getD_eq_getElem?_getD, List.getElem?_set, if_neg (fun h => hq h.symm), List.getD_eq_getElem?_getD]]
  · rw [if_neg (by omega), List.getElem?_eq_none (by rw [rowsWL_len]; omega), List.getElem?_eq_none (by rw [rowsWL_len]; simp; omega)]
theorem setsL_wh (xs : List W9) (i : Nat) (x : W9) (hi : i < xs.length) : setsL (rowsW xs).toList (i * 9) (rowW x).toList = (rowsW (xs.set i x)).toList := by
  apply List.ext_getElem?
  intro m
  rw [setsL_get _ _ _ _ (by rw [rowsWL_len, rowWL_len]; omega), rowWL_len]
  by_cases hm : m < 9 * xs.length
  · simp only [Array.getElem?_toList]
    rw [rowsW_get xs m hm, rowsW_get _ m (by simpa using hm)]
    by_cases hq : m / 9 = i
    · rw [show (xs.set i x).getD (m / 9) W9.zero = x by
        rw [List.getD_eq_getElem?_getD, List.getElem?_set, if_pos hq.symm, if_pos hi]; rfl]
      rw [if_pos (by omega), rowW_g x _ (by omega)]
      congr 3
      omega
    · rw [if_neg (by omega), show (xs.set i x).getD (m / 9) W9.zero = xs.getD (m / 9) W9.zero by
        rw [List.getD_eq_getElem?_getD, List.getElem?_set, if_neg (fun h => hq h.symm), List.getD_eq_getElem?_getD]]
  · rw [if_neg (by omega), List.getElem?_eq_none (by rw [rowsWL_len]; omega), List.getElem?_eq_none (by rw [rowsWL_len]; simp; omega)]
/-- A radius, or a whole wheel, is stored into a row. -/
theorem OwnsW.rad {w : World} {B g cap : Nat} {xs : List W9} (h : OwnsW w B (.slice (some ⟨g, 0, none⟩) xs.length cap) xs) (i : Nat) (hi : i < xs.length) (c : C8) :
    OwnsW (w.setCells g (i * 9 + 1) (row c).toList) B (.slice (some ⟨g, 0, none⟩) xs.length cap) (xs.set i ⟨(xs.getD i W9.zero).s, c⟩) ∧ w.grownBy (w.setCells g (i * 9 + 1) (row c).toList) (some g) := by
  have h1 := storedMany (row c).toList (i * 9 + 1) h
  rw [setsL_rad xs i c hi] at h1
  refine ⟨?_, h1.2⟩
  unfold OwnsW
  rw [List.length_set]
  exact h1.1
theorem OwnsW.wh {w : World} {B g cap : Nat} {xs : List W9} (h : OwnsW w B (.slice (some ⟨g, 0, none⟩) xs.length cap) xs) (i : Nat) (hi : i < xs.length) (x : W9) :
    OwnsW (w.setCells g (i * 9) (rowW x).toList) B (.slice (some ⟨g, 0, none⟩) xs.length cap) (xs.set i x) ∧ w.grownBy (w.setCells g (i * 9) (rowW x).toList) (some g) := by
  have h1 := storedMany (rowW x).toList (i * 9) h
  rw [setsL_wh xs i x hi] at h1
  refine ⟨?_, h1.2⟩
  unfold OwnsW
  rw [List.length_set]
  exact h1.1
end Go.Proofs.YthojdoiffkdikaaGreatDoor
