/- Designs read: the program's DesignRead. -/
import Derived.Test.YthojdoiffkdikaaGreatDoorRdC
import Derived.Maps.OwnIn
import Derived.RangeFuncBox
namespace Go.Proofs.YthojdoiffkdikaaGreatDoor
open Go.RowKit Go.Shelf Go.PlotT

/-- Wheels are appended, in a round or elsewhere. -/
theorem wpListIn_append_wh {F : Fence} {nF : Nat} {w : World} {ops : Array Oper} {rest : List Oper} {o : Oper} {a : Act} {Q : Exit → Act → World → Prop} (hgd : o.guard = none) (s x : Operand)
    (ho : o.op = .call { callee := .builtin .append, args := #[s, x], argTypes := #[31, 31] })
    (B : Nat) (xs ys : List W9) (v : Value) (hs : a.eval s = v) (hown : OwnsW w B v xs) (g0 off m c : Nat) (hx : a.eval x = .slice (some ⟨g0, off, none⟩) m c) (hm : ys.length = m)
    (hl : Lie9 w g0 off ys) (h0 : 0 < m) (hle : xs.length + m ≤ 1048576) (hB : B ≤ w.heap.size)
    (h : ∀ g cap w', OwnsW w' B (.slice (some ⟨g, 0, none⟩) (xs.length + m) cap) (xs ++ ys) → w.grownBy w' v.ownBlock → (v.ownBlock = some g ∨ g = w.heap.size) → Below B w w' → wpListIn F nF Tryz.prog ops Q rest (a.put o.dst (.slice (some ⟨g, 0, none⟩) (xs.length + m) cap)) w') :
    wpListIn F nF Tryz.prog ops Q (o :: rest) a w := by
  obtain ⟨i, hi, hz0, hz1, hz2⟩ := infoW
  subst hm
  refine wpListIn_append_own_at w hgd s x 31 ho B 61 i (wv W9.zero) 9 72 Tryz.underlying31 hi hz0 hz1 hz2 rfl (by omega) v xs.length (rowsW xs).toList hs hown ⟨g0, off, none⟩ ys.length c (rowsW ys).toList hx (by rw [rowsWL_len, Nat.mul_comm]) hl.cells (rowsWL_ones ys) (by unfold maxLen; omega) (by omega) hB ?_
  intro v' w' hown' hgrow _ hat
  obtain ⟨k, hk⟩ : ∃ k, xs.length + ys.length = k + 1 := ⟨xs.length + ys.length - 1, by omega⟩
  obtain ⟨g, cap, rfl⟩ := ownsRow_succ (by rw [← hk]; exact hown')
  rw [← hk] at hown' ⊢
  exact h g cap w' (OwnsW.app hown') hgrow (hat.elim (fun e => Or.inl e.symm) (fun e => Or.inr (Option.some.inj e))) (below_ownedW (Below.refl B w) hgrow hown.own_le hB)
theorem OwnsL.nil {w : World} {B : Nat} : OwnsL w B (.slice none 0 0) [] := Or.inl ⟨rfl, rfl⟩
theorem DesPost.no {w w' : World} {e : Ending} {r : Option (List W9)} (hr : r = none) (he : e = .returned (.tuple #[.slice none 0 0, .bool false])) (hb : Below w.heap.size w w') : DesPost w r e w' := by
  subst hr; exact ⟨_, he, OwnsL.nil, hb⟩
set_option maxRecDepth 100000 in
set_option maxHeartbeats 4000000 in
theorem designRead_long (s : ByteArray) (hb : 1500 < s.size) (w : World) :
    Calls Tryz.prog 12 #[.string s] w (DesPost w none) := by
  have hbi : (1500 : Int) < (s.size : Int) := by omega
  clear hb
  go_enter Tryz.func12, Tryz.ntmps12
  go_wp2_with fail
  go_returns
  exact DesPost.no rfl rfl (by repeat' (first | (with_reducible exact Below.refl _ _) | (with_reducible assumption) | (with_reducible refine Below.alloc ?_ ?_ _) | (with_reducible refine below_more ?_ ?_ _ _) | (with_reducible refine below_rd ?_ ?_ _ _) | (with_reducible refine Below.drew ?_) | (with_reducible refine Below.setCell ?_ ?_ _) | go_size))
theorem OwnsL.kept {w w' : World} {B b : Nat} {v : Value} {ys : List W9} (h : OwnsL w B v ys) (hg : w.grownBy w' (some b)) (hb : ∀ cur, w.heap[b]? ≠ some (.cells cur 61 (0, 0))) : OwnsL w' B v ys := by
  rcases h with h0 | ⟨g, cap, cur, hv, hB, hh, h1, h2, h3⟩
  · exact Or.inl h0
  · refine Or.inr ⟨g, cap, cur, hv, hB, ?_, h1, h2, h3⟩
    rw [hg.block g (Array.getElem?_eq_some_iff.1 hh).1 (fun e => by
      have e' : g = b := Option.some.inj e
      rw [e'] at hh
      exact hb cur hh)]
    exact hh
theorem no_wheels {w : World} {b : Nat} {c : Array Value} {T : TypeId} {z : Nat × Nat} (h : w.heap[b]? = some (.cells c T z)) (hT : T ≠ 61) : ∀ cur, w.heap[b]? ≠ some (.cells cur 61 (0, 0)) := fun cur e => by
  rw [h] at e
  injection e with e
  injection e with h4 h5 h6
  exact hT h5
/-- Two boxes written, one after the other. -/
theorem OwnsL.two {w : World} {B b1 b2 : Nat} {v u1 u2 x1 x2 : Value} {ys : List W9} {T1 T2 : TypeId} {z2 : Nat × Nat} (h : OwnsL w B v ys) (h1 : w.heap[b1]? = some (.cells #[x1] T1 (0, 0))) (h2 : w.heap[b2]? = some (.cells #[x2] T2 z2)) (hT1 : T1 ≠ 61) (hT2 : T2 ≠ 61) (hne : b2 ≠ b1) :
    OwnsL ((w.setCell ⟨b1, 0, none⟩ u1).setCell ⟨b2, 0, none⟩ u2) B v ys :=
  (h.kept (grownBy_setCell' w b1 u1) (no_wheels h1 hT1)).kept (grownBy_setCell' _ b2 u2) (no_wheels ((box_other hne u1).trans h2) hT2)
theorem results_rd {tmps : Array Value} {N1 N2 : Nat} {X Y : Value} {W : World} (h2 : tmps[2]?.getD undef = .pointer (some ⟨N1, 0, none⟩)) (h3 : tmps[3]?.getD undef = .pointer (some ⟨N2, 0, none⟩)) (q0 : W.cell? ⟨N1, 0, none⟩ = some X) (q1 : W.cell? ⟨N2, 0, none⟩ = some Y) :
    (results Tryz.f12 tmps).run Tryz.prog W = .ok (.tuple #[X, Y]) W := by
  simp [results, Tryz.f12, go_sem, h2, h3, q0, q1]
set_option maxRecDepth 100000 in
set_option maxHeartbeats 4000000 in
theorem designRead_dash (w : World) (hE : Env w) :
    Calls Tryz.prog 12 #[.string ⟨#[45]⟩] w (DesPost w (some [])) := by
  have HE := Lib.hid hE
  have HT := Lib.hid (show tidyR [] = some [] from rfl)
  clear hE
  go_enter Tryz.func12, Tryz.ntmps12
  go_wp2_with fail
  refine (designTidy_any _ 0 [] _ (Or.inr ⟨w.heap.size + 1 + 1, rfl, by simp, fun i hi => by simp at hi⟩) (by simp)).mono ?_
  rw [HT.out]
  rintro e w1 ⟨v, rfl, ho, hb1⟩
  obtain ⟨a1, k1, rfl, -, hw1⟩ := OwnsL.hasW ho
  have HB1 := Lib.hid (show Below w.heap.size w w1 from (show Below w.heap.size w _ by repeat' (first | (with_reducible exact Below.refl _ _) | (with_reducible assumption) | (with_reducible refine Below.alloc ?_ ?_ _) | (with_reducible refine below_more ?_ ?_ _ _) | (with_reducible refine below_rd ?_ ?_ _ _) | (with_reducible refine Below.drew ?_) | (with_reducible refine Below.setCell ?_ ?_ _) | go_size)).trans (hb1.mono (by simp <;> omega)))
  have HO1 := Lib.hid ho
  have HW1 := Lib.hid hw1
  have HR1 := Lib.hid (show w1.heap[w.heap.size]? = some (.cells #[.slice none 0 0] 31 (0, 0)) from (hb1.block _ (by simp <;> omega)).trans (blk_alloc (blk_alloc (blk_alloc (heap_alloc_new _ _) _) _) _))
  have HR2 := Lib.hid (show w1.heap[w.heap.size + 1]? = some (.cells #[.bool false] 4 (0, 0)) from (hb1.block _ (by simp <;> omega)).trans (blk_alloc (blk_alloc (by have h := heap_alloc_new (w.alloc (.cells #[.slice none 0 0] 31)) (.cells #[.bool false] 4); rw [World.size_alloc] at h; exact h) _) _))
  clear ho hw1 hb1
  dsimp only [Option.getD_some, Option.isSome_some, List.length_nil]
  go_wp2_with fail
  refine (textOf_any a1 k1 [] _ HW1.out (HE.out.tab.below HB1.out) (by simp) (by simp)).mono ?_
  rw [dt_nil]
  rintro e w2 ⟨rfl, hb2⟩
  have hR1 := (hb2.block _ (Array.getElem?_eq_some_iff.1 HR1.out).1).trans HR1.out
  have hR2 := (hb2.block _ (Array.getElem?_eq_some_iff.1 HR2.out).1).trans HR2.out
  have f0 : w2.cell? ⟨w.heap.size, 0, none⟩ = some (.slice none 0 0) := Lib.cell_of_heap hR1 0
  have f1 : w2.cell? ⟨w.heap.size + 1, 0, none⟩ = some (.bool false) := Lib.cell_of_heap hR2 0
  have z0 : w2.frozen? ⟨w.heap.size, 0, none⟩ = false := Lib.frozen_of_heap hR1 0
  have z1 : w2.frozen? ⟨w.heap.size + 1, 0, none⟩ = false := Lib.frozen_of_heap hR2 0
  have HX1 := Lib.hid hR1
  have HX2 := Lib.hid hR2
  have HB2 := Lib.hid (HB1.out.trans (hb2.mono HB1.out.size))
  have HO2 := Lib.hid (HO1.out.keep hb2)
  clear hR1 hR2 hb2
  go_wp2_with fail
  have q0 : ((w2.setCell ⟨w.heap.size, 0, none⟩ (.slice a1 0 k1)).setCell ⟨w.heap.size + 1, 0, none⟩ (.bool true)).cell? ⟨w.heap.size, 0, none⟩ = some (.slice a1 0 k1) := Lib.cell_of_heap ((box_other (by omega) _).trans (box_set HX1.out _)) 0
  have q1 : ((w2.setCell ⟨w.heap.size, 0, none⟩ (.slice a1 0 k1)).setCell ⟨w.heap.size + 1, 0, none⟩ (.bool true)).cell? ⟨w.heap.size + 1, 0, none⟩ = some (.bool true) := Lib.cell_of_heap (box_set ((box_other (by omega) _).trans HX2.out) _) 0
  refine bodyPost_ret (results_rd rfl rfl q0 q1) rfl ?_
  exact ⟨_, rfl, (HO2.out.two HX1.out HX2.out (by decide) (by decide) (by omega)).mono (by simp <;> omega), (HB2.out.setCell (p := ⟨w.heap.size, 0, none⟩) (Nat.le_refl _) _).setCell (p := ⟨w.heap.size + 1, 0, none⟩) (by show w.heap.size ≤ w.heap.size + 1; omega) _⟩
theorem heap_al (w : World) (o : Obj) (k : Nat) : (w.alloc o).heap[k]? = if k = w.heap.size then some o else w.heap[k]? := by
  by_cases h : k = w.heap.size
  · rw [if_pos h, h]; exact World.alloc_heap_new w o
  · rw [if_neg h]
    rcases Nat.lt_or_ge k w.heap.size with h2 | h2
    · exact Below.heap_alloc w o k h2
    · rw [Array.getElem?_eq_none (by rw [World.size_alloc]; omega), Array.getElem?_eq_none (by omega)]
/-- The result's boxes, not yet written, while the words are read. -/
structure RdB (w : World) (c1 : Nat) (W : World) : Prop where
  r1 : W.heap[w.heap.size]? = some (.cells #[.slice none 0 0] 31 (0, 0))
  r2 : W.heap[c1]? = some (.cells #[.bool false] 4 (0, 0))
  below : Below w.heap.size w W
/-- What the rounds hold. -/
def RdI (w : World) (c1 c2 c3 c6 : Nat) (ws : List Wd) (W : World) : Prop :=
  (∃ (g c : Nat) (out : List W9), W.heap[c3]? = some (.cells #[.slice (some ⟨g, 0, none⟩) out.length c] 31 (0, 0)) ∧ OwnsW W w.heap.size (.slice (some ⟨g, 0, none⟩) out.length c) out ∧ prs wordI ws = some out ∧ out.length = ws.length ∧ (g = c2 ∨ c6 < g) ∧ c6 < W.heap.size) ∧ RdB w c1 W
theorem kept_cells {X Y : World} {row : Option Nat} {bx B k : Nat} {cs : Array Value} {T : TypeId} {z : Nat × Nat} (hg : X.grownBy Y row) (hr : ∀ r, row = some r → r = bx ∨ (B ≤ r ∧ ∃ o : Obj, X.heap[r]? = some o ∧ o.isCells = false)) (hk : k ≠ bx) (h : X.heap[k]? = some (.cells cs T z)) : Y.heap[k]? = some (.cells cs T z) :=
  (hg.block k (Array.getElem?_eq_some_iff.1 h).1 fun e => (hr k e.symm).elim hk fun ⟨_, o, ho, hc⟩ => by rw [h] at ho; cases ho; cases hc).trans h
theorem RdB.bears {β : Type} {w : World} {c1 bx B : Nat} (h0 : w.heap.size ≤ bx) (h1 : w.heap.size ≠ bx) (h2 : c1 ≠ bx) (hB : w.heap.size ≤ B) : Bears bx B (fun (_ : List β) W => RdB w c1 W) := fun _ X Y row hs hg hr =>
  ⟨kept_cells hg hr h1 hs.r1, kept_cells hg hr h2 hs.r2, hs.below.grown hg hs.below.size fun r e => (hr r e).elim (fun e => by omega) (fun e => by omega)⟩
theorem OwnsW.bears {X Y : World} {row : Option Nat} {bx B A g c n : Nat} {out : List W9} (hg : X.grownBy Y row) (hr : ∀ r, row = some r → r = bx ∨ (B ≤ r ∧ ∃ o : Obj, X.heap[r]? = some o ∧ o.isCells = false)) (hk : g ≠ bx) (h : OwnsW X A (.slice (some ⟨g, 0, none⟩) n c) out) : OwnsW Y A (.slice (some ⟨g, 0, none⟩) n c) out := by
  refine World.ownsRow.kept h hg ?_
  rcases h.2 with ⟨e, -⟩ | ⟨g', cap', cur, hv, hb, hh, -⟩
  · cases e
  · cases hv
    refine Or.inr fun e => (hr g e.symm).elim hk fun ⟨_, o, ho, hc⟩ => ?_
    rw [hh] at ho; cases ho; cases hc
theorem RdI.bears {w : World} {c1 c2 c3 c6 bx B : Nat} (h0 : w.heap.size ≤ bx) (h1 : w.heap.size ≠ bx) (h2 : c1 ≠ bx) (h3 : c3 ≠ bx) (h4 : c2 ≠ bx) (h5 : bx ≤ c6) (hB : w.heap.size ≤ B) {α : Type} (f : List α → List Wd) : Bears bx B (fun (p : List α) W => RdI w c1 c2 c3 c6 (f p) W) := fun _ X Y row hs hg hr => by
  obtain ⟨⟨g, c, out, k1, k2, k3, k4, k5, k7⟩, k6⟩ := hs
  exact ⟨⟨g, c, out, kept_cells hg hr h3 k1, OwnsW.bears hg hr (by omega) k2, k3, k4, k5, Nat.lt_of_lt_of_le k7 hg.size⟩, RdB.bears (β := Unit) h0 h1 h2 hB [] X Y row k6 hg hr⟩
theorem keeps_below {W V : World} (h : Below W.heap.size W V) : KeepsOthers W V := ⟨h.size, fun k _ hk _ => (h.block k (Array.getElem?_eq_some_iff.1 hk).1).trans hk⟩
theorem KpB.refl (n₀ B1 B2 B3 : Nat) (W : World) : KpB n₀ B1 B2 B3 W W := ⟨Below.refl _ _, rfl, rfl, rfl⟩
theorem KpB.putObj {n₀ B1 B2 B3 l : Nat} (W : World) (o' : Obj) (hn : n₀ ≤ l) (hl : l < W.heap.size) (h : B1 < l ∧ B2 < l ∧ B3 < l) : KpB n₀ B1 B2 B3 W (W.putObj l o') :=
  ⟨(Below.refl n₀ W).grown (grownBy_putObj' W l o') (by omega) (fun k e => by cases e; exact hn), World.putObj_heap_other (by omega), World.putObj_heap_other (by omega), World.putObj_heap_other (by omega)⟩
/-- One block turned, none of the iterator's. -/
theorem KpB.grown {n₀ B1 B2 B3 g : Nat} {A W V : World} (h : KpB n₀ B1 B2 B3 A W) (hg : W.grownBy V (some g)) (hn : n₀ ≤ g) (hs : n₀ ≤ W.heap.size) (h1 : B1 ≠ g) (h2 : B2 ≠ g) (h3 : B3 ≠ g) (hlt : B1 < W.heap.size ∧ B2 < W.heap.size ∧ B3 < W.heap.size) : KpB n₀ B1 B2 B3 A V :=
  ⟨h.1.grown hg hs (fun k e => by cases e; exact hn), (hg.block _ hlt.1 (fun e => h1 (Option.some.inj e))).trans h.2.1, (hg.block _ hlt.2.1 (fun e => h2 (Option.some.inj e))).trans h.2.2.1, (hg.block _ hlt.2.2 (fun e => h3 (Option.some.inj e))).trans h.2.2.2⟩
theorem KpB.below {n₀ B1 B2 B3 : Nat} {A W V : World} (h : KpB n₀ B1 B2 B3 A W) (hb : Below W.heap.size W V) (hs : n₀ ≤ W.heap.size) (hlt : B1 < W.heap.size ∧ B2 < W.heap.size ∧ B3 < W.heap.size) : KpB n₀ B1 B2 B3 A V :=
  ⟨h.1.trans (hb.mono hs), (hb.block _ hlt.1).trans h.2.1, (hb.block _ hlt.2.1).trans h.2.2.1, (hb.block _ hlt.2.2).trans h.2.2.2⟩
/-- The result's boxes written, and the rounds' deferred calls taken. -/
theorem rd_finish {w1 : World} {b1 b2 D : Nat} {x1 x2 X Y : Value} {T1 T2 : TypeId} (h1 : w1.heap[b1]? = some (.cells #[x1] T1 (0, 0))) (h2 : w1.heap[b2]? = some (.cells #[x2] T2 (0, 0))) (hne : b2 ≠ b1) (hD : w1.heap[D]? = some (.deferred (some []))) (d1 : D ≠ b1) (d2 : D ≠ b2) :
    ((w1.setCell ⟨b1, 0, none⟩ X).setCell ⟨b2, 0, none⟩ Y).heap[D]? = some (.deferred (some [])) ∧
    (((w1.setCell ⟨b1, 0, none⟩ X).setCell ⟨b2, 0, none⟩ Y).putObj D (.deferred none)).cell? ⟨b1, 0, none⟩ = some X ∧
    (((w1.setCell ⟨b1, 0, none⟩ X).setCell ⟨b2, 0, none⟩ Y).putObj D (.deferred none)).cell? ⟨b2, 0, none⟩ = some Y :=
  ⟨(box_other d2 _).trans ((box_other d1 _).trans hD), Lib.cell_of_heap ((World.putObj_heap_other (Ne.symm d1)).trans ((box_other (Ne.symm hne) _).trans (box_set h1 _))) 0,
    Lib.cell_of_heap ((World.putObj_heap_other (Ne.symm d2)).trans (box_set ((box_other hne _).trans h2) _)) 0⟩
theorem OwnsL.finish {w1 : World} {B b1 b2 D : Nat} {x1 x2 X Y v : Value} {ys : List W9} {T1 T2 : TypeId} (h : OwnsL w1 B v ys) (h1 : w1.heap[b1]? = some (.cells #[x1] T1 (0, 0))) (h2 : w1.heap[b2]? = some (.cells #[x2] T2 (0, 0))) (t1 : T1 ≠ 61) (t2 : T2 ≠ 61) (hne : b2 ≠ b1) (hD : w1.heap[D]? = some (.deferred (some []))) (d1 : D ≠ b1) (d2 : D ≠ b2) :
    OwnsL (((w1.setCell ⟨b1, 0, none⟩ X).setCell ⟨b2, 0, none⟩ Y).putObj D (.deferred none)) B v ys :=
  (h.two h1 h2 t1 t2 hne).kept (grownBy_putObj' _ D _) fun cur e => by rw [(rd_finish (X := X) (Y := Y) h1 h2 hne hD d1 d2).1] at e; cases e
theorem below_finish {w w1 : World} {b1 b2 D : Nat} {X Y : Value} (h : Below w.heap.size w w1) (h1 : w.heap.size ≤ b1) (h2 : w.heap.size ≤ b2) (hD : w.heap.size ≤ D) :
    Below w.heap.size w (((w1.setCell ⟨b1, 0, none⟩ X).setCell ⟨b2, 0, none⟩ Y).putObj D (.deferred none)) := by
  have hb := (h.setCell (p := ⟨b1, 0, none⟩) h1 X).setCell (p := ⟨b2, 0, none⟩) h2 Y
  exact hb.grown (grownBy_putObj' _ D _) hb.size fun k e => by cases e; exact hD
attribute [local go_sem] Oper.semAt_some
set_option maxRecDepth 100000 in
set_option maxHeartbeats 8000000 in
theorem designRead_in (s : ByteArray) (hs : s.size ≤ 1500) (hd : s.data.toList ≠ [45]) (w : World) (hE : Env w) :
    CallsIn Fence.wide 2 Tryz.prog 12 #[.string s] w (DesPost w (readI s.data.toList)) := by
  have hl : s.data.toList.length = s.size := by rw [← Lib.size_eq]
  have hri : readI s.data.toList = (prs wordI (cutC 32 s.data.toList)).bind fun d => (tidyR d).bind fun t => if dt t = s.data.toList then some t else none := by
    rw [readI, if_neg (by omega), if_neg hd]; rfl
  have hbi : (s.size : Int) ≤ 1500 := by omega
  have hdash : (s.toList == [45]) = false := by rw [Lib.toList_data, beq_eq_false_iff_ne]; exact hd
  obtain ⟨r, hr⟩ : ∃ r, readI s.data.toList = r := ⟨_, rfl⟩
  rw [hr] at hri ⊢
  have HRI := Lib.hid hri
  have HE := Lib.hid hE
  clear hri hr hd hE
  refine callsIn_of_wp_marks Tryz.func12 rfl trivial ?_ rfl
  simp only [Tryz.ntmps12, List.size_toArray, List.length_cons, List.length_nil, Nat.reduceAdd, Nat.reduceSub, Array.replicate_succ, Array.replicate_zero, List.push_toArray, List.append_toArray, List.nil_append, List.cons_append]
  gi_wp2_with (refine ⟨trivial, ?_⟩; gi_at_call 35; refine (callsIn_wide.2 (splitSeqQ_any s ⟨#[32]⟩ _)).mono ?_; rintro e w' ⟨rfl, rfl⟩)
  obtain ⟨WX, hWX⟩ : ∃ WX, spWorld ((((w.alloc (.cells #[.slice none 0 0] 31)).alloc (.cells #[.bool false] 4)).alloc (.cells #[] 61)).alloc (.cells #[.slice (some ⟨w.heap.size + 1 + 1, 0, none⟩) 0 0] 31)) s ⟨#[32]⟩ = WX := ⟨_, rfl⟩
  have hsz : WX.heap.size = w.heap.size + 7 := by rw [← hWX]; simp [spWorld]
  have hR1 : WX.heap[w.heap.size]? = some (.cells #[.slice none 0 0] 31 (0, 0)) := by rw [← hWX]; (simp only [spWorld, heap_al, World.size_alloc, ↓reduceIte] <;> (repeat' split) <;> first | rfl | (exfalso; omega))
  have hR2 : WX.heap[w.heap.size + 1]? = some (.cells #[.bool false] 4 (0, 0)) := by rw [← hWX]; (simp only [spWorld, heap_al, World.size_alloc, ↓reduceIte] <;> (repeat' split) <;> first | rfl | (exfalso; omega))
  have hD : WX.heap[w.heap.size + 1 + 1 + 1]? = some (.cells #[.slice (some ⟨w.heap.size + 1 + 1, 0, none⟩) 0 0] 31 (0, 0)) := by rw [← hWX]; (simp only [spWorld, heap_al, World.size_alloc, ↓reduceIte] <;> (repeat' split) <;> first | rfl | (exfalso; omega))
  have hsp : SpAt WX (w.heap.size + 1 + 1 + 1 + 1 + 1) (w.heap.size + 1 + 1 + 1 + 1) (w.heap.size + 1 + 1 + 1 + 1 + 1 + 1) 32 s := by
    rw [← hWX]; exact ⟨by (simp only [spWorld, heap_al, World.size_alloc, ↓reduceIte] <;> (repeat' split) <;> first | rfl | (exfalso; omega)), by (simp only [spWorld, heap_al, World.size_alloc, ↓reduceIte] <;> (repeat' split) <;> first | rfl | (exfalso; omega)), by (simp only [spWorld, heap_al, World.size_alloc, ↓reduceIte] <;> (repeat' split) <;> first | rfl | (exfalso; omega))⟩
  have hO : OwnsW WX w.heap.size (.slice (some ⟨w.heap.size + 1 + 1, 0, none⟩) 0 0) [] := by
    have h := OwnsW.empty (B := w.heap.size) ((w.alloc (.cells #[.slice none 0 0] 31)).alloc (.cells #[.bool false] 4)) (by simp <;> omega)
    rw [World.size_alloc, World.size_alloc] at h
    rw [← hWX]
    exact (((h.alloc _).alloc _).alloc _).alloc _
  have hB0 : Below w.heap.size w WX := by rw [← hWX]; unfold spWorld; repeat' (first | (with_reducible exact Below.refl _ _) | (with_reducible assumption) | (with_reducible refine Below.alloc ?_ ?_ _) | (with_reducible refine below_more ?_ ?_ _ _) | (with_reducible refine below_rd ?_ ?_ _ _) | (with_reducible refine Below.drew ?_) | (with_reducible refine Below.setCell ?_ ?_ _) | go_size)
  rw [hWX]
  clear hWX
  generalize hc6 : w.heap.size + 1 + 1 + 1 + 1 + 1 + 1 = c6 at *
  generalize hc5 : w.heap.size + 1 + 1 + 1 + 1 + 1 = c5 at *
  generalize hc4 : w.heap.size + 1 + 1 + 1 + 1 = c4 at *
  generalize hc3 : w.heap.size + 1 + 1 + 1 = c3 at *
  generalize hc2 : w.heap.size + 1 + 1 = c2 at *
  generalize hc1 : w.heap.size + 1 = c1 at *
  generalize decide (1500 < (s.size : Int)) = q12
  refine wpIn_rangeBox (n := 2) rfl (by omega) (gf := 84) (lb := #[.pointer (some ⟨c5, 0, none⟩), .pointer (some ⟨c4, 0, none⟩), .pointer (some ⟨c6, 0, none⟩)]) rfl trivial (enters_of Tryz.func84 (by kernel_rfl) rfl) (bx := c4) (by omega)
    (splitSeq_box w.heap.size c5 c4 c6 32 s (by omega) ⟨by omega, by omega, by omega⟩ WX hsp ⟨by omega, by omega, by omega⟩)
    (fun h k => h.trans k) (fun W l o o' hl ho _ => KpB.putObj W o' (by omega) (Array.getElem?_eq_some_iff.1 ho).1 ⟨by omega, by omega, by omega⟩) (fun _ => rfl)
    (fun (pre : List (Wm 32 s)) W => RdI w c1 c2 c3 c6 (pre.map (·.1)) W) (fun (pre : List (Wm 32 s)) W => (∃ x ∈ pre, wordI x.1 = none) ∧ RdB w c1 W)
    (RdI.bears (by omega) (by omega) (by omega) (by omega) (by omega) (by omega) (by omega) (fun (p : List (Wm 32 s)) => p.map (·.1)))
    (fun p X Y row hs hg hr => ⟨hs.1, RdB.bears (by omega) (by omega) (by omega) (by omega) p X Y row hs.2 hg hr⟩)
    ⟨⟨c2, 0, [], hD, hO, rfl, rfl, Or.inl rfl, by omega⟩, ⟨hR1, hR2, hB0⟩⟩
    (fun (x : Wm 32 s) => { tmps := #[.string s, undef, .pointer (some ⟨w.heap.size, 0, none⟩), .pointer (some ⟨c1, 0, none⟩), .pointer (some ⟨c3, 0, none⟩), bstr x.1, undef, undef, undef, undef, .string s, .int .i64 s.size, .bool q12, .slice (some ⟨c2, 0, none⟩) 0 0, .string s, .bool true, .string s, .func (.func 84) #[] #[.pointer (some ⟨c5, 0, none⟩), .pointer (some ⟨c4, 0, none⟩), .pointer (some ⟨c6, 0, none⟩)], bstr x.1, undef, undef, undef, undef, undef, undef, undef, undef, undef, undef, undef, undef, undef, undef, undef, undef, undef, undef, undef, undef, undef, undef, undef, undef, undef], defers := [] })
    ?assign ?body ?done ?stop
  case assign =>
    intro l x W K hK
    gi_wp2
    exact hK
  case body =>
    rintro l0 pre x W ⟨⟨g, c, out, hDb, hOw, hPr, hLn, hgc, hW6⟩, hRB⟩ hlen
    obtain ⟨S, hS, hSd⟩ := bstr_of x.1
    have hSz : S.size ≤ 1048576 := by
      have := cutC_mem (c := 32) s.data.toList x.1 x.2
      rw [bsize, hSd]; omega
    have hol : out.length ≤ 1501 := by rw [hLn, List.length_map]; omega
    have HLN := Lib.hid hLn
    clear hLn
    have hgx : g ≠ w.heap.size ∧ g ≠ c1 ∧ g ≠ c3 ∧ g ≠ c4 ∧ g ≠ c5 ∧ g ≠ c6 ∧ w.heap.size ≤ g := by omega
    dsimp only
    rw [hS]
    have HE2 := Lib.hid (HE.out.below hRB.below)
    have HSD := Lib.hid hSd
    have hszW := hRB.below.size
    have HRB := Lib.hid hRB
    have HDB := Lib.hid hDb
    have HOW := Lib.hid hOw
    cases hw : wordI x.1 with
    | none =>
      have HWN := Lib.hid hw
      clear hw hS hSd hDb hOw hRB
      gi_wp2_with fail
      refine ⟨trivial, rfl, ?_⟩
      refine (CallsIn.inRound l0 (callsIn_wide.2 (wheelOf_any S hSz _ HE2.out))).mono ?_
      rw [HSD.out, HWN.out]
      rintro e w1 ⟨y, rfl, -, hb1⟩
      have k1 : (w1.alloc (.cells (rowW y) 61)).heap[w.heap.size]? = some (.cells #[.slice none 0 0] 31 (0, 0)) := blk_alloc ((hb1.block _ (Array.getElem?_eq_some_iff.1 HRB.out.r1).1).trans HRB.out.r1) _
      have k2 : (w1.alloc (.cells (rowW y) 61)).heap[c1]? = some (.cells #[.bool false] 4 (0, 0)) := blk_alloc ((hb1.block _ (Array.getElem?_eq_some_iff.1 HRB.out.r2).1).trans HRB.out.r2) _
      have f1 : (w1.alloc (.cells (rowW y) 61)).cell? ⟨w.heap.size, 0, none⟩ = some (.slice none 0 0) := Lib.cell_of_heap k1 0
      have f2 : (w1.alloc (.cells (rowW y) 61)).cell? ⟨c1, 0, none⟩ = some (.bool false) := Lib.cell_of_heap k2 0
      have z1 : (w1.alloc (.cells (rowW y) 61)).frozen? ⟨w.heap.size, 0, none⟩ = false := Lib.frozen_of_heap k1 0
      have z2 : (w1.alloc (.cells (rowW y) 61)).frozen? ⟨c1, 0, none⟩ = false := Lib.frozen_of_heap k2 0
      have HK1 := Lib.hid k1
      have HK2 := Lib.hid k2
      have HB1 := Lib.hid hb1
      clear k1 k2 hb1
      dsimp only [Option.isSome_none]
      gi_wp2
      exact ⟨((((keeps_below HB1.out).trans (KeepsOthers.alloc _ _)).trans (KeepsOthers.setCell _ _ _)).trans (KeepsOthers.setCell _ _ _)).from _, ⟨x, by simp, HWN.out⟩,
        (box_other (by omega) _).trans (box_set HK1.out _), box_set ((box_other (by omega) _).trans HK2.out) _,
        (((HRB.out.below.trans (HB1.out.mono hszW)).alloc (by have := HB1.out.size; omega) _).setCell (p := ⟨w.heap.size, 0, none⟩) (Nat.le_refl _) _).setCell (p := ⟨c1, 0, none⟩) (by show w.heap.size ≤ c1; omega) _⟩
    | some y0 =>
      have HWS := Lib.hid hw
      clear hw hS hSd hDb hOw hRB
      gi_wp2_with fail
      refine ⟨trivial, rfl, ?_⟩
      refine (CallsIn.inRound l0 (callsIn_wide.2 (wheelOf_any S hSz _ HE2.out))).mono ?_
      rw [HSD.out, HWS.out]
      rintro e w1 ⟨y, rfl, hy, hb1⟩
      obtain rfl : y = y0 := hy y0 rfl
      have k3 : (w1.alloc (.cells (rowW y) 61)).heap[c3]? = some (.cells #[.slice (some ⟨g, 0, none⟩) out.length c] 31 (0, 0)) := blk_alloc ((hb1.block _ (Array.getElem?_eq_some_iff.1 HDB.out).1).trans HDB.out) _
      have f3 : (w1.alloc (.cells (rowW y) 61)).cell? ⟨c3, 0, none⟩ = some (.slice (some ⟨g, 0, none⟩) out.length c) := Lib.cell_of_heap k3 0
      have HK3 := Lib.hid k3
      have HB1 := Lib.hid hb1
      have HO1 := Lib.hid ((HOW.out.keep hb1).alloc (.cells (rowW y) 61))
      have h61 : c6 < w1.heap.size := Nat.lt_of_lt_of_le hW6 hb1.size
      clear k3 hb1 hy
      obtain ⟨W2, hW2⟩ : ∃ W2, (w1.alloc (.cells (rowW y) 61)).alloc (.cells (rowW y) 61) = W2 := ⟨_, rfl⟩
      have HW2 := Lib.hid hW2
      have HG2 := Lib.hid (show ∃ cur, W2.heap[g]? = some (.cells cur 61 (0, 0)) by
        rcases HO1.out.2 with ⟨e, -⟩ | ⟨g', cap', cur, hv, hb, hh, -⟩
        · cases e
        · cases hv
          exact ⟨cur, by rw [← hW2]; exact blk_alloc hh _⟩)
      have HS2 := Lib.hid (show W2.heap.size = w1.heap.size + 2 by rw [← hW2]; simp)
      clear hW2
      gi_wp2_with (gi_at_builtin; go_must (refine wpListIn_append_wh rfl _ _ rfl w.heap.size out [y] (.slice (some ⟨g, 0, none⟩) out.length c) rfl (HO1.out.alloc _) (w1.heap.size + 1) 0 1 1 rfl rfl (by have h := Lie9.one (heap_alloc_new (w1.alloc (.cells (rowW y) 61)) (.cells (rowW y) 61)); rw [World.size_alloc] at h; exact h) (by omega) (by omega) (by simp; omega) ?_; rw [HW2.out]; intro g5 cp5 w5 hown5 hgrow5 hat5 hb5; have k5 : w5.heap[c3]? = some (.cells #[.slice (some ⟨g, 0, none⟩) out.length c] 31 (0, 0)) := (hgrow5.block c3 (by have := HS2.out; omega) (fun e => hgx.2.2.1 (Option.some.inj e).symm)).trans (by rw [← HW2.out]; exact blk_alloc HK3.out _); have f5 : w5.cell? ⟨c3, 0, none⟩ = some (.slice (some ⟨g, 0, none⟩) out.length c) := Lib.cell_of_heap k5 0; have z5 : w5.frozen? ⟨c3, 0, none⟩ = false := Lib.frozen_of_heap k5 0; have HK5 := Lib.hid k5; have HO5 := Lib.hid hown5; have HG5 := Lib.hid hgrow5; have HA5 := Lib.hid hat5; have HB5 := Lib.hid hb5; clear k5 hown5 hgrow5 hat5 hb5))
      have hwe := HW2.out
      have HBw : Below W.heap.size W W2 := by rw [← hwe]; exact (HB1.out.alloc HB1.out.size _).alloc (by have := HB1.out.size; simp; omega) _
      have hs2 := HS2.out
      have hs5 := HG5.out.size
      have hg5 : g5 = g ∨ g5 = W2.heap.size := HA5.out.imp (fun h => (Option.some.inj h).symm) id
      have hchain : ∀ k cs T z, W.heap[k]? = some (.cells cs T z) → k ≠ g → k ≠ c3 → (w5.setCell ⟨c3, 0, none⟩ (.slice (some ⟨g5, 0, none⟩) (out.length + 1) cp5)).heap[k]? = some (.cells cs T z) := fun k cs T z h h1 h2 => by
        have hk := (Array.getElem?_eq_some_iff.1 h).1
        exact (box_other h2 _).trans ((HG5.out.block k (by have := HBw.size; omega) (fun e => h1 (Option.some.inj e))).trans ((HBw.block k hk).trans h))
      have hgK : W2.grownBy w5 (some g) := HG5.out
      have hNg : w.heap.size ≤ g := hgx.2.2.2.2.2.2
      have hw2 : w.heap.size ≤ W2.heap.size := by have := HBw.size; omega
      refine ⟨?_, ?_, ?_⟩
      · obtain ⟨cur, hcur⟩ := HG2.out
        exact (((keeps_below HBw).trans (KeepsOthers.of_grownBy hgK (fun j o hj ho => by cases hj; rw [hcur] at ho; cases ho; rfl))).trans (KeepsOthers.setCell _ _ _)).from _
      · exact (((KpB.refl w.heap.size c5 c4 c6 W).below HBw hszW ⟨by omega, by omega, by omega⟩).grown hgK hNg hw2 (by omega) (by omega) (by omega) ⟨by omega, by omega, by omega⟩).grown (grownBy_setCell' w5 c3 _) (by omega) (by omega) (by omega) (by omega) (by omega) ⟨by omega, by omega, by omega⟩
      · refine ⟨⟨g5, cp5, out ++ [y], ?_, ?_, ?_, ?_, ?_, ?_⟩, ?_⟩
        · rw [List.length_append]; exact box_set HK5.out _
        · rw [List.length_append]
          exact World.ownsRow.kept HO5.out (grownBy_setCell' w5 c3 _) (Or.inr (fun e => by have e' : g5 = c3 := Option.some.inj e; omega))
        · rw [List.map_append]; exact prs_snoc hPr HWS.out
        · have := HLN.out
          simp at this ⊢; omega
        · omega
        · show c6 < (w5.setCell _ _).heap.size
          simp; omega
        · exact ⟨hchain _ _ _ _ HRB.out.r1 (fun e => hgx.1 e.symm) (by omega), hchain _ _ _ _ HRB.out.r2 (fun e => hgx.2.1 e.symm) (by omega), ((HRB.out.below.trans (HBw.mono hszW)).grown hgK hw2 (fun k e => by cases e; exact hNg)).setCell (p := ⟨c3, 0, none⟩) (by show w.heap.size ≤ c3; omega) _⟩
  case done =>
    rintro D xs V hDD hS ⟨⟨g, c, out, hDb, hOw, hPr, hLn, -, -⟩, hRB⟩ hKd
    have hol : out.length ≤ 1048576 := by
      have := cutC_length (c := 32) s.data.toList
      rw [hLn, hS]; omega
    have HR := Lib.hid (show r = (tidyR out).bind fun t => if dt t = s.data.toList then some t else none by rw [HRI.out, ← hS, hPr]; rfl)
    have f3 : V.cell? ⟨c3, 0, none⟩ = some (.slice (some ⟨g, 0, none⟩) out.length c) := Lib.cell_of_heap hDb 0
    have HHW := Lib.hid hOw.has
    have HRB := Lib.hid hRB
    have HKD := Lib.hid hKd
    have hszV := hRB.below.size
    have hDV : D < V.heap.size := (Array.getElem?_eq_some_iff.1 hKd).1
    clear hLn hS hPr hDb hOw hRB hKd
    gi_wp2_with fail
    refine ⟨trivial, ?_⟩
    refine (callsIn_wide.2 (designTidy_any _ c out _ HHW.out hol)).mono ?_
    cases ht : tidyR out with
    | none =>
      have HRN := Lib.hid (show r = none by rw [HR.out, ht]; rfl)
      clear ht
      rintro e w1 ⟨v, rfl, -, hb1⟩
      have HR1 := Lib.hid ((hb1.block _ (Array.getElem?_eq_some_iff.1 HRB.out.r1).1).trans HRB.out.r1)
      have HR2 := Lib.hid ((hb1.block _ (Array.getElem?_eq_some_iff.1 HRB.out.r2).1).trans HRB.out.r2)
      have HD1 := Lib.hid ((hb1.block _ hDV).trans HKD.out)
      have HB1 := Lib.hid (HRB.out.below.trans (hb1.mono hszV))
      have f0 : w1.cell? ⟨w.heap.size, 0, none⟩ = some (.slice none 0 0) := Lib.cell_of_heap HR1.out 0
      have f1 : w1.cell? ⟨c1, 0, none⟩ = some (.bool false) := Lib.cell_of_heap HR2.out 0
      have z0 : w1.frozen? ⟨w.heap.size, 0, none⟩ = false := Lib.frozen_of_heap HR1.out 0
      have z1 : w1.frozen? ⟨c1, 0, none⟩ = false := Lib.frozen_of_heap HR2.out 0
      clear hb1 f3
      dsimp only [Option.isSome_none]
      gi_wp2
      refine ⟨trivial, ?_⟩
      gi_wp2
      obtain ⟨e1, e2, e3⟩ := rd_finish (X := .slice none 0 0) (Y := .bool false) HR1.out HR2.out (by omega) HD1.out (by omega) (by omega)
      refine ⟨by simp, .inl ⟨_, _, rfl, run_takeDeferred e1, ?_⟩⟩
      exact ⟨.tuple #[.slice none 0 0, .bool false], results_rd rfl rfl e2 e3, DesPost.no HRN.out rfl (below_finish HB1.out (Nat.le_refl _) (by omega) (by omega))⟩
    | some t =>
      have HT := Lib.hid ht
      have HV := Lib.hid (dvOk_mem (tidyR_ok ht))
      have HRT := Lib.hid (show r = if dt t = s.data.toList then some t else none by rw [HR.out, ht]; rfl)
      clear ht
      rintro e w1 ⟨v, rfl, ho, hb1⟩
      obtain ⟨a1, k1, rfl, -, hw1⟩ := OwnsL.hasW ho
      have HR1 := Lib.hid ((hb1.block _ (Array.getElem?_eq_some_iff.1 HRB.out.r1).1).trans HRB.out.r1)
      have HR2 := Lib.hid ((hb1.block _ (Array.getElem?_eq_some_iff.1 HRB.out.r2).1).trans HRB.out.r2)
      have HD1 := Lib.hid ((hb1.block _ hDV).trans HKD.out)
      have HB1 := Lib.hid (HRB.out.below.trans (hb1.mono hszV))
      have HO1 := Lib.hid (ho.mono hszV)
      have HW1 := Lib.hid hw1
      clear hb1 f3 ho hw1
      dsimp only [Option.isSome_some, Option.getD_some]
      gi_wp2_with fail
      refine ⟨trivial, ?_⟩
      refine (callsIn_wide.2 (textOf_any a1 k1 t _ HW1.out (HE.out.tab.below HB1.out) HV.out.1 HV.out.2)).mono ?_
      rintro e w2 ⟨rfl, hb2⟩
      have HS1 := Lib.hid ((hb2.block _ (Array.getElem?_eq_some_iff.1 HR1.out).1).trans HR1.out)
      have HS2 := Lib.hid ((hb2.block _ (Array.getElem?_eq_some_iff.1 HR2.out).1).trans HR2.out)
      have HD2 := Lib.hid ((hb2.block _ (Array.getElem?_eq_some_iff.1 HD1.out).1).trans HD1.out)
      have HB2 := Lib.hid (HB1.out.trans (hb2.mono HB1.out.size))
      have HO2 := Lib.hid (HO1.out.keep hb2)
      have f0 : w2.cell? ⟨w.heap.size, 0, none⟩ = some (.slice none 0 0) := Lib.cell_of_heap HS1.out 0
      have f1 : w2.cell? ⟨c1, 0, none⟩ = some (.bool false) := Lib.cell_of_heap HS2.out 0
      have z0 : w2.frozen? ⟨w.heap.size, 0, none⟩ = false := Lib.frozen_of_heap HS1.out 0
      have z1 : w2.frozen? ⟨c1, 0, none⟩ = false := Lib.frozen_of_heap HS2.out 0
      obtain ⟨X, hX⟩ : ∃ X : ByteArray, (⟨(dt t).toArray⟩ : ByteArray) = X := ⟨_, rfl⟩
      have HXD := Lib.hid (show X.data.toList = dt t by rw [← hX])
      rw [hX]
      clear hX hb2
      by_cases htl : dt t = s.data.toList
      · have he : (X.toList == s.toList) = true := by rw [Lib.toList_data, Lib.toList_data, HXD.out, htl]; exact beq_self_eq_true _
        have HRF := Lib.hid (show r = some t by rw [HRT.out, if_pos htl])
        clear htl
        gi_wp2
        obtain ⟨e1, e2, e3⟩ := rd_finish (X := .slice a1 t.length k1) (Y := .bool true) HS1.out HS2.out (by omega) HD2.out (by omega) (by omega)
        refine ⟨by simp, .inl ⟨_, _, rfl, run_takeDeferred e1, ?_⟩⟩
        exact ⟨.tuple #[.slice a1 t.length k1, .bool true], results_rd rfl rfl e2 e3, _, by rw [HRF.out]; rfl, by rw [HRF.out]; exact HO2.out.finish HS1.out HS2.out (by decide) (by decide) (by omega) HD2.out (by omega) (by omega), below_finish HB2.out (Nat.le_refl _) (by omega) (by omega)⟩
      · have he : (X.toList == s.toList) = false := by rw [Lib.toList_data, Lib.toList_data, HXD.out, beq_eq_false_iff_ne]; exact htl
        have HRF := Lib.hid (show r = none by rw [HRT.out, if_neg htl])
        clear htl
        gi_wp2
        obtain ⟨e1, e2, e3⟩ := rd_finish (X := .slice none 0 0) (Y := .bool false) HS1.out HS2.out (by omega) HD2.out (by omega) (by omega)
        refine ⟨by simp, .inl ⟨_, _, rfl, run_takeDeferred e1, ?_⟩⟩
        exact ⟨.tuple #[.slice none 0 0, .bool false], results_rd rfl rfl e2 e3, DesPost.no HRF.out rfl (below_finish HB2.out (Nat.le_refl _) (by omega) (by omega))⟩
  case stop =>
    rintro D pre V hDD ⟨⟨x, hx, hxn⟩, hRB⟩ hKd
    have HR := Lib.hid (show r = none by rw [HRI.out, prs_none x.2 hxn]; rfl)
    have h0 : (V.putObj D (.deferred none)).cell? ⟨w.heap.size, 0, none⟩ = some (.slice none 0 0) := Lib.cell_of_heap ((World.putObj_heap_other (by omega)).trans hRB.r1) 0
    have h1 : (V.putObj D (.deferred none)).cell? ⟨c1, 0, none⟩ = some (.bool false) := Lib.cell_of_heap ((World.putObj_heap_other (by omega)).trans hRB.r2) 0
    gi_wp2
    refine ⟨by simp, .inl ⟨_, _, rfl, run_takeDeferred hKd, ?_⟩⟩
    exact ⟨.tuple #[.slice none 0 0, .bool false], results_rd rfl rfl h0 h1, DesPost.no HR.out rfl (hRB.below.grown (grownBy_putObj' _ D _) hRB.below.size fun k e => by cases e; omega)⟩
/-- The program's DesignRead. -/
theorem designRead_any (s : ByteArray) (w : World) (hE : Env w) : Calls Tryz.prog 12 #[.string s] w (DesPost w (readI s.data.toList)) := by
  by_cases hs : 1500 < s.size
  · have h : readI s.data.toList = none := by rw [readI, if_pos (by rw [← bsize]; exact hs)]
    rw [h]; exact designRead_long s hs w
  · by_cases hd : s.data.toList = [45]
    · obtain rfl : s = ⟨#[45]⟩ := by rw [← mk_data s, hd]
      exact designRead_dash w hE
    · exact callsIn_wide.1 (designRead_in s (by omega) hd w hE)
end Go.Proofs.YthojdoiffkdikaaGreatDoor
