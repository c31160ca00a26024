/- Rows of words that a call owns, beside rows of wheels. A reader is opened. -/
import Derived.Test.YthojdoiffkdikaaGreatDoorPlotA
import Derived.Test.YthojdoiffkdikaaGreatDoorPlotG
import Derived.Laws.MakeOwn
import Derived.Laws.OwnMore
import Derived.Deep.AppendLies
import Derived.Test.YthojdoiffkdikaaGreatDoorRowLaw
section -- a part
namespace Go.Proofs.YthojdoiffkdikaaGreatDoor
open Go.RowKit Go.PlotT

theorem zeroS : (Tryz.prog.info? 9).map (fun i => (i.zero, i.size, i.bytes)) = some (some (.string ByteArray.empty), 1, 16) := by kernel_rfl
theorem infoS : ∃ i, Tryz.prog.info? 9 = some i ∧ i.zero = some (.string ByteArray.empty) ∧ i.size = 1 ∧ i.bytes = 16 := by
  have h0 := zeroS
  cases hq : Tryz.prog.info? 9 with
  | none => rw [hq] at h0; cases h0
  | some i =>
    rw [hq] at h0
    simp only [Option.map_some, Option.some.injEq, Prod.mk.injEq] at h0
    exact ⟨i, rfl, h0.1, h0.2.1, h0.2.2⟩
/-- A row of words that the call owns. -/
def OwnsS (w : World) (B : Nat) (v : Value) (ws : List Wd) : Prop := w.ownsRow B 9 1 v ws.length (ws.map bstr)
theorem OwnsS.more {w : World} {B : Nat} {v : Value} {ws : List Wd} (h : OwnsS w B v ws) (os : Array Obj) (d : Nat) : OwnsS (more w os d) B v ws := by
  refine ⟨h.1, ?_⟩
  rcases h.2 with h0 | ⟨g, cap, cur, hv, hb, hg, h1, h2, h3, h4⟩
  · exact Or.inl h0
  · refine Or.inr ⟨g, cap, cur, hv, hb, ?_, h1, h2, h3, h4⟩
    rw [heap_more g (Array.getElem?_eq_some_iff.1 hg).1]
    exact hg
theorem OwnsS.alloc {w : World} {B : Nat} {v : Value} {ws : List Wd} (h : OwnsS w B v ws) (o : Obj) : OwnsS (w.alloc o) B v ws := World.ownsRow.alloc h o
theorem OwnsS.below {w w' : World} {B : Nat} {v : Value} {ws : List Wd} (h : OwnsS w B v ws) (hb : Below w.heap.size w w') : OwnsS w' B v ws := by
  obtain ⟨os, d, rfl⟩ := more_of_below hb
  exact h.more os d
theorem OwnsS.kept {w w' : World} {B : Nat} {v : Value} {ws : List Wd} {row : Option Nat} (h : OwnsS w B v ws) (hg : w.grownBy w' row) (hne : v.ownBlock = none ∨ v.ownBlock ≠ row) : OwnsS w' B v ws := World.ownsRow.kept h hg hne
theorem OwnsS.mono {w : World} {B B' : Nat} {v : Value} {ws : List Wd} (h : OwnsS w B v ws) (hb : B' ≤ B) : OwnsS w B' v ws :=
  ⟨h.1, h.2.imp id (fun ⟨g, cap, cur, a, b, c⟩ => ⟨g, cap, cur, a, by omega, c⟩)⟩
theorem OwnsS.lit (w : World) (B : Nat) (cs : Array Value) (ws : List Wd) (hb : B ≤ w.heap.size) (hn : cs.size = ws.length) (hl : ws.length ≤ 4194304) (hc : cs.toList = ws.map bstr) :
    OwnsS (w.alloc (.cells cs 9)) B (.slice (some ⟨w.heap.size, 0, none⟩) ws.length ws.length) ws := by
  refine ⟨by simp, Or.inr ⟨w.heap.size, ws.length, cs, rfl, hb, heap_alloc_new _ _, Nat.le_refl _, by unfold maxLen; omega, by omega, ?_⟩⟩
  rw [hc, List.take_of_length_le (by simp)]
theorem OwnsS.cell {w : World} {B g cap : Nat} {ws : List Wd} (h : OwnsS w B (.slice (some ⟨g, 0, none⟩) ws.length cap) ws) {i : Nat} {x : Wd} (hx : ws[i]? = some x) : w.cell? ⟨g, i, none⟩ = some (bstr x) := by
  have hi : i < ws.length := (List.getElem?_eq_some_iff.1 hx).1
  rw [World.ownsRow.cellAt h i (by omega), List.getElem?_map, hx]; rfl
theorem OwnsS.lt {w : World} {B g n cap : Nat} {ws : List Wd} (h : OwnsS w B (.slice (some ⟨g, 0, none⟩) n cap) ws) : B ≤ g ∧ g < w.heap.size := World.ownsRow.lt h g rfl
theorem OwnsS.cap {w : World} {B g cap : Nat} {ws : List Wd} (h : OwnsS w B (.slice (some ⟨g, 0, none⟩) ws.length cap) ws) : ws.length ≤ cap := by
  rcases h.2 with ⟨h0, -⟩ | ⟨g', cap', cur, hv, -, -, h1, -⟩
  · cases h0
  · cases hv; exact h1
theorem below_grownS {B : Nat} {a w w' : World} {v : Value} (h : Below B a w) (hg : w.grownBy w' v.ownBlock) (hB : ∀ k, v.ownBlock = some k → B ≤ k) (hs : B ≤ w.heap.size) : Below B a w' :=
  h.trans ⟨hg.os, hg.tape, hg.output, hg.size, fun k hk => hg.block k (by omega) (fun e => by have := hB k e.symm; omega)⟩
/-- Words are appended. -/
theorem wpList_append_words {w : World} {ops : Array Oper} {rest : List Oper} {o : Oper} {a : Act} {Q : Exit → Act → World → Prop} (hgd : o.guard = none) (s x : Operand)
    (ho : o.op = .call { callee := .builtin .append, args := #[s, x], argTypes := #[47, 47] })
    (B : Nat) (ws news : List Wd) (v : Value) (hs : a.eval s = v) (hown : OwnsS w B v ws) (g0 m c : Nat) (hx : a.eval x = .slice (some ⟨g0, 0, none⟩) m c) (hm : news.length = m)
    (hcells : ∀ j u, news[j]? = some u → w.cell? ⟨g0, j, none⟩ = some (bstr u)) (h0 : 0 < m) (hle : ws.length + m ≤ 4194304) (hB : B ≤ w.heap.size)
    (h : ∀ g cap w', OwnsS w' B (.slice (some ⟨g, 0, none⟩) (ws.length + m) cap) (ws ++ news) → w.grownBy w' v.ownBlock → (v.ownBlock = some g ∨ g = w.heap.size) → Below B w w' → wpList Tryz.prog ops Q rest (a.put o.dst (.slice (some ⟨g, 0, none⟩) (ws.length + m) cap)) w') :
    wpList Tryz.prog ops Q (o :: rest) a w := by
  obtain ⟨i, hi, hz0, hz1, hz2⟩ := infoS
  have hadd : ∀ j, (⟨g0, 0, none⟩ : Addr).add j = ⟨g0, j, none⟩ := fun j => by unfold Addr.add; split <;> simp_all
  refine wpList_append_lies w hgd s x 47 ho B 9 i (.string ByteArray.empty) 1 16 Tryz.underlying47 hi hz0 hz1 hz2 rfl (by omega) v ws.length (ws.map bstr) hs hown ⟨g0, 0, none⟩ m c (news.map bstr) hx (by simp [hm]) ?_ ?_ h0 (by unfold maxLen; omega) (by omega) hB _ rfl ?_
  · intro j u hu
    rw [hadd]
    rw [List.getElem?_map] at hu
    obtain ⟨x, hx1, rfl⟩ := Option.map_eq_some_iff.1 hu
    exact hcells j x hx1
  · intro u hu
    obtain ⟨x, -, rfl⟩ := List.mem_map.1 hu
    rfl
  · intro g cap w' hown' hgrow hat _
    refine h g cap w' ?_ hgrow hat (below_grownS (Below.refl B w) hgrow (fun k hk => (World.ownsRow.lt hown k hk).1) hB)
    unfold OwnsS
    rw [List.map_append, show (ws ++ news).length = ws.length + m by simp [hm]]
    exact hown'

/-- The same at a step of a region that draws its order. -/
theorem step_append_words {w : World} {ops : Array Oper} {o : Oper} {a : Act} {K : Act → World → Prop} {Q : Exit → Act → World → Prop} {E : Prop} (hgd : o.guard = none) (s x : Operand)
    (ho : o.op = .call { callee := .builtin .append, args := #[s, x], argTypes := #[47, 47] })
    (B : Nat) (ws news : List Wd) (v : Value) (hs : a.eval s = v) (hown : OwnsS w B v ws) (g0 m c : Nat) (hx : a.eval x = .slice (some ⟨g0, 0, none⟩) m c) (hm : news.length = m)
    (hcells : ∀ j u, news[j]? = some u → w.cell? ⟨g0, j, none⟩ = some (bstr u)) (h0 : 0 < m) (hle : ws.length + m ≤ 4194304) (hB : B ≤ w.heap.size)
    (h : ∀ g cap w', OwnsS w' B (.slice (some ⟨g, 0, none⟩) (ws.length + m) cap) (ws ++ news) → w.grownBy w' v.ownBlock → (v.ownBlock = some g ∨ g = w.heap.size) → Below B w w' → K (a.put o.dst (.slice (some ⟨g, 0, none⟩) (ws.length + m) cap)) w') :
    if Region.wanted o (yielded ops a.tmps) = true then Oper.wp Tryz.prog o a w K Q else E := by
  obtain ⟨i, hi, hz0, hz1, hz2⟩ := infoS
  have hadd : ∀ j, (⟨g0, 0, none⟩ : Addr).add j = ⟨g0, j, none⟩ := fun j => by unfold Addr.add; split <;> simp_all
  refine step_append_lies w hgd s x 47 ho B 9 i (.string ByteArray.empty) 1 16 Tryz.underlying47 hi hz0 hz1 hz2 rfl (by omega) v ws.length (ws.map bstr) hs hown ⟨g0, 0, none⟩ m c (news.map bstr) hx (by simp [hm]) ?_ ?_ h0 (by unfold maxLen; omega) (by omega) hB _ rfl ?_
  · intro j u hu
    rw [hadd]
    rw [List.getElem?_map] at hu
    obtain ⟨x, hx1, rfl⟩ := Option.map_eq_some_iff.1 hu
    exact hcells j x hx1
  · intro u hu
    obtain ⟨x, -, rfl⟩ := List.mem_map.1 hu
    rfl
  · intro g cap w' hown' hgrow hat _
    refine h g cap w' ?_ hgrow hat (below_grownS (Below.refl B w) hgrow (fun k hk => (World.ownsRow.lt hown k hk).1) hB)
    unfold OwnsS
    rw [List.map_append, show (ws ++ news).length = ws.length + m by simp [hm]]
    exact hown'
theorem new_cell (w : World) (cs : Array Value) (T : TypeId) (j : Nat) : (w.alloc (.cells cs T)).cell? ⟨w.heap.size, j, none⟩ = cs[j]? := by
  unfold World.cell?
  rw [heap_alloc_new]
  rfl
theorem one_cell (w : World) (u : ByteArray) : ∀ j x, [u.data.toList][j]? = some x → (w.alloc (.cells #[.string u] 9)).cell? ⟨w.heap.size, j, none⟩ = some (bstr x) := by
  intro j x hx
  cases j with
  | zero =>
    simp only [List.getElem?_cons_zero, Option.some.injEq] at hx
    subst hx
    rw [bstr_data, new_cell]; rfl
  | succ j => simp at hx

theorem three_cells (w : World) (A B C : ByteArray) (g0 : Nat) (hg : g0 = w.heap.size) : ∀ j x, [A.data.toList, B.data.toList, C.data.toList][j]? = some x → (w.alloc (.cells #[.string A, .string B, .string C] 9)).cell? ⟨g0, j, none⟩ = some (bstr x) := by
  intro j x hx
  subst hg
  rw [new_cell]
  match j, hx with
  | 0, hx => simp only [List.getElem?_cons_zero, Option.some.injEq] at hx; subst hx; rw [bstr_data]; rfl
  | 1, hx => simp only [List.getElem?_cons_succ, List.getElem?_cons_zero, Option.some.injEq] at hx; subst hx; rw [bstr_data]; rfl
  | 2, hx => simp only [List.getElem?_cons_succ, List.getElem?_cons_zero, Option.some.injEq] at hx; subst hx; rw [bstr_data]; rfl
  | j + 3, hx => simp at hx

end Go.Proofs.YthojdoiffkdikaaGreatDoor
end
section -- a part
namespace Go.Proofs.YthojdoiffkdikaaGreatDoor
open Go.RowKit

/-- What an opened reader is: a new block that holds at most 2000 bytes of the code. -/
def OpenPost (w : World) (a : Option Addr) (len cap : Nat) (e : Ending) (w' : World) : Prop :=
  ∃ len' : Nat, len' ≤ len ∧ len' ≤ 2000 ∧ e = .returned (.pointer (some ⟨w.heap.size, 0, none⟩)) ∧ w' = w.alloc (rdObj (.slice a len' cap) 0)

theorem open_any (w : World) (a : Option Addr) (len cap : Nat) (hl : len ≤ 1048576) (hc : len ≤ cap) :
    Calls Tryz.prog 23 #[.slice a len cap] w (OpenPost w a len cap) := by
  by_cases h : len ≤ 2000
  · go_enter Tryz.func23, Tryz.ntmps23
    go_wp2
    go_ret
    exact ⟨len, by omega, h, rfl, rfl⟩
  · have h2 : 2000 ≤ cap := by omega
    go_enter Tryz.func23, Tryz.ntmps23
    go_wp2
    all_goals (try go_ret)
    all_goals exact ⟨2000, by omega, by omega, rfl, rfl⟩
end Go.Proofs.YthojdoiffkdikaaGreatDoor
end
