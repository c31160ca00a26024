/- Rows of words that a call owns; the reference's words of a text. -/
import Derived.Test.YthojdoiffkdikaaGreatDoorPlotA
import Derived.Test.YthojdoiffkdikaaGreatDoorPlotG
import Derived.Laws.MakeOwn
import Derived.Laws.OwnMore
import Derived.Deep.AppendLies
namespace Go.Proofs.YthojdoiffkdikaaGreatDoor
open Go.RowKit Go.PlotT

theorem zeroS : (Tryz.prog.info? 9).map (fun i => (i.zero, i.size, i.bytes)) = some (some (.string ByteArray.empty), 1, 16) := by kernel_rfl
theorem infoS : ∃ i, Tryz.prog.info? 9 = some i ∧ i.zero = some (.string ByteArray.empty) ∧ i.size = 1 ∧ i.bytes = 16 := by
  have h0 := zeroS
  cases hq : Tryz.prog.info? 9 with
  | none => rw [hq] at h0; cases h0
  | some i =>
    rw [hq] at h0
    simp only [Option.map_some, Option.some.injEq, Prod.mk.injEq] at h0
    exact ⟨i, rfl, h0.1, h0.2.1, h0.2.2⟩
/-- A row of words that the call owns. -/
def OwnsW (w : World) (B : Nat) (v : Value) (ws : List Wd) : Prop := w.ownsRow B 9 1 v ws.length (ws.map bstr)
theorem OwnsW.more {w : World} {B : Nat} {v : Value} {ws : List Wd} (h : OwnsW w B v ws) (os : Array Obj) (d : Nat) : OwnsW (more w os d) B v ws := by
  refine ⟨h.1, ?_⟩
  rcases h.2 with h0 | ⟨g, cap, cur, hv, hb, hg, h1, h2, h3, h4⟩
  · exact Or.inl h0
  · refine Or.inr ⟨g, cap, cur, hv, hb, ?_, h1, h2, h3, h4⟩
    rw [heap_more g (Array.getElem?_eq_some_iff.1 hg).1]
    exact hg
theorem OwnsW.alloc {w : World} {B : Nat} {v : Value} {ws : List Wd} (h : OwnsW w B v ws) (o : Obj) : OwnsW (w.alloc o) B v ws := World.ownsRow.alloc h o
theorem OwnsW.below {w w' : World} {B : Nat} {v : Value} {ws : List Wd} (h : OwnsW w B v ws) (hb : Below w.heap.size w w') : OwnsW w' B v ws := by
  obtain ⟨os, d, rfl⟩ := more_of_below hb
  exact h.more os d
theorem OwnsW.kept {w w' : World} {B : Nat} {v : Value} {ws : List Wd} {row : Option Nat} (h : OwnsW w B v ws) (hg : w.grownBy w' row) (hne : v.ownBlock = none ∨ v.ownBlock ≠ row) : OwnsW w' B v ws := World.ownsRow.kept h hg hne
theorem OwnsW.mono {w : World} {B B' : Nat} {v : Value} {ws : List Wd} (h : OwnsW w B v ws) (hb : B' ≤ B) : OwnsW w B' v ws :=
  ⟨h.1, h.2.imp id (fun ⟨g, cap, cur, a, b, c⟩ => ⟨g, cap, cur, a, by omega, c⟩)⟩
theorem OwnsW.lit (w : World) (B : Nat) (cs : Array Value) (ws : List Wd) (hb : B ≤ w.heap.size) (hn : cs.size = ws.length) (hl : ws.length ≤ 4194304) (hc : cs.toList = ws.map bstr) :
    OwnsW (w.alloc (.cells cs 9)) B (.slice (some ⟨w.heap.size, 0, none⟩) ws.length ws.length) ws := by
  refine ⟨by simp, Or.inr ⟨w.heap.size, ws.length, cs, rfl, hb, heap_alloc_new _ _, Nat.le_refl _, by unfold maxLen; omega, by omega, ?_⟩⟩
  rw [hc, List.take_of_length_le (by simp)]
theorem OwnsW.cell {w : World} {B g cap : Nat} {ws : List Wd} (h : OwnsW w B (.slice (some ⟨g, 0, none⟩) ws.length cap) ws) {i : Nat} {x : Wd} (hx : ws[i]? = some x) : w.cell? ⟨g, i, none⟩ = some (bstr x) := by
  have hi : i < ws.length := (List.getElem?_eq_some_iff.1 hx).1
  rw [World.ownsRow.cellAt h i (by omega), List.getElem?_map, hx]; rfl
theorem OwnsW.lt {w : World} {B g n cap : Nat} {ws : List Wd} (h : OwnsW w B (.slice (some ⟨g, 0, none⟩) n cap) ws) : B ≤ g ∧ g < w.heap.size := World.ownsRow.lt h g rfl
theorem OwnsW.cap {w : World} {B g cap : Nat} {ws : List Wd} (h : OwnsW w B (.slice (some ⟨g, 0, none⟩) ws.length cap) ws) : ws.length ≤ cap := by
  rcases h.2 with ⟨h0, -⟩ | ⟨g', cap', cur, hv, -, -, h1, -⟩
  · cases h0
  · cases hv; exact h1
theorem below_grownW {B : Nat} {a w w' : World} {v : Value} (h : Below B a w) (hg : w.grownBy w' v.ownBlock) (hB : ∀ k, v.ownBlock = some k → B ≤ k) (hs : B ≤ w.heap.size) : Below B a w' :=
  h.trans ⟨hg.os, hg.tape, hg.output, hg.size, fun k hk => hg.block k (by omega) (fun e => by have := hB k e.symm; omega)⟩
/-- Words are appended. -/
theorem wpList_append_words {w : World} {ops : Array Oper} {rest : List Oper} {o : Oper} {a : Act} {Q : Exit → Act → World → Prop} (hgd : o.guard = none) (s x : Operand)
    (ho : o.op = .call { callee := .builtin .append, args := #[s, x], argTypes := #[47, 47] })
    (B : Nat) (ws news : List Wd) (v : Value) (hs : a.eval s = v) (hown : OwnsW w B v ws) (g0 m c : Nat) (hx : a.eval x = .slice (some ⟨g0, 0, none⟩) m c) (hm : news.length = m)
    (hcells : ∀ j u, news[j]? = some u → w.cell? ⟨g0, j, none⟩ = some (bstr u)) (h0 : 0 < m) (hle : ws.length + m ≤ 4194304) (hB : B ≤ w.heap.size)
    (h : ∀ g cap w', OwnsW w' B (.slice (some ⟨g, 0, none⟩) (ws.length + m) cap) (ws ++ news) → w.grownBy w' v.ownBlock → (v.ownBlock = some g ∨ g = w.heap.size) → Below B w w' → wpList Tryz.prog ops Q rest (a.put o.dst (.slice (some ⟨g, 0, none⟩) (ws.length + m) cap)) w') :
    wpList Tryz.prog ops Q (o :: rest) a w := by
  obtain ⟨i, hi, hz0, hz1, hz2⟩ := infoS
  have hadd : ∀ j, (⟨g0, 0, none⟩ : Addr).add j = ⟨g0, j, none⟩ := fun j => by unfold Addr.add; split <;> simp_all
  refine wpList_append_lies w hgd s x 47 ho B 9 i (.string ByteArray.empty) 1 16 Tryz.underlying47 hi hz0 hz1 hz2 rfl (by omega) v ws.length (ws.map bstr) hs hown ⟨g0, 0, none⟩ m c (news.map bstr) hx (by simp [hm]) ?_ ?_ h0 (by unfold maxLen; omega) (by omega) hB _ rfl ?_
  · intro j u hu
    rw [hadd]
    rw [List.getElem?_map] at hu
    obtain ⟨x, hx1, rfl⟩ := Option.map_eq_some_iff.1 hu
    exact hcells j x hx1
  · intro u hu
    obtain ⟨x, -, rfl⟩ := List.mem_map.1 hu
    rfl
  · intro g cap w' hown' hgrow hat _
    refine h g cap w' ?_ hgrow hat (below_grownW (Below.refl B w) hgrow (fun k hk => (World.ownsRow.lt hown k hk).1) hB)
    unfold OwnsW
    rw [List.map_append, show (ws ++ news).length = ws.length + m by simp [hm]]
    exact hown'

/-- The same at a step of a region that draws its order. -/
theorem step_append_words {w : World} {ops : Array Oper} {o : Oper} {a : Act} {K : Act → World → Prop} {Q : Exit → Act → World → Prop} {E : Prop} (hgd : o.guard = none) (s x : Operand)
    (ho : o.op = .call { callee := .builtin .append, args := #[s, x], argTypes := #[47, 47] })
    (B : Nat) (ws news : List Wd) (v : Value) (hs : a.eval s = v) (hown : OwnsW w B v ws) (g0 m c : Nat) (hx : a.eval x = .slice (some ⟨g0, 0, none⟩) m c) (hm : news.length = m)
    (hcells : ∀ j u, news[j]? = some u → w.cell? ⟨g0, j, none⟩ = some (bstr u)) (h0 : 0 < m) (hle : ws.length + m ≤ 4194304) (hB : B ≤ w.heap.size)
    (h : ∀ g cap w', OwnsW w' B (.slice (some ⟨g, 0, none⟩) (ws.length + m) cap) (ws ++ news) → w.grownBy w' v.ownBlock → (v.ownBlock = some g ∨ g = w.heap.size) → Below B w w' → K (a.put o.dst (.slice (some ⟨g, 0, none⟩) (ws.length + m) cap)) w') :
    if Region.wanted o (yielded ops a.tmps) = true then Oper.wp Tryz.prog o a w K Q else E := by
  obtain ⟨i, hi, hz0, hz1, hz2⟩ := infoS
  have hadd : ∀ j, (⟨g0, 0, none⟩ : Addr).add j = ⟨g0, j, none⟩ := fun j => by unfold Addr.add; split <;> simp_all
  refine step_append_lies w hgd s x 47 ho B 9 i (.string ByteArray.empty) 1 16 Tryz.underlying47 hi hz0 hz1 hz2 rfl (by omega) v ws.length (ws.map bstr) hs hown ⟨g0, 0, none⟩ m c (news.map bstr) hx (by simp [hm]) ?_ ?_ h0 (by unfold maxLen; omega) (by omega) hB _ rfl ?_
  · intro j u hu
    rw [hadd]
    rw [List.getElem?_map] at hu
    obtain ⟨x, hx1, rfl⟩ := Option.map_eq_some_iff.1 hu
    exact hcells j x hx1
  · intro u hu
    obtain ⟨x, -, rfl⟩ := List.mem_map.1 hu
    rfl
  · intro g cap w' hown' hgrow hat _
    refine h g cap w' ?_ hgrow hat (below_grownW (Below.refl B w) hgrow (fun k hk => (World.ownsRow.lt hown k hk).1) hB)
    unfold OwnsW
    rw [List.map_append, show (ws ++ news).length = ws.length + m by simp [hm]]
    exact hown'
theorem new_cell (w : World) (cs : Array Value) (T : TypeId) (j : Nat) : (w.alloc (.cells cs T)).cell? ⟨w.heap.size, j, none⟩ = cs[j]? := by
  unfold World.cell?
  rw [heap_alloc_new]
  rfl
theorem one_cell (w : World) (u : ByteArray) : ∀ j x, [u.data.toList][j]? = some x → (w.alloc (.cells #[.string u] 9)).cell? ⟨w.heap.size, j, none⟩ = some (bstr x) := by
  intro j x hx
  cases j with
  | zero =>
    simp only [List.getElem?_cons_zero, Option.some.injEq] at hx
    subst hx
    rw [bstr_data, new_cell]; rfl
  | succ j => simp at hx

theorem three_cells (w : World) (A B C : ByteArray) (g0 : Nat) (hg : g0 = w.heap.size) : ∀ j x, [A.data.toList, B.data.toList, C.data.toList][j]? = some x → (w.alloc (.cells #[.string A, .string B, .string C] 9)).cell? ⟨g0, j, none⟩ = some (bstr x) := by
  intro j x hx
  subst hg
  rw [new_cell]
  match j, hx with
  | 0, hx => simp only [List.getElem?_cons_zero, Option.some.injEq] at hx; subst hx; rw [bstr_data]; rfl
  | 1, hx => simp only [List.getElem?_cons_succ, List.getElem?_cons_zero, Option.some.injEq] at hx; subst hx; rw [bstr_data]; rfl
  | 2, hx => simp only [List.getElem?_cons_succ, List.getElem?_cons_zero, Option.some.injEq] at hx; subst hx; rw [bstr_data]; rfl
  | j + 3, hx => simp at hx

/-- The words of a text. -/
def WordsPost (w : World) (l : Wd) (e : Ending) (w' : World) : Prop := ∃ g cap, e = .returned (.slice (some ⟨g, 0, none⟩) (cutW l).length cap) ∧ OwnsW w' w.heap.size (.slice (some ⟨g, 0, none⟩) (cutW l).length cap) (cutW l) ∧ Below w.heap.size w w'
set_option maxRecDepth 100000 in
set_option maxHeartbeats 1000000 in
theorem l12Words_any (s : ByteArray) (hs : s.size ≤ 1048576) (w : World) :
    Calls Tryz.prog 28 #[.string s] w (WordsPost w s.data.toList) := by
  have hl : s.data.toList.length ≤ 1048576 := by rw [← Lib.size_eq]; exact hs
  go_enter Tryz.func28, Tryz.ntmps28
  go_wp2_with fail
  go_loopw [3, 4, 5] (fun s3 s4 s5 wr => ∃ (g cap a i : Nat) (done : List Wd), s3 = .slice (some ⟨g, 0, none⟩) done.length cap ∧ s4 = .int .i64 a ∧ s5 = .int .i64 i ∧ i ≤ s.size + 1 ∧ done.length ≤ i ∧ Hid (CutAt s.data.toList done a i) ∧ Hid (OwnsW wr w.heap.size (.slice (some ⟨g, 0, none⟩) done.length cap) done) ∧ Below w.heap.size w wr) (fun _ _ s5 _ => s.size + 1 - (intOf s5).toNat)
  case atStart => exact ⟨_, _, 0, 0, [], rfl, rfl, rfl, by omega, by simp, CutAt.start _, OwnsW.lit _ _ #[] [] (Nat.le_refl _) rfl (by simp) rfl, by repeat' (first | (with_reducible exact Below.refl _ _) | (with_reducible assumption) | (with_reducible refine Below.alloc ?_ ?_ _) | (with_reducible refine below_more ?_ ?_ _ _) | (with_reducible refine below_rd ?_ ?_ _ _) | (with_reducible refine Below.drew ?_) | (with_reducible refine Below.setCell ?_ ?_ _) | go_size)⟩
  case round =>
    obtain ⟨g, cap, a, i, done, rfl, rfl, rfl, hi, hd, hcut, hown, hbel⟩ := hrel
    have hsz := hbel.size
    have hLE : ∀ j, (Value.slice (some ⟨g, 0, none⟩) done.length cap).ownBlock = some j → w.heap.size ≤ j := fun j hj => (World.ownsRow.lt hown.out j hj).1
    have HLE := Lib.hid hLE
    clear hLE
    by_cases hlt : i ≤ s.size
    · have hai := hcut.out.le (by rw [← Lib.size_eq]; exact hlt)
      by_cases he : i = s.size
      · subst he
        have HC2 := Lib.hid (show CutAt s.data.toList (done ++ [(s.extract a s.size).data.toList]) (s.size + 1) (s.size + 1) by
          have h := hcut.out
          rw [Lib.size_eq] at h
          have h := h.ends
          rw [← Lib.size_eq] at h
          rw [Lib.extract_data]
          exact h)
        go_wp2_with (at_builtin; go_must (refine wpList_append_words rfl _ _ rfl w.heap.size done [(s.extract a s.size).data.toList] (.slice (some ⟨g, 0, none⟩) done.length cap) rfl (OwnsW.alloc hown.out _) wr.heap.size 1 1 rfl rfl ?_ (by omega) (by omega) (by rw [World.size_alloc]; omega) ?_; (focus (exact one_cell _ _)); intro g2 cap2 w2 hown2 hgrow hat hb2; have HO2 := Lib.hid hown2; have HB2 := Lib.hid (hbel.trans (((Below.refl _ wr).alloc (Nat.le_refl _) _).mono hsz |>.trans hb2)); clear hown2 hgrow hat hb2))
        go_roundw
        case rel => exact ⟨g2, cap2, s.size + 1, s.size + 1, done ++ [(s.extract a s.size).data.toList], by simp, by go_num, by go_num, by omega, by simp; omega, HC2.out, by rw [List.length_append]; exact HO2.out, HB2.out⟩
        case measure => simp [intOf]
      · have hlt2 : i < s.size := by omega
        have hx : s.data.toList[i]? = some (s[i]'hlt2) := by rw [List.getElem?_eq_getElem (by rw [← Lib.size_eq]; exact hlt2)]; rfl
        have e1 : ((i : Int) == (s.size : Int)) = false := by rw [beq_eq_false_iff_ne]; omega
        by_cases hc : s[i]'hlt2 = 32
        · have e2 : (((s[i]'hlt2).toNat : Int) == 32) = true := by rw [hc]; rfl
          rw [hc] at hx
          have HC2 := Lib.hid (show CutAt s.data.toList (done ++ [(s.extract a i).data.toList]) (i + 1) (i + 1) by
            rw [Lib.extract_data]
            exact hcut.out.cut hx)
          clear hx hc
          go_wp2_with (at_builtin; go_must (refine wpList_append_words rfl _ _ rfl w.heap.size done [(s.extract a i).data.toList] (.slice (some ⟨g, 0, none⟩) done.length cap) rfl (OwnsW.alloc hown.out _) wr.heap.size 1 1 rfl rfl ?_ (by omega) (by omega) (by rw [World.size_alloc]; omega) ?_; (focus (exact one_cell _ _)); intro g2 cap2 w2 hown2 hgrow hat hb2; have HO2 := Lib.hid hown2; have HB2 := Lib.hid (hbel.trans (((Below.refl _ wr).alloc (Nat.le_refl _) _).mono hsz |>.trans hb2)); clear hown2 hgrow hat hb2))
          go_roundw
          case rel => exact ⟨g2, cap2, i + 1, i + 1, done ++ [(s.extract a i).data.toList], by simp, by go_num, by go_num, by omega, by simp; omega, HC2.out, by rw [List.length_append]; exact HO2.out, HB2.out⟩
          case measure => simp [intOf]; omega
        · have e2 : (((s[i]'hlt2).toNat : Int) == 32) = false := by
            rw [beq_eq_false_iff_ne]
            intro e
            apply hc
            apply UInt8.toNat_inj.1
            show _ = 32
            omega
          have HC2 := Lib.hid (hcut.out.on hx hc)
          clear hx hc
          go_wp2_with fail
          go_roundw
          case rel => exact ⟨g, cap, a, i + 1, done, rfl, rfl, by go_num, by omega, by omega, HC2.out, hown, hbel⟩
          case measure => simp [intOf]; omega
    · obtain rfl : i = s.size + 1 := by omega
      have HD := Lib.hid (hcut.out.over (by rw [← Lib.size_eq]; omega))
      go_wp2
      go_returns
      refine ⟨g, cap, ?_, ?_, hbel⟩
      · rw [← HD.out]; rfl
      · rw [← HD.out]; exact hown.out
end Go.Proofs.YthojdoiffkdikaaGreatDoor
