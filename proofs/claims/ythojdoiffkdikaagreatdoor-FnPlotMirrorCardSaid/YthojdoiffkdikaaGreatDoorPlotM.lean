/- Plotter programs of the program: the steps of a text, all texts. -/
import Derived.Test.YthojdoiffkdikaaGreatDoorPlotL
namespace Go.Proofs.YthojdoiffkdikaaGreatDoor
open Go.RowKit Go.PlotT

/-- The world with the two named results. -/
abbrev W2 (w : World) : World := (w.alloc (.cells #[.string ⟨#[]⟩] 9)).alloc (.cells #[.bool false] 4)
set_option maxRecDepth 100000 in
set_option maxHeartbeats 1000000 in
theorem stepsOf_any (s : ByteArray) (m : Int) (w : World) (hm : w.cell? ⟨0, 0, none⟩ = some (.int .i64 m)) :
    Calls Tryz.prog 31 #[.string s] w (StepsPost w s.data.toList) := by
  by_cases h4 : 400 < s.size
  · exact stepsOf_big s h4 w
  · have hd4 : (s.size : Int) ≤ 400 := by omega
    have hmf : ∀ (fn : Fn) (first cap : Array Value) (w : World), (Instr.makeFunc fn first cap).run Tryz.prog w = .ok (.func fn first cap) w := fun _ _ _ _ => rfl
    have HM := Lib.hid hm
    clear hm
    by_cases hemp : s.data.toList = []
    · have HP := Lib.hid (show prog s.data.toList = none by rw [hemp]; exact prog_nil)
      have he : s.toList.isEmpty = true := by rw [Lib.toList_data, hemp]; rfl
      clear hemp
      go_enter_defers Tryz.func31, Tryz.ntmps31
      go_wp2_with (go_at_call 53; go_must (refine (need_any _ _).mono ?_; intro e w' hpost; simp only [NeedPost] at hpost; obtain ⟨rfl, rfl⟩ := hpost))
      refine leaves_cons (f := 52) (args := #[.pointer (some ⟨w.heap.size, 0, none⟩), .pointer (some ⟨w.heap.size + 1, 0, none⟩)]) (by simp) (by simp [go_sem]) ?_
      refine (catch_panicking w.heap.size (w.heap.size + 1) (.string ⟨#[]⟩) (.bool false) _ (by simp [go_sem]) (by simp [go_sem]) (by simp [go_sem]) (by simp [go_sem]) (by omega)).mono ?_
      rintro e u' w'' ⟨rfl, rfl, hb⟩
      have hsz : ((w.alloc (.cells #[.string ⟨#[]⟩] 9)).alloc (.cells #[.bool false] 4)).heap.size = w.heap.size + 2 := by simp
      rw [hsz] at hb
      have d0 : w''.cell? ⟨w.heap.size, 0, none⟩ = some (.string ⟨#[]⟩) := by rw [hb.cell (p := ⟨w.heap.size, 0, none⟩) (by show w.heap.size < _; omega)]; simp [go_sem]
      have d1 : w''.cell? ⟨w.heap.size + 1, 0, none⟩ = some (.bool false) := by rw [hb.cell (p := ⟨w.heap.size + 1, 0, none⟩) (by show w.heap.size + 1 < _; omega)]; simp [go_sem]
      have hB : Below w.heap.size w w'' := (by repeat' (first | (with_reducible exact Below.refl _ _) | (with_reducible assumption) | (with_reducible refine Below.alloc ?_ ?_ _) | (with_reducible refine below_more ?_ ?_ _ _) | (with_reducible refine below_rd ?_ ?_ _ _) | (with_reducible refine Below.drew ?_) | (with_reducible refine Below.setCell ?_ ?_ _) | go_size) : Below w.heap.size w ((((w.alloc (.cells #[.string ⟨#[]⟩] 9)).alloc (.cells #[.bool false] 4)).setCell ⟨w.heap.size, 0, none⟩ (.string ⟨#[]⟩)).setCell ⟨w.heap.size + 1, 0, none⟩ (.bool false))).trans (hb.mono (by omega))
      simp [Leaves, settle, results, Tryz.results31, go_sem, d0, d1]
      exact ⟨by rw [stepsB, HP.out]; rfl, hB⟩
    · have he : s.toList.isEmpty = false := by
        rw [Lib.toList_data]
        cases h : s.data.toList with
        | nil => exact absurd h hemp
        | cons _ _ => rfl
      clear hemp
      have hm2 : (W2 w).cell? ⟨0, 0, none⟩ = some (.int .i64 m) := ((by repeat' (first | (with_reducible exact Below.refl _ _) | (with_reducible assumption) | (with_reducible refine Below.alloc ?_ ?_ _) | (with_reducible refine below_more ?_ ?_ _ _) | (with_reducible refine below_rd ?_ ?_ _ _) | (with_reducible refine Below.drew ?_) | (with_reducible refine Below.setCell ?_ ?_ _) | go_size) : Below w.heap.size w (W2 w)).cell (p := ⟨0, 0, none⟩) (block_lt_of_cell HM.out)).trans HM.out
      obtain ⟨ws, hws⟩ : ∃ ws, cutW s.data.toList = ws := ⟨_, rfl⟩
      have hlen := cutW_length s.data.toList
      rw [← Lib.size_eq, hws] at hlen
      have hpos : 0 < ws.length := by rw [← hws]; exact List.length_pos_iff.2 (cutW_ne _)
      have HWS := Lib.hid hws
      have HP := Lib.hid (show prog s.data.toList = (fl ws false []).map (·.1) by rw [prog_eq, ← Lib.size_eq, if_neg h4, hws])
      clear hws
      have hW2s : (W2 w).heap.size = w.heap.size + 1 + 1 := by simp
      have hW2p : (W2 w).cell? ⟨w.heap.size, 0, none⟩ = some (.string ⟨#[]⟩) := by simp [go_sem]
      have hW2q : (W2 w).cell? ⟨w.heap.size + 1, 0, none⟩ = some (.bool false) := by simp [go_sem]
      have hW2fp : (W2 w).frozen? ⟨w.heap.size, 0, none⟩ = false := by simp [go_sem]
      have hW2fq : (W2 w).frozen? ⟨w.heap.size + 1, 0, none⟩ = false := by simp [go_sem]
      cases hf : fl ws false [] with
      | none =>
        have HF := Lib.hid hf
        clear hf
        go_enter_defers Tryz.func31, Tryz.ntmps31
        go_wp2_with (first
          | (go_at_call 53; go_must (refine (need_any _ _).mono ?_; intro e w' hpost; simp only [NeedPost] at hpost; obtain ⟨rfl, rfl⟩ := hpost))
          | (go_at_call 54; go_must (refine (Tryz.strings_Split s ⟨#[32]⟩ m _ (by omega) hm2 (by decide)).mono ?_; rintro e w1 ⟨rfl, hw1⟩; rw [countB_cut, HWS.out]; have hb1 : Below (W2 w).heap.size (W2 w) w1 := (by rw [hw1]; exact (Below.refl _ _).alloc (Nat.le_refl _) _); have HL1 : Lies w1 (W2 w).heap.size ws := (by refine ⟨(by rw [hw1]; simp), fun j x hx => ?_⟩; rw [hw1, new_cell, splitB_cut, HWS.out, List.getElem?_toArray, List.getElem?_map, hx]; rfl); have hs1 : w1.heap.size = (W2 w).heap.size + 1 := (by rw [hw1]; simp); have HB1 := Lib.hid hb1; have HLW := Lib.hid (show Lies w1 (w.heap.size + 1 + 1) ws from hW2s ▸ HL1); have HS1 := Lib.hid hs1; clear hb1 HL1 hs1 hw1))
          | (go_at_call 55; go_must (refine (until_any ws (w.heap.size + 1 + 1) ws.length w1.heap.size (by omega) ?_ (ws.length + 1) 0 false _ (by omega) (by omega) (Or.inr hpos) ?_ ?_).mono ?_; (focus (have := HS1.out; rw [hW2s] at this; omega)); (focus (exact HLW.out.below ((Below.refl _ w1).alloc (Nat.le_refl _) _) HLW.out.1)); (focus (exact heap_alloc_new _ _)); intro e w2 hpost; rw [List.drop_zero, HF.out] at hpost; obtain ⟨rfl, j3, h3⟩ := hpost; have hb2 : Below (W2 w).heap.size (W2 w) w2 := HB1.out.trans ((((Below.refl _ w1).alloc (Nat.le_refl _) _).trans (h3.toBelow (Nat.le_refl _) (by rw [World.size_alloc]; omega))).mono (by have := HS1.out; omega)); rw [hW2s] at hb2; have cp := (hb2.cell (p := ⟨w.heap.size, 0, none⟩) (by show w.heap.size < _; omega)).trans hW2p; have cq := (hb2.cell (p := ⟨w.heap.size + 1, 0, none⟩) (by show w.heap.size + 1 < _; omega)).trans hW2q; have fp := (hb2.frozen (p := ⟨w.heap.size, 0, none⟩) (by show w.heap.size < _; omega)).trans hW2fp; have fq := (hb2.frozen (p := ⟨w.heap.size + 1, 0, none⟩) (by show w.heap.size + 1 < _; omega)).trans hW2fq; have HB2 := Lib.hid hb2; clear hb2 h3)))
        refine leaves_cons (f := 52) (args := #[.pointer (some ⟨w.heap.size, 0, none⟩), .pointer (some ⟨w.heap.size + 1, 0, none⟩)]) (by simp) (by simp [go_sem]) ?_
        refine (catch_panicking w.heap.size (w.heap.size + 1) (.string ⟨#[]⟩) (.bool false) _ cp cq fp fq (by omega)).mono ?_
        rintro e u' w'' ⟨rfl, rfl, hb⟩
        have hsz := HB2.out.size
        rw [hW2s] at hsz
        have d0 : w''.cell? ⟨w.heap.size, 0, none⟩ = some (.string ⟨#[]⟩) := by rw [hb.cell (p := ⟨w.heap.size, 0, none⟩) (by show w.heap.size < _; omega)]; simp [go_sem, cp]
        have d1 : w''.cell? ⟨w.heap.size + 1, 0, none⟩ = some (.bool false) := by rw [hb.cell (p := ⟨w.heap.size + 1, 0, none⟩) (by show w.heap.size + 1 < _; omega)]; simp [go_sem, cq]
        have hB : Below w.heap.size w w'' := (((by repeat' (first | (with_reducible exact Below.refl _ _) | (with_reducible assumption) | (with_reducible refine Below.alloc ?_ ?_ _) | (with_reducible refine below_more ?_ ?_ _ _) | (with_reducible refine below_rd ?_ ?_ _ _) | (with_reducible refine Below.drew ?_) | (with_reducible refine Below.setCell ?_ ?_ _) | go_size) : Below w.heap.size w (W2 w)).trans (HB2.out.mono (by omega))).setCell (p := ⟨w.heap.size, 0, none⟩) (Nat.le_refl _) _ |>.setCell (p := ⟨w.heap.size + 1, 0, none⟩) (Nat.le_succ _) _).trans (hb.mono (by omega))
        simp [Leaves, settle, results, Tryz.results31, go_sem, d0, d1]
        exact ⟨by rw [stepsB, HP.out, HF.out]; rfl, hB⟩
      | some pr =>
        obtain ⟨o, r⟩ := pr
        have HF := Lib.hid hf
        clear hf
        go_enter_defers Tryz.func31, Tryz.ntmps31
        go_wp2_with (first
          | (go_at_call 53; go_must (refine (need_any _ _).mono ?_; intro e w' hpost; simp only [NeedPost] at hpost; obtain ⟨rfl, rfl⟩ := hpost))
          | (go_at_call 54; go_must (refine (Tryz.strings_Split s ⟨#[32]⟩ m _ (by omega) hm2 (by decide)).mono ?_; rintro e w1 ⟨rfl, hw1⟩; rw [countB_cut, HWS.out]; have hb1 : Below (W2 w).heap.size (W2 w) w1 := (by rw [hw1]; exact (Below.refl _ _).alloc (Nat.le_refl _) _); have HL1 : Lies w1 (W2 w).heap.size ws := (by refine ⟨(by rw [hw1]; simp), fun j x hx => ?_⟩; rw [hw1, new_cell, splitB_cut, HWS.out, List.getElem?_toArray, List.getElem?_map, hx]; rfl); have hs1 : w1.heap.size = (W2 w).heap.size + 1 := (by rw [hw1]; simp); have HB1 := Lib.hid hb1; have HLW := Lib.hid (show Lies w1 (w.heap.size + 1 + 1) ws from hW2s ▸ HL1); have HS1 := Lib.hid hs1; clear hb1 HL1 hs1 hw1))
          | (go_at_call 55; go_must (refine (until_any ws (w.heap.size + 1 + 1) ws.length w1.heap.size (by omega) ?_ (ws.length + 1) 0 false _ (by omega) (by omega) (Or.inr hpos) ?_ ?_).mono ?_; (focus (have := HS1.out; rw [hW2s] at this; omega)); (focus (exact HLW.out.below ((Below.refl _ w1).alloc (Nat.le_refl _) _) HLW.out.1)); (focus (exact heap_alloc_new _ _)); intro e w2 hpost; rw [List.drop_zero, HF.out] at hpost; obtain ⟨rfl, h3⟩ := hpost; have hb2 : Below (W2 w).heap.size (W2 w) w2 := HB1.out.trans ((((Below.refl _ w1).alloc (Nat.le_refl _) _).trans (h3.toBelow (Nat.le_refl _) (by rw [World.size_alloc]; omega))).mono (by have := HS1.out; omega)); rw [hW2s] at hb2; have cp := (hb2.cell (p := ⟨w.heap.size, 0, none⟩) (by show w.heap.size < _; omega)).trans hW2p; have cq := (hb2.cell (p := ⟨w.heap.size + 1, 0, none⟩) (by show w.heap.size + 1 < _; omega)).trans hW2q; have fp := (hb2.frozen (p := ⟨w.heap.size, 0, none⟩) (by show w.heap.size < _; omega)).trans hW2fp; have fq := (hb2.frozen (p := ⟨w.heap.size + 1, 0, none⟩) (by show w.heap.size + 1 < _; omega)).trans hW2fq; have HB2 := Lib.hid hb2; clear hb2 h3)))
        refine leaves_cons (f := 52) (args := #[.pointer (some ⟨w.heap.size, 0, none⟩), .pointer (some ⟨w.heap.size + 1, 0, none⟩)]) (by simp) (by simp [go_sem]) ?_
        refine (catch_idle w.heap.size (w.heap.size + 1) _).mono ?_
        rintro e u' w'' ⟨rfl, rfl, rfl⟩
        have hB : Below w.heap.size w ((w2.setCell ⟨w.heap.size, 0, none⟩ (.string ⟨o.flatten.toArray⟩)).setCell ⟨w.heap.size + 1, 0, none⟩ (.bool true)) := (((by repeat' (first | (with_reducible exact Below.refl _ _) | (with_reducible assumption) | (with_reducible refine Below.alloc ?_ ?_ _) | (with_reducible refine below_more ?_ ?_ _ _) | (with_reducible refine below_rd ?_ ?_ _ _) | (with_reducible refine Below.drew ?_) | (with_reducible refine Below.setCell ?_ ?_ _) | go_size) : Below w.heap.size w (W2 w)).trans (HB2.out.mono (by omega))).setCell (p := ⟨w.heap.size, 0, none⟩) (Nat.le_refl _) _ |>.setCell (p := ⟨w.heap.size + 1, 0, none⟩) (Nat.le_succ _) _)
        simp [Leaves, settle, results, Tryz.results31, go_sem, cp, cq]
        exact ⟨by rw [stepsB, HP.out, HF.out]; rfl, hB⟩
end Go.Proofs.YthojdoiffkdikaaGreatDoor
