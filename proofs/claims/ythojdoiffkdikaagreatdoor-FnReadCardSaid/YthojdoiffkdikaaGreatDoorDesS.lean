/- Tidy designs: wheels sorted by their speeds (slices.SortFunc by its contract). -/
import Derived.Test.YthojdoiffkdikaaGreatDoorDesBB
namespace Go.Proofs.YthojdoiffkdikaaGreatDoor
open Go.RowKit

def cmpW (x y : W9) : Int := Lib.compareInt x.s y.s
theorem ltW (x y : W9) : ltOf cmpW x y = decide (x.s < y.s) := by
  unfold ltOf cmpW Lib.compareInt
  rw [Bool.eq_iff_iff]
  simp only [decide_eq_true_eq]
  by_cases h : x.s < y.s
  · rw [if_pos h]; omega
  · rw [if_neg h]
    split <;> omega
theorem swoW : Go.Sort.SWO (ltOf cmpW) where
  irrefl x := by rw [ltW]; simp
  trans x y z h1 h2 := by rw [ltW] at *; simp at *; omega
  ntrans x y z h1 h2 := by rw [ltW] at *; simp at *; omega
set_option maxHeartbeats 1000000 in
theorem tidied3_any (x y : W9) (W : World) :
    Calls Tryz.prog 111 #[wv x, wv y] W fun e w' => e = .returned (.int .i64 (cmpW x y)) ∧ ∃ q os', w' = Go.Sort.grow (W.drewN q) os' := by
  obtain ⟨r, hr⟩ : ∃ r, cmpW x y = r := ⟨_, rfl⟩
  rw [hr]
  have HC : Hid (∀ w' : World, Calls Tryz.prog 112 #[.int .i64 x.s, .int .i64 y.s] w' fun e w2 => e = .returned (.int .i64 r) ∧ w2 = w') := Lib.hid (fun w' => by rw [← hr]; exact Tryz.cmp_Compare_int x.s y.s w')
  clear hr
  go_enter Tryz.func111, Tryz.ntmps111
  go_wp2_with (go_at_call 112; go_must (refine (HC.out _).mono ?_; rintro e w' ⟨rfl, hw⟩; obtain rfl := hw))
  go_returns
  exact ⟨rfl, 0, _, by rw [Go.Sort.alloc_eq_grow, Go.Sort.alloc_eq_grow, Go.Sort.grow_grow]; rfl⟩
theorem flatKW (xs : List W9) : Go.Sort.flatK encW 9 xs.toArray = rowsW xs := by
  apply Array.ext_getElem?
  intro m
  unfold Go.Sort.flatK
  by_cases hm : m < 9 * xs.length
  · rw [rowsW_get xs m hm, Array.getElem?_map, Array.getElem?_range, if_pos (by simp; omega)]
    have e : (xs.toArray)[m / 9]! = xs.getD (m / 9) W9.zero := by
      rw [← getW]; simp
    simp only [Option.map_some]
    rw [e, List.getElem!_eq_getElem?_getD, show (encW (xs.getD (m / 9) W9.zero))[m % 9]? = some (.int .i64 ((xs.getD (m / 9) W9.zero).g (m % 9))) from rowWL_get _ _ (Nat.mod_lt _ (by decide))]
    rfl
  · rw [Array.getElem?_eq_none (by simp; omega), Array.getElem?_eq_none (by rw [rowsW_size]; omega)]
theorem OwnsW.holds {w : World} {B g n cap : Nat} {xs : List W9} (h : OwnsW w B (.slice (some ⟨g, 0, none⟩) n cap) xs) (hn : xs.length = n) : Go.Sort.HoldsK encW 9 w g 0 xs.toArray := by
  subst hn
  unfold Go.Sort.HoldsK Go.Sort.Holds
  rw [flatKW]
  intro j hj
  rw [rowsW_size] at hj
  refine ⟨?_, World.ownsRow.frozenAt h _⟩
  rw [Nat.zero_add, World.ownsRow.cellAt h j (by omega), Array.getElem?_toList, rowsW_get xs j hj, getElem!_def, rowsW_get xs j hj]; rfl
/-- A row sorted. -/
theorem OwnsW.sorted {w : World} {B g n cap : Nat} {xs : List W9} (h : OwnsW w B (.slice (some ⟨g, 0, none⟩) n cap) xs) (hn : xs.length = n) (d' : Array W9) (hs : d'.size = n) (m : Nat) (os : Array Obj) :
    OwnsW (Go.Proofs.sortWorldK encW 9 w g 0 m d' os) B (.slice (some ⟨g, 0, none⟩) n cap) d'.toList ∧ w.grownBy (Go.Proofs.sortWorldK encW 9 w g 0 m d' os) (some g) := by
  subst hn
  have hg0 : g < w.heap.size := (World.ownsRow.lt h g rfl).2
  obtain ⟨cur, hgc, hb, hc2, hcs⟩ : ∃ cur, w.heap[g]? = some (.cells cur 61 (0, 0)) ∧ B ≤ g ∧ cap ≤ maxLen ∧ cur.size = cap * 9 := by
    rcases h.2 with ⟨h0, -⟩ | ⟨g', cap', cur, hv, hb, hgc, hc1, hc2, hc3, hc4⟩
    · cases h0
    · cases hv; exact ⟨cur, hgc, hb, hc2, hc3⟩
  have hcap := h.capN
  have hd : Go.Sort.flatK encW 9 d' = rowsW d'.toList := by
    have := flatKW d'.toList
    simpa using this
  have hF : (Go.Sort.flatK encW 9 d').size = xs.length * 9 := by rw [Go.Sort.size_flatK, hs]
  have hnew : (Go.Proofs.sortWorldK encW 9 w g 0 m d' os).heap[g]? = some (.cells (Go.Sort.putCells id 0 (Go.Sort.flatK encW 9 d') cur) 61 (0, 0)) := by
    unfold Go.Proofs.sortWorldK Go.Sort.putRowK Go.Sort.putRow
    rw [Go.Sort.heap_grow_old _ _ (by unfold Go.Sort.mapBlock Go.Sort.ahead; simp; exact hg0)]
    unfold Go.Sort.mapBlock Go.Sort.ahead
    simp only [Array.getElem?_modify, if_pos, hgc, Option.map_some]
    rfl
  have hps : (Go.Sort.putCells id 0 (Go.Sort.flatK encW 9 d') cur).size = cur.size := by unfold Go.Sort.putCells; simp
  have hdl : d'.toList.length = xs.length := by simpa using hs
  refine ⟨?_, ?_⟩
  · unfold OwnsW
    rw [hdl]
    refine ⟨by rw [rowsWL_len, hdl]; omega, Or.inr ⟨g, cap, _, rfl, hb, hnew, hcap, hc2, by rw [hps, hcs], ?_⟩⟩
    apply List.ext_getElem?
    intro q
    by_cases hq : q < xs.length * 9
    · rw [List.getElem?_take_of_lt hq, Array.getElem?_toList, Array.getElem?_toList, ← hd]
      unfold Go.Sort.putCells
      have hqc : q < cur.size := by
        have := Nat.mul_le_mul_right 9 hcap
        omega
      rw [Array.getElem?_mapIdx, Array.getElem?_eq_getElem hqc, Option.map_some, if_pos ⟨Nat.zero_le _, by omega⟩, Nat.sub_zero, Array.getElem?_eq_getElem (by omega), getElem!_pos _ q (by omega)]
      rfl
    · rw [List.getElem?_eq_none (by rw [List.length_take]; omega), List.getElem?_eq_none (by rw [rowsWL_len, hdl]; omega)]
  · unfold Go.Proofs.sortWorldK Go.Sort.putRowK Go.Sort.putRow Go.Sort.mapBlock Go.Sort.ahead Go.Sort.grow
    refine ⟨rfl, rfl, rfl, by simp, fun k hk hne => ?_⟩
    have hkg : ¬ g = k := fun e => hne (by rw [e])
    simp only [Array.getElem?_append, Array.size_modify, Array.getElem?_modify]
    rw [if_pos hk, if_neg hkg]
theorem sortFunc_any (g cap B : Nat) (xs : List W9) (w : World) (h : OwnsW w B (.slice (some ⟨g, 0, none⟩) xs.length cap) xs) (hn : xs.length ≤ 1048576) :
    Calls Tryz.prog 110 #[.slice (some ⟨g, 0, none⟩) xs.length cap, .func (.func 111) #[] #[]] w fun e w' =>
      e = .returned (.tuple #[]) ∧ ∃ ys : List W9, ys.Perm xs ∧ ys.Pairwise (fun x y => ¬ y.s < x.s) ∧ OwnsW w' B (.slice (some ⟨g, 0, none⟩) xs.length cap) ys ∧ w.grownBy w' (some g) := by
  have hcmp : CmpLays Tryz.prog 111 #[] encW 9 cmpW g 0 xs.toArray.size w := fun m os dk _ x y => by
    rw [encW_v, encW_v]
    exact tidied3_any x y _
  have hcon := AnyQ.slices_SortFunc Tryz.sortW 9 Tryz.isAgg61 Tryz.sizeOf61 encW encW_len encW_one cmpW swoW 111 #[] g 0 cap xs.toArray w (enters_of Tryz.func111 (by kernel_rfl) rfl) hcmp (h.holds rfl) (World.ownsRow.lt h g rfl).2 (by simp; omega)
  simp only [List.size_toArray] at hcon
  refine Calls.mono hcon (fun e w' hp => ?_)
  obtain ⟨he, d', n, os, hp1, hp2, rfl⟩ := hp
  have hs : d'.size = xs.length := by have := hp1.1; simpa using this
  obtain ⟨h1, h2⟩ := h.sorted rfl d' hs n os
  refine ⟨he, d'.toList, ?_, ?_, h1, h2⟩
  · have := hp1.2.2
    have e1 : (d'.extract 0 xs.length).toList = d'.toList := by
      rw [← hs]; simp
    have e2 : (xs.toArray.extract 0 xs.length).toList = xs := by simp
    rw [e1, e2] at this
    exact this
  · rw [List.pairwise_iff_getElem]
    intro i j hi hj hij
    have hj2 : j < d'.size := by simpa using hj
    have := hp2 i j (Nat.zero_le _) hij (by omega)
    rw [ltW, getElem!_pos d' j hj2, getElem!_pos d' i (by omega)] at this
    simpa using this
end Go.Proofs.YthojdoiffkdikaaGreatDoor
