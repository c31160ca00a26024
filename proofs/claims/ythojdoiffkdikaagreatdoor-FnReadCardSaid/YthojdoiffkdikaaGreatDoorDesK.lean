/- Designs as texts: the program's way. Designs as texts: the program's textOf. -/
import Derived.Test.YthojdoiffkdikaaGreatDoorOpen
import Derived.Test.YthojdoiffkdikaaGreatDoorShelf
import Derived.BigQuiet
section -- a part
namespace Go.Proofs.YthojdoiffkdikaaGreatDoor
open Go.RowKit Go.PlotT

/-- The table of powers. -/
def Tab10 (w : World) : Prop := Lib.TabIs Tryz.prog w "internal/strconv.uint64pow10" .u64 Lib.pow10Tab
theorem tab_global : ∃ g, Tryz.prog.globalNamed "internal/strconv.uint64pow10" = some g := Option.isSome_iff_exists.1 (by kernel_rfl)
theorem Tab10.below {w w' : World} (h : Tab10 w) (hb : Below w.heap.size w w') : Tab10 w' := by
  obtain ⟨g, hg⟩ := tab_global
  unfold Tab10 Lib.TabIs World.var? at h ⊢
  rw [hg] at h ⊢
  simp only [Option.bind_some] at h ⊢
  have hlt : g < w.heap.size := by
    rcases Nat.lt_or_ge g w.heap.size with h' | h'
    · exact h'
    · rw [Array.getElem?_eq_none h'] at h; cases h
  rw [hb.block g hlt]
  exact h
theorem itoaI_any (n : Int) (h0 : -1000000000 ≤ n) (h1 : n ≤ 1000000000) (w : World) (ht : Tab10 w) :
    Calls Tryz.prog 60 #[.int .i64 n] w fun e w' => e = .returned (.string ⟨(Lib.itoa n).toArray⟩) ∧ Below w.heap.size w w' := by
  refine (Tryz.strconv_Itoa n (by omega) (by omega) w ht).mono ?_
  rintro e w' ⟨rfl, k, os, rfl⟩
  refine ⟨rfl, ⟨rfl, rfl, rfl, ?_, fun b hb => ?_⟩⟩
  · show w.heap.size ≤ (w.heap ++ os).size
    rw [Array.size_append]; omega
  · show (w.heap ++ os)[b]? = w.heap[b]?
    rw [Array.getElem?_append_left hb]
def strs (n : Nat) : Array Value := madeCells #[.string ByteArray.empty] n
theorem mkStr0 (n : Nat) (h : n ≤ 1048576) (w : World) : (Instr.makeSlice 47 (.int .i64 0) (.int .i64 (n : Int))).run Tryz.prog w = .ok (.slice (some ⟨w.heap.size, 0, none⟩) 0 n) (w.alloc (.cells (strs n) 9)) := by
  obtain ⟨i, hi, hz0, hz1, hz2⟩ := infoS
  have := run_make (P := Tryz.prog) w 47 9 i (.string ByteArray.empty) Tryz.underlying47 hi hz0 .i64 .i64 0 n (by omega) (by omega) (by rw [hz2]; omega) (by omega)
  rw [this, hz1]
  simp only [Int.toNat_natCast, Int.toNat_zero, Nat.mul_one]
  rfl
end Go.Proofs.YthojdoiffkdikaaGreatDoor
end
section -- a part
namespace Go.Proofs.YthojdoiffkdikaaGreatDoor
open Go.RowKit Go.PlotT

theorem OwnsS.made0 (w : World) (B n : Nat) (hB : B ≤ w.heap.size) (hn : n ≤ 1048576) : OwnsS (w.alloc (.cells (strs n) 9)) B (.slice (some ⟨w.heap.size, 0, none⟩) 0 n) [] :=
  ⟨by simp, Or.inr ⟨w.heap.size, n, _, rfl, hB, heap_alloc_new _ _, Nat.zero_le _, by unfold maxLen; omega, by rw [strs, size_madeCells]; omega, by simp⟩⟩
theorem row_get {c : C8} {k : Nat} (hk : k < 8) : (row c)[k]? = some (.int .i64 (c.g k)) := by
  obtain rfl | rfl | rfl | rfl | rfl | rfl | rfl | rfl : k = 0 ∨ k = 1 ∨ k = 2 ∨ k = 3 ∨ k = 4 ∨ k = 5 ∨ k = 6 ∨ k = 7 := by omega
  all_goals rfl
set_option maxRecDepth 100000 in
theorem run_idx8 (c : C8) {j : Nat} (hj : j < 8) (w : World) : (Instr.index 57 (.agg (row c)) (.int .i64 (j : Int))).run Tryz.prog w = .ok (.int .i64 (c.g j)) w := by
  obtain rfl | rfl | rfl | rfl | rfl | rfl | rfl | rfl : j = 0 ∨ j = 1 ∨ j = 2 ∨ j = 3 ∨ j = 4 ∨ j = 5 ∨ j = 6 ∨ j = 7 := by omega
  all_goals rfl
theorem joinI_any (ys : List Tx) (c : UInt8) (g n cap B : Nat) (w : World) (ho : OwnsS w B (.slice (some ⟨g, 0, none⟩) n cap) ys) (hn : ys.length = n) (hlen : (Lib.join ys [c]).length ≤ 4194304) (hN : n ≤ 4194304) :
    Calls Tryz.prog 61 #[.slice (some ⟨g, 0, none⟩) n cap, .string ⟨#[c]⟩] w fun e w' => e = .returned (.string ⟨(Lib.join ys [c]).toArray⟩) ∧ Below w.heap.size w w' := by
  subst hn
  have hm : (ys.map fun y => (⟨y.toArray⟩ : ByteArray)).map (·.data.toList) = ys := by rw [List.map_map]; exact List.map_id' _
  have h := Tryz.strings_Join g 0 cap (ys.map fun y => (⟨y.toArray⟩ : ByteArray)) ⟨#[c]⟩ w
    (by
      intro j x hx
      rw [List.getElem?_map] at hx
      cases hy : ys[j]? with
      | none => rw [hy] at hx; cases hx
      | some y =>
        rw [hy] at hx
        rw [← Option.some.inj hx, Nat.zero_add]
        exact ho.cell hy)
    ho.lt.2 (by rw [List.length_map]; omega) (by rw [List.length_map]; exact ho.cap) (by rw [hm]; show (Lib.join ys [c]).length ≤ _; omega)
  rw [hm, List.length_map] at h
  exact h
set_option maxRecDepth 100000 in
set_option maxHeartbeats 8000000 in
theorem textOf_any (a : Option Addr) (cap : Nat) (xs : List W9) (w : World) (h : HasW w a xs) (ht : Tab10 w) (hn : xs.length ≤ 12) (hok : ∀ x ∈ xs, (-1000 ≤ x.s ∧ x.s ≤ 1000) ∧ okC x.r = true) :
    Calls Tryz.prog 37 #[.slice a xs.length cap] w fun e w' => e = .returned (.string ⟨(dt xs).toArray⟩) ∧ Below w.heap.size w w' := by
  have H := Lib.hid h
  have HT := Lib.hid ht
  have HOK := Lib.hid hok
  clear h hok ht
  by_cases hne : xs = []
  · subst hne
    go_enter Tryz.func37, Tryz.ntmps37
    go_wp2_with fail
    go_returns
    exact ⟨rfl, Below.refl _ _⟩
  · have HDT := Lib.hid (show dt xs = Lib.join (xs.map wt) [32] by rw [dt, if_neg hne])
    have hpos : 0 < xs.length := List.length_pos_iff.2 hne
    have hn0 : decide ((xs.length : Int) = 0) = false := by rw [decide_eq_false_iff_not]; omega
    have hn1 : ((xs.length : Int) == 0) = false := by rw [beq_eq_false_iff_ne]; omega
    have hmk := mkStr0 xs.length (by omega)
    have hmk8 : ∀ w : World, (Instr.makeSlice 47 (.int .i64 0) (.int .i64 8)).run Tryz.prog w = .ok (.slice (some ⟨w.heap.size, 0, none⟩) 0 8) (w.alloc (.cells (strs 8) 9)) := fun w => mkStr0 8 (by omega) w
    clear hne
    go_enter Tryz.func37, Tryz.ntmps37
    go_wp2_with fail
    go_loopw [3, 17] (fun s3 s17 wr => ∃ (k g c : Nat), k ≤ xs.length ∧ s17 = .int .i64 k ∧ s3 = .slice (some ⟨g, 0, none⟩) k c ∧ Hid (OwnsS wr w.heap.size (.slice (some ⟨g, 0, none⟩) k c) ((xs.map wt).take k)) ∧ Hid (Below w.heap.size w wr)) (fun _ s17 _ => xs.length - (intOf s17).toNat)
    case atStart => exact ⟨0, _, _, by omega, rfl, rfl, OwnsS.made0 w _ _ (Nat.le_refl _) (by omega), (Below.refl _ w).alloc (Nat.le_refl _) _⟩
    case round =>
      obtain ⟨k, g, c, hk, rfl, rfl, hown, hbel⟩ := hrel
      obtain ⟨w1, hw1⟩ : ∃ w1, w1 = wr := ⟨_, rfl⟩
      subst hw1
      have hszw := hbel.out.size
      have hk0 : (0 : Int) ≤ (k : Int) := by omega
      have HLK := Lib.hid (show ((xs.map wt).take k).length = k by rw [List.length_take, List.length_map]; omega)
      by_cases hlt : k < xs.length
      · have hki : (k : Int) < (xs.length : Int) := by omega
        rcases H.out with rfl | ⟨b, rfl, hb, hp⟩
        · simp at hpos
        · have hwk := (hp k hlt).below hbel.out hb
          have hox := HOK.out _ (getD_memW hlt)
          have hxw : (xs.map wt)[k]? = some (wt (xs.getD k W9.zero)) := by rw [List.getElem?_map, List.getElem?_eq_getElem hlt, List.getD_eq_getElem?_getD, List.getElem?_eq_getElem hlt]; rfl
          have HJ := Lib.hid (show (xs.map wt).take (k + 1) = (xs.map wt).take k ++ [wt (xs.getD k W9.zero)] by rw [List.take_add_one, hxw]; rfl)
          generalize xs.getD k W9.zero = x at hwk hox HJ
          have HOX := Lib.hid hox
          obtain ⟨c0, a0, a1, a2, a3, a4, a5, a6, a7⟩ := hwk.cells
          clear hxw hwk hp hox
          go_wp2_with fail
          go_loopw [6, 25] (fun s6 s25 wq => ∃ (j g6 c6 : Nat), j ≤ 8 ∧ s25 = .int .i64 j ∧ s6 = .slice (some ⟨g6, 0, none⟩) j c6 ∧ Hid (OwnsS wq (w1.heap.size + 1) (.slice (some ⟨g6, 0, none⟩) j c6) ((numsT x.r).take j)) ∧ Hid (Below (w1.heap.size + 1) (w1.alloc (.cells (rowW x) 61)) wq)) (fun _ s25 _ => 8 - (intOf s25).toNat)
          case atStart => exact ⟨0, _, _, by omega, rfl, rfl, (by have h := OwnsS.made0 (w1.alloc (.cells (rowW x) 61)) (w1.heap.size + 1) 8 (by rw [World.size_alloc]; omega) (by omega); rw [World.size_alloc] at h; exact h), (Below.refl (w1.heap.size + 1) (w1.alloc (.cells (rowW x) 61))).alloc (by rw [World.size_alloc]; omega) _⟩
          case round =>
            obtain ⟨j, g6, c6, hj, rfl, rfl, hown6, hbel6⟩ := hrel
            have hsz6 := hbel6.out.size
            rw [World.size_alloc] at hsz6
            have hj0 : (0 : Int) ≤ (j : Int) := by omega
            have HLJ := Lib.hid (show ((numsT x.r).take j).length = j by rw [List.length_take, numsT_len]; omega)
            have HBW := Lib.hid (((Below.refl w.heap.size w1).alloc hszw (.cells (rowW x) 61)).trans (hbel6.out.mono (by omega)))
            have HTQ := Lib.hid ((HT.out.below hbel.out).below (((Below.refl w1.heap.size w1).alloc (Nat.le_refl _) (.cells (rowW x) 61)).trans (hbel6.out.mono (by omega))))
            by_cases hj8 : j < 8
            · have hji : (j : Int) < 8 := by omega
              have hidx := run_idx8 x.r hj8
              have hbn := okC_g HOX.out.2 hj8
              have HJ6 := Lib.hid (show (numsT x.r).take (j + 1) = (numsT x.r).take j ++ [Lib.itoa (x.r.g j)] by rw [List.take_add_one, numsT_get x.r hj8]; rfl)
              generalize x.r.g j = n at hidx hbn HJ6
              have HDN := Lib.hid (fun W hW => itoaI_any n (by omega) (by omega) W hW)
              obtain ⟨X, hX⟩ : ∃ X : ByteArray, (⟨(Lib.itoa n).toArray⟩ : ByteArray) = X := ⟨_, rfl⟩
              have HX := Lib.hid hX
              have HXD := Lib.hid (show X.data.toList = Lib.itoa n by rw [← hX])
              clear hX hbn
              go_wp2_with (first
                | (go_at_call 60; go_must (refine (HDN.out _ HTQ.out).mono ?_; rw [HX.out]; rintro e w' ⟨rfl, hb⟩; obtain ⟨os, d, rfl⟩ := more_of_below hb; clear hb))
                | (at_builtin; go_must (refine wpList_append_words rfl _ _ rfl (w1.heap.size + 1) ((numsT x.r).take j) [X.data.toList] (.slice (some ⟨g6, 0, none⟩) j c6) rfl (OwnsS.alloc (OwnsS.more hown6.out _ _) _) _ 1 1 rfl rfl ?_ (by omega) (by rw [HLJ.out]; omega) (by rw [World.size_alloc, size_more]; omega) ?_; (focus (have h := one_cell (Go.Proofs.YthojdoiffkdikaaGreatDoor.more wr os d) X; rw [size_more] at h; exact h)); intro g7 c7 w7 hown7 hgrow hat hb7; have HO7 := Lib.hid hown7; have HB7 := Lib.hid (((below_more hbel6.out (by omega) os d).alloc (by rw [size_more]; omega) _).trans hb7); clear hown7 hgrow hat hb7)))
              go_roundw
              case rel =>
                refine ⟨j + 1, g7, c7, by omega, by go_num, ?_, ?_, HB7.out⟩
                · rw [show min j (numsT x.r).length = j by rw [numsT_len]; omega]
                · rw [HJ6.out, ← HXD.out]
                  have h := HO7.out
                  exact (by rw [HLJ.out] at h; exact h)
              case measure => simp [intOf]; omega
            · obtain rfl : j = 8 := by omega
              have ho6 := hown6.out
              rw [show (numsT x.r).take 8 = numsT x.r from List.take_of_length_le (by rw [numsT_len]; omega)] at ho6
              have HO6 := Lib.hid ho6
              have hbx : wr.heap[w1.heap.size]? = some (.cells (rowW x) 61 (0, 0)) := (hbel6.out.block _ (by omega)).trans (heap_alloc_new _ _)
              have hc0 : wr.cell? ⟨w1.heap.size, 0, none⟩ = some (.int .i64 x.s) := (Lib.cell_of_heap hbx 0).trans rfl
              have HDS := Lib.hid (fun W hW => itoaI_any x.s (by have := HOX.out.1; omega) (by have := HOX.out.1; omega) W hW)
              have hl0 := itoa_len x.s (by have := HOX.out.1; omega) (by have := HOX.out.1; omega)
              have hl1 := join_le 44 11 (numsT x.r) (numsT_le HOX.out.2)
              rw [numsT_len] at hl1
              have HL1 := Lib.hid (show (Lib.join (numsT x.r) [44]).length ≤ 4194304 by omega)
              obtain ⟨S0, hS0⟩ : ∃ S : ByteArray, (⟨(Lib.itoa x.s).toArray⟩ : ByteArray) = S := ⟨_, rfl⟩
              obtain ⟨J, hJ⟩ : ∃ S : ByteArray, (⟨(Lib.join (numsT x.r) [44]).toArray⟩ : ByteArray) = S := ⟨_, rfl⟩
              have HS0 := Lib.hid hS0
              have HJN := Lib.hid hJ
              have hsz0 : S0.size ≤ 11 := by rw [← hS0, bsize]; exact hl0
              have hsz1 : J.size ≤ 96 := by rw [← hJ, bsize]; exact hl1
              have HWT := Lib.hid (show (S0 ++ (⟨#[58]⟩ : ByteArray) ++ J).data.toList = wt x by rw [bapp, bapp, ← hS0, ← hJ, wt]; simp)
              have HB1 := Lib.hid (((Below.refl w1.heap.size w1).alloc (Nat.le_refl _) (.cells (rowW x) 61)).trans (hbel6.out.mono (by omega)))
              clear hbx ho6 hS0 hJ hl0 hl1
              go_wp2_with (first
                | (go_at_call 60; go_must (refine (HDS.out _ HTQ.out).mono ?_; rw [HS0.out]; rintro e w' ⟨rfl, hb⟩; obtain ⟨os, d, rfl⟩ := more_of_below hb; clear hb))
                | (go_at_call 61; go_must (refine (joinI_any (numsT x.r) 44 g6 8 c6 _ _ (OwnsS.more HO6.out os d) rfl HL1.out (by omega)).mono ?_; rw [HJN.out]; rintro e w5 ⟨rfl, hb5⟩; have HB5 := Lib.hid ((below_more HB1.out (by omega) os d).trans (hb5.mono (by rw [size_more]; omega))); clear hb5))
                | (at_builtin; go_must (refine wpList_append_words rfl _ _ rfl w.heap.size ((xs.map wt).take k) [(S0 ++ (⟨#[58]⟩ : ByteArray) ++ J).data.toList] (.slice (some ⟨g, 0, none⟩) k c) rfl ((hown.out.below HB5.out).alloc _) w5.heap.size 1 1 rfl rfl (one_cell _ _) (by omega) (by rw [HLK.out]; omega) (by rw [World.size_alloc]; have := HB5.out.size; omega) ?_; intro g7 c7 w7 hown7 hgrow hat hb7; have HO7 := Lib.hid hown7; have HB7 := Lib.hid (((hbel.out.trans (HB5.out.mono hszw)).alloc (by have := HB5.out.size; omega) _).trans hb7); clear hown7 hgrow hat hb7)))
              go_roundw
              case rel =>
                refine ⟨k + 1, g7, c7, by omega, by go_num, ?_, ?_, HB7.out⟩
                · congr 1
                · rw [HJ.out, ← HWT.out]
                  exact (by have h := HO7.out; rw [HLK.out] at h; exact h)
              case measure => simp [intOf]; omega
      · obtain rfl : k = xs.length := by omega
        have ho := hown.out
        rw [show (xs.map wt).take xs.length = xs.map wt from List.take_of_length_le (by rw [List.length_map]; exact Nat.le_refl _)] at ho
        have HO := Lib.hid ho
        have hl1 := join_le 32 108 (xs.map wt) (fun y hy => by
          obtain ⟨x, hx, rfl⟩ := List.mem_map.1 hy
          exact wt_len (HOK.out x hx).1 (HOK.out x hx).2)
        rw [List.length_map] at hl1
        have HL1 := Lib.hid (show (Lib.join (xs.map wt) [32]).length ≤ 4194304 by omega)
        clear ho hl1
        go_wp2_with (go_at_call 61; go_must (refine (joinI_any (xs.map wt) 32 g xs.length c _ _ HO.out (List.length_map _) HL1.out (by omega)).mono ?_; rw [← HDT.out]; rintro e w5 ⟨rfl, hb5⟩; have HB5 := Lib.hid (hbel.out.trans (hb5.mono hszw)); clear hb5))
        go_returns
        exact ⟨rfl, HB5.out⟩
end Go.Proofs.YthojdoiffkdikaaGreatDoor
end
