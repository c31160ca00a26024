/- Designs read: the reference's DesignRead. -/
import Derived.Test.YthojdoiffkdikaaGreatDoorRdA
namespace Go.Proofs.YthojdoiffkdikaaGreatDoor
open Go.RowKit Go.PlotT

/-- What a reader leaves. -/
def RdPost (w : World) (r : Option (List W9)) (e : Ending) (w' : World) : Prop :=
  ∃ v, e = .returned (.tuple #[v, .bool r.isSome]) ∧ OwnsW w' w.heap.size v (r.getD []) ∧ Below w.heap.size w w'
theorem RdPost.no {w w' : World} {e : Ending} {r : Option (List W9)} {v : Value} (hr : r = none) (he : e = .returned (.tuple #[v, .bool false])) (hv : OwnsW w' w.heap.size v []) (hb : Below w.heap.size w w') : RdPost w r e w' := by
  subst hr; exact ⟨v, he, hv, hb⟩
theorem rowW_updK (a : W9) {j : Nat} (hj : j < 8) (v : Int) : (rowW a).setIfInBounds (1 + j) (.int .i64 v) = rowW ⟨a.s, a.r.upd j v⟩ := by
  obtain rfl | rfl | rfl | rfl | rfl | rfl | rfl | rfl : j = 0 ∨ j = 1 ∨ j = 2 ∨ j = 3 ∨ j = 4 ∨ j = 5 ∨ j = 6 ∨ j = 7 := by omega
  all_goals simp [rowW, C8.upd]
theorem rowW_radK (a : W9) {j : Nat} (hj : j < 8) : (rowW a)[1 + j]? = some (.int .i64 (a.r.g j)) := by rw [← Array.getElem?_toList]; exact rad_get a hj
theorem upd_g (c : C8) {j : Nat} (hj : j < 8) (v : Int) (m : Nat) (hm : m < 8) : (c.upd j v).g m = if m = j then v else c.g m := by
  obtain rfl | rfl | rfl | rfl | rfl | rfl | rfl | rfl : j = 0 ∨ j = 1 ∨ j = 2 ∨ j = 3 ∨ j = 4 ∨ j = 5 ∨ j = 6 ∨ j = 7 := by omega
  all_goals
    obtain rfl | rfl | rfl | rfl | rfl | rfl | rfl | rfl : m = 0 ∨ m = 1 ∨ m = 2 ∨ m = 3 ∨ m = 4 ∨ m = 5 ∨ m = 6 ∨ m = 7 := by omega
    all_goals rfl
/-- A radius whose first j numbers have been read. -/
def RadAt (f : Tx → Int) (ns : List Tx) (c : C8) (j : Nat) : Prop := ∀ m, m < j → c.g m = f (ns.getD m [])
theorem RadAt.step {f : Tx → Int} {ns : List Tx} {c : C8} {j : Nat} (h : RadAt f ns c j) (hj : j < 8) {v : Int} (hv : v = f (ns.getD j [])) : RadAt f ns (c.upd j v) (j + 1) := fun m hm => by
  rw [upd_g c hj v m (by omega)]
  split
  · next e => rw [hv, e]
  · exact h m (by omega)
theorem RadAt.done {f : Tx → Int} {ns : List Tx} {c : C8} (h : RadAt f ns c 8) : c = radOf f ns := by
  have e := C8.eta c
  rw [h 0 (by omega), h 1 (by omega), h 2 (by omega), h 3 (by omega), h 4 (by omega), h 5 (by omega), h 6 (by omega), h 7 (by omega)] at e
  exact e.symm
theorem l13Cut_32 (s : ByteArray) (hs : s.size ≤ 1048576) (w : World) : Calls Tryz.prog 33 #[.string s, .int .u8 32] w (CutPost w (cutC 32 s.data.toList)) := l13Cut_any s 32 hs w
theorem l13Cut_58 (s : ByteArray) (hs : s.size ≤ 1048576) (w : World) : Calls Tryz.prog 33 #[.string s, .int .u8 58] w (CutPost w (cutC 58 s.data.toList)) := l13Cut_any s 58 hs w
theorem l13Cut_44 (s : ByteArray) (hs : s.size ≤ 1048576) (w : World) : Calls Tryz.prog 33 #[.string s, .int .u8 44] w (CutPost w (cutC 44 s.data.toList)) := l13Cut_any s 44 hs w
theorem setCell_blk' {w : World} {g : Nat} {T : TypeId} {c : Array Value} (h : w.heap[g]? = some (.cells c T (0, 0))) (i : Nat) (v : Value) : (w.setCell ⟨g, i, none⟩ v).heap[g]? = some (.cells (c.setIfInBounds i v) T (0, 0)) := by
  have hg : g < w.heap.size := (Array.getElem?_eq_some_iff.1 h).1
  have e := blk_self h
  rw [e, blk_set i v hg]
  exact heap_blk_same (by exact hg)
theorem bstr_of (a : Wd) : ∃ S : ByteArray, bstr a = .string S ∧ S.data.toList = a := ⟨⟨a.toArray⟩, rfl, rfl⟩
theorem OwnsS.kept' {w w' : World} {B g gw n cap : Nat} {ws : List Wd} (h : OwnsS w B (.slice (some ⟨gw, 0, none⟩) n cap) ws) (hg : w.grownBy w' (some g)) (hne : gw ≠ g) : OwnsS w' B (.slice (some ⟨gw, 0, none⟩) n cap) ws :=
  h.kept hg (Or.inr fun e => hne (Option.some.inj e))
theorem CutPost.at {w w' : World} {ws : List Wd} {e : Ending} {n : Nat} (h : CutPost w ws e w') (hn : ws.length = n) :
    ∃ g cap : Nat, e = .returned (.slice (some ⟨g, 0, none⟩) n cap) ∧ (∀ i x, ws[i]? = some x → w'.cell? ⟨g, i, none⟩ = some (bstr x)) ∧ g < w'.heap.size ∧ Below w.heap.size w w' := by
  subst hn
  obtain ⟨g, cap, h1, h2, h3⟩ := h
  exact ⟨g, cap, h1, fun i x hx => h2.cell hx, h2.lt.2, h3⟩
set_option maxRecDepth 100000 in
set_option maxHeartbeats 8000000 in
theorem specDesignRead_any (s : ByteArray) (w : World) :
    Calls Tryz.prog 11 #[.string s] w (RdPost w (readS s.data.toList)) := by
  have hl : s.data.toList.length = s.size := by rw [← Lib.size_eq]
  by_cases hbig : 1500 < s.size
  · have HR := Lib.hid (show readS s.data.toList = none by rw [readS, if_pos (by omega)])
    have hbi : (1500 : Int) < (s.size : Int) := by omega
    clear hl hbig
    go_enter Tryz.func11, Tryz.ntmps11
    go_wp2_with fail
    go_returns
    exact RdPost.no HR.out rfl (OwnsW.empty _ (Nat.le_refl _)) (by repeat' (first | (with_reducible exact Below.refl _ _) | (with_reducible assumption) | (with_reducible refine Below.alloc ?_ ?_ _) | (with_reducible refine below_more ?_ ?_ _ _) | (with_reducible refine below_rd ?_ ?_ _ _) | (with_reducible refine Below.drew ?_) | (with_reducible refine Below.setCell ?_ ?_ _) | go_size))
  by_cases hdash : s.data.toList = [45]
  · have HR := Lib.hid (show readS s.data.toList = some [] by rw [readS, if_neg (by omega), if_pos hdash])
    have hbi : (s.size : Int) ≤ 1500 := by omega
    have hd : (s.toList == [45]) = true := by rw [Lib.toList_data, hdash]; rfl
    clear hl hbig hdash
    go_enter Tryz.func11, Tryz.ntmps11
    go_wp2_with fail
    go_returns
    exact ⟨_, by rw [HR.out]; rfl, by rw [HR.out]; exact OwnsW.empty _ (Nat.le_refl _), by repeat' (first | (with_reducible exact Below.refl _ _) | (with_reducible assumption) | (with_reducible refine Below.alloc ?_ ?_ _) | (with_reducible refine below_more ?_ ?_ _ _) | (with_reducible refine below_rd ?_ ?_ _ _) | (with_reducible refine Below.drew ?_) | (with_reducible refine Below.setCell ?_ ?_ _) | go_size)⟩
  have hbi : (s.size : Int) ≤ 1500 := by omega
  have hd : (s.toList == [45]) = false := by rw [Lib.toList_data, beq_eq_false_iff_ne]; exact hdash
  have HRS := Lib.hid (show readS s.data.toList = (parseS s.data.toList).bind fun out => if textR out = some s.data.toList then some out else none by rw [readS, if_neg (by omega), if_neg hdash])
  obtain ⟨l, hl0⟩ : ∃ l, s.data.toList = l := ⟨_, rfl⟩
  have HL0 := Lib.hid hl0
  rw [hl0] at hl HRS ⊢
  have hwn : (cutC 32 l).length ≤ 1501 := by have := cutC_length (c := 32) l; omega
  have HWM := Lib.hid (show ∀ a ∈ cutC 32 l, a.length ≤ 1500 from fun a ha => by have := cutC_mem (c := 32) l a ha; omega)
  have HPN := Lib.hid (show prs wordS (cutC 32 l) = none → readS l = none from fun h => by rw [HRS.out, parseS, h]; rfl)
  have HPS := Lib.hid (show ∀ out, prs wordS (cutC 32 l) = some out → readS l = if textR out = some l then some out else none from fun out h => by rw [HRS.out, parseS, h]; rfl)
  have hsz : s.size ≤ 1048576 := by omega
  clear hbig hdash hl hl0 HRS
  go_enter Tryz.func11, Tryz.ntmps11
  go_wp2_with (go_at_call 33; go_must (refine (l13Cut_32 s hsz _).mono ?_; rw [HL0.out]; rintro e w1 ⟨gw, capw, rfl, hws, hb1⟩; have HOS0 := Lib.hid hws; have HB1 := Lib.hid hb1; clear hws hb1))
  generalize hwsn : cutC 32 l = ws at hwn HWM HPN HPS HOS0
  have HOE := Lib.hid ((OwnsW.empty w (Nat.le_refl w.heap.size)).keep HB1.out)
  have HOS := Lib.hid (HOS0.out.mono (B' := w.heap.size + 1) (by rw [World.size_alloc]; omega))
  have HB := Lib.hid (((Below.refl w.heap.size w).alloc (Nat.le_refl _) _).trans (HB1.out.mono (by rw [World.size_alloc]; omega)))
  have hgw := HOS.out.lt
  have HC := Lib.hid HOS.out.cap
  clear hwsn HOS0 HB1
  go_loopw [4, 6] (fun s4 s6 wr => ∃ (k g c : Nat) (out : List W9), s4 = .slice (some ⟨g, 0, none⟩) k c ∧ s6 = .int .i64 k ∧ k ≤ ws.length ∧ out.length = k ∧ g ≠ gw ∧ Hid (prs wordS ws = (prs wordS (ws.drop k)).map (out ++ ·)) ∧ Hid (OwnsW wr w.heap.size (.slice (some ⟨g, 0, none⟩) k c) out) ∧ Hid (OwnsS wr (w.heap.size + 1) (.slice (some ⟨gw, 0, none⟩) ws.length capw) ws) ∧ Hid (Below w.heap.size w wr)) (fun _ s6 _ => ws.length - (intOf s6).toNat)
  case atStart => exact ⟨0, _, _, [], rfl, rfl, by omega, rfl, by omega, by rw [List.drop_zero]; show _ = _; cases prs wordS ws <;> rfl, HOE.out, HOS.out, HB.out⟩
  case round =>
    obtain ⟨k, g, c, out, rfl, rfl, hk, hol, hgg, hprs, hown, hws, hbel⟩ := hrel
    obtain ⟨wo, hwo⟩ : ∃ wo, wo = wr := ⟨_, rfl⟩
    subst hwo
    have hszo := hbel.out.size
    by_cases hlt : k < ws.length
    · have hki : (k : Int) < (ws.length : Int) := by omega
      obtain ⟨a, ha⟩ : ∃ a, ws[k]? = some a := ⟨_, List.getElem?_eq_getElem hlt⟩
      obtain ⟨S, hS, hSd⟩ := bstr_of a
      have hcS : wo.cell? ⟨gw, k, none⟩ = some (.string S) := by rw [← hS]; exact hws.out.cell ha
      have HSD := Lib.hid hSd
      have hSz : S.size ≤ 1048576 := by have := HWM.out a (List.mem_of_getElem? ha); rw [bsize, hSd]; omega
      have HST := Lib.hid (prs_step ha hprs.out)
      clear hS hSd ha
      by_cases h2 : (cutC 58 a).length = 2
      · obtain ⟨a0, ha0⟩ : ∃ x, (cutC 58 a)[0]? = some x := ⟨_, List.getElem?_eq_getElem (by omega)⟩
        obtain ⟨a1, ha1⟩ : ∃ x, (cutC 58 a)[1]? = some x := ⟨_, List.getElem?_eq_getElem (by omega)⟩
        have HW := Lib.hid (show wordS a = if (cutC 44 a1).length = 8 then some ⟨numS a0, radOf numS (cutC 44 a1)⟩ else none by
          rw [wordS, if_pos h2, List.getD_eq_getElem?_getD, List.getD_eq_getElem?_getD, ha0, ha1]; rfl)
        have hm0 := cutC_mem (c := 58) a a0 (List.mem_of_getElem? ha0)
        have hm1 := cutC_mem (c := 58) a a1 (List.mem_of_getElem? ha1)
        obtain ⟨S0, hS0, hSd0⟩ := bstr_of a0
        obtain ⟨S1, hS1, hSd1⟩ := bstr_of a1
        have hz : a.length = S.size := by rw [← HSD.out, ← bsize]
        have hSz0 : S0.size ≤ 1048576 := by rw [bsize, hSd0]; omega
        have hSz1 : S1.size ≤ 1048576 := by rw [bsize, hSd1]; omega
        have HA0 := Lib.hid ha0
        have HA1 := Lib.hid ha1
        have HS0 := Lib.hid hS0
        have HS1 := Lib.hid hS1
        have HSD0 := Lib.hid hSd0
        have HSD1 := Lib.hid hSd1
        have H2 := Lib.hid h2
        clear hS0 hS1 hSd0 hSd1 ha0 ha1 hm0 hm1 hz h2
        by_cases h8 : (cutC 44 a1).length = 8
        · have HX := Lib.hid (show wordS a = some ⟨numS a0, radOf numS (cutC 44 a1)⟩ by rw [HW.out, if_pos h8])
          have H8 := Lib.hid h8
          clear HW h8
          go_wp2_with fail
          refine (l13Cut_58 S hSz _).mono ?_
          rw [HSD.out]
          rintro e w2 hp2
          obtain ⟨g7, c7, rfl, ho7, hl7, hb7⟩ := hp2.at H2.out
          have hc1 : w2.cell? ⟨g7, 1, none⟩ = some (.string S1) := by rw [← HS1.out]; exact ho7 1 _ HA1.out
          have HC0 := Lib.hid (show w2.cell? ⟨g7, 0, none⟩ = some (.string S0) by rw [← HS0.out]; exact ho7 0 _ HA0.out)
          have HB7 := Lib.hid hb7
          clear ho7 hb7 hp2
          go_wp2_with fail
          refine (l13Cut_44 S1 hSz1 _).mono ?_
          rw [HSD1.out]
          rintro e w3 hp3
          obtain ⟨g8, c8, rfl, ho8, hl8, hb8⟩ := hp3.at H8.out
          have hc0 : w3.cell? ⟨g7, 0, none⟩ = some (.string S0) := (hb8.cell (p := ⟨g7, 0, none⟩) hl7).trans HC0.out
          have HB8 := Lib.hid (HB7.out.trans (hb8.mono HB7.out.size))
          have HO8 := Lib.hid ho8
          have HL8 := Lib.hid hl8
          clear ho8 hb8 hc1 HB7 hp3 hl7 hl8
          go_wp2_with fail
          refine (l13Number_any S0 hSz0 _).mono ?_
          rw [HSD0.out]
          rintro e w4 ⟨rfl, hb4⟩
          have HB4 := Lib.hid (HB8.out.trans (hb4.mono HB8.out.size))
          have HO4 := Lib.hid (show ∀ i x, (cutC 44 a1)[i]? = some x → w4.cell? ⟨g8, i, none⟩ = some (bstr x) from fun i x hx => (hb4.cell (p := ⟨g8, i, none⟩) HL8.out).trans (HO8.out i x hx))
          have HL4 := Lib.hid (show g8 < w4.heap.size from Nat.lt_of_lt_of_le HL8.out hb4.size)
          clear hb4 hc0 HB8 HO8
          generalize hsp : numS a0 = sp at HX
          go_wp2_with fail
          go_loopw [10] (fun s10 wq => ∃ (j : Nat) (c0 : C8), s10 = .int .i64 j ∧ j ≤ 8 ∧ Hid (RadAt numS (cutC 44 a1) c0 j) ∧ Hid (wq.heap[w4.heap.size]? = some (.cells (rowW ⟨sp, c0⟩) 61 (0, 0))) ∧ Hid (Below w4.heap.size w4 wq)) (fun s10 _ => 8 - (intOf s10).toNat)
          case atStart => exact ⟨0, C8.zero, rfl, by omega, fun m hm => by omega, heap_alloc_new _ _, (Below.refl _ w4).alloc (Nat.le_refl _) _⟩
          case round =>
            obtain ⟨j, c0, rfl, hj, hrad, hblk, hbq⟩ := hrel
            obtain ⟨wi, hwi⟩ : ∃ wi, wi = wr := ⟨_, rfl⟩
            subst hwi
            have hszi := hbq.out.size
            have hlB : w4.heap.size < wi.heap.size := (Array.getElem?_eq_some_iff.1 hblk.out).1
            by_cases hj8 : j < 8
            · have hji : (j : Int) < 8 := by omega
              obtain ⟨b, hb⟩ : ∃ b, (cutC 44 a1)[j]? = some b := ⟨_, List.getElem?_eq_getElem (by rw [H8.out]; exact hj8)⟩
              obtain ⟨S8, hS8, hSd8⟩ := bstr_of b
              have hc8 : wi.cell? ⟨g8, j, none⟩ = some (.string S8) := by rw [← hS8]; exact (hbq.out.cell (p := ⟨g8, j, none⟩) HL4.out).trans (HO4.out j b hb)
              have hm8 := cutC_mem (c := 44) a1 b (List.mem_of_getElem? hb)
              have hSz8 : S8.size ≤ 1048576 := by
                have h1 : a1.length = S1.size := by rw [← HSD1.out, ← bsize]
                rw [bsize, hSd8]; omega
              have HSD8 := Lib.hid hSd8
              have HRV := Lib.hid (show numS b = numS ((cutC 44 a1).getD j []) by rw [List.getD_eq_getElem?_getD, hb]; rfl)
              clear hS8 hSd8 hb hm8
              go_wp2_with fail
              refine (l13Number_any S8 hSz8 _).mono ?_
              rw [HSD8.out]
              rintro e w6 ⟨rfl, hb6⟩
              have hblk6 := (hb6.block _ hlB).trans hblk.out
              have hl6 : w4.heap.size < w6.heap.size := Nat.lt_of_lt_of_le hlB hb6.size
              have hcc : w6.cell? ⟨w4.heap.size, 1 + j, none⟩ = some (.int .i64 (c0.g j)) := (Lib.cell_of_heap hblk6 (1 + j)).trans (rowW_radK ⟨sp, c0⟩ hj8)
              have hfz : w6.frozen? ⟨w4.heap.size, 1 + j, none⟩ = false := Lib.frozen_of_heap hblk6 (1 + j)
              have HB6 := Lib.hid (hbq.out.trans (hb6.mono hszi))
              have HK6 := Lib.hid hblk6
              clear hb6 hblk6 hc8
              generalize numS b = vb at HRV
              go_wp2_with fail
              go_roundw
              case rel => exact ⟨j + 1, c0.upd j vb, by go_num, by omega, hrad.out.step hj8 HRV.out, by show _ = _; rw [← rowW_updK ⟨sp, c0⟩ hj8]; exact setCell_blk' HK6.out _ _, HB6.out.setCell (p := ⟨w4.heap.size, 1 + j, none⟩) (Nat.le_refl _) _⟩
              case measure => simp [intOf]; omega
            · obtain rfl : j = 8 := by omega
              subst hol
              have HXX := Lib.hid (show wordS a = some ⟨sp, c0⟩ by rw [HX.out, hrad.out.done])
              have HPR := Lib.hid (HST.out.1 _ HXX.out)
              obtain ⟨b0, b1, b2, b3, b4, b5, b6, b7, b8⟩ := box_cells hblk.out
              have HBI := Lib.hid (HB4.out.trans (hbq.out.mono HB4.out.size))
              have HOI := Lib.hid (hown.out.keep HBI.out)
              have HSI := Lib.hid (hws.out.below HBI.out)
              have HGW := Lib.hid (show gw < wi.heap.size from HSI.out.lt.2)
              have HSZ := Lib.hid (show w.heap.size ≤ wi.heap.size from Nat.le_trans hszo HBI.out.size)
              go_wp2_with (at_builtin; go_must (refine wpList_append_wh rfl _ _ rfl w.heap.size out [⟨sp, c0⟩] (.slice (some ⟨g, 0, none⟩) out.length c) rfl (HOI.out.alloc _) wi.heap.size 0 1 1 rfl rfl (Lie9.one (heap_alloc_new _ _)) (by omega) (by omega) (by rw [World.size_alloc]; have := HSZ.out; omega) ?_; intro g5 c5 w5 hown5 hgrow5 hat5 hb5; have HO5 := Lib.hid hown5; have HS5 := Lib.hid (OwnsS.kept' (HSI.out.alloc _) hgrow5 (fun e => hgg e.symm)); have HG5 := Lib.hid (show g5 ≠ gw from fun e => hat5.elim (fun h => hgg ((Option.some.inj h).trans e)) (fun h => by rw [World.size_alloc] at h; have := HGW.out; omega)); have HB5 := Lib.hid (((hbel.out.trans (HBI.out.mono hszo)).alloc HSZ.out _).trans hb5); clear hown5 hgrow5 hat5 hb5))
              go_roundw
              case rel => exact ⟨out.length + 1, g5, c5, out ++ [(⟨sp, c0⟩ : W9)], rfl, by go_num, by omega, by simp, HG5.out, HPR.out, HO5.out, HS5.out, HB5.out⟩
              case measure => simp [intOf]; omega
        · have HR := Lib.hid (HPN.out (HST.out.2 (by rw [HW.out, if_neg h8])))
          have h8n : (((cutC 44 a1).length : Int) == 8) = false := by rw [beq_eq_false_iff_ne]; omega
          clear HW h8
          go_wp2_with fail
          refine (l13Cut_58 S hSz _).mono ?_
          rw [HSD.out]
          rintro e w2 hp2
          obtain ⟨g7, c7, rfl, ho7, hl7, hb7⟩ := hp2.at H2.out
          have hc1 : w2.cell? ⟨g7, 1, none⟩ = some (.string S1) := by rw [← HS1.out]; exact ho7 1 _ HA1.out
          have HB7 := Lib.hid (hbel.out.trans (hb7.mono hszo))
          clear ho7 hb7 hl7 hp2
          go_wp2_with fail
          refine (l13Cut_44 S1 hSz1 _).mono ?_
          rw [HSD1.out]
          rintro e w3 ⟨g8, c8, rfl, ho8, hb8⟩
          have HB8 := Lib.hid (HB7.out.trans (hb8.mono HB7.out.size))
          clear ho8 hb8 hc1
          go_wp2_with fail
          go_returns
          exact RdPost.no HR.out rfl (OwnsW.empty _ (HB8.out.size)) (HB8.out.alloc HB8.out.size _)
      · have HR := Lib.hid (HPN.out (HST.out.2 (by rw [wordS, if_neg h2])))
        have h2n : (((cutC 58 a).length : Int) == 2) = false := by rw [beq_eq_false_iff_ne]; omega
        clear h2
        go_wp2_with (go_at_call 33; go_must (refine (l13Cut_58 S hSz _).mono ?_; rw [HSD.out]; rintro e w2 ⟨g7, c7, rfl, ho7, hb7⟩; have HB7 := Lib.hid (hbel.out.trans (hb7.mono hszo)); clear ho7 hb7))
        go_returns
        exact RdPost.no HR.out rfl (OwnsW.empty _ (HB7.out.size)) (HB7.out.alloc HB7.out.size _)
    · obtain rfl : k = ws.length := by omega
      have HOL := Lib.hid hol
      have HO := Lib.hid (show readS l = if textR out = some l then some out else none from HPS.out out (by rw [hprs.out, List.drop_length]; show some (out ++ []) = _; rw [List.append_nil]))
      have hown' := hown.out
      rw [← hol] at hown' ⊢
      have HWN := Lib.hid hown'
      have hn1 : out.length ≤ 1048576 := by omega
      clear hown' hol hprs
      cases hT : textR out with
      | none =>
        have HT := Lib.hid hT
        have HR := Lib.hid (show readS l = none by rw [HO.out, hT, if_neg (by simp)])
        clear hT
        go_wp2_with (go_at_call 18; go_must (refine (specDesignText_any _ _ out _ HWN.out.has hn1).mono ?_; rw [HT.out]; rintro e w5 ⟨rfl, hb5⟩; have HB5 := Lib.hid (hbel.out.trans (hb5.mono hszo)); clear hb5))
        go_returns
        exact RdPost.no HR.out rfl (OwnsW.empty _ (HB5.out.size)) (HB5.out.alloc HB5.out.size _)
      | some t =>
        have HT := Lib.hid hT
        obtain ⟨X, hX⟩ : ∃ X : ByteArray, (⟨t.toArray⟩ : ByteArray) = X := ⟨_, rfl⟩
        have hXd : X.data.toList = t := by rw [← hX]
        have HX := Lib.hid hX
        by_cases htl : t = l
        · have he : (X.toList == s.toList) = true := by rw [Lib.toList_data, Lib.toList_data, hXd, HL0.out, htl]; exact beq_self_eq_true _
          have HR := Lib.hid (show readS l = some out by rw [HO.out, hT, if_pos (by rw [htl])])
          clear hT hX hXd htl
          go_wp2_with (go_at_call 18; go_must (refine (specDesignText_any _ _ out _ HWN.out.has hn1).mono ?_; rw [HT.out]; rintro e w5 ⟨rfl, hb5⟩; dsimp only [Option.getD_some, Option.isSome_some]; rw [HX.out]; have HB5 := Lib.hid (hbel.out.trans (hb5.mono hszo)); have HK := Lib.hid (HWN.out.keep hb5); clear hb5))
          go_returns
          exact ⟨_, by rw [HR.out]; rfl, by rw [HR.out]; exact HK.out, HB5.out⟩
        · have he : (X.toList == s.toList) = false := by rw [Lib.toList_data, Lib.toList_data, hXd, HL0.out, beq_eq_false_iff_ne]; exact htl
          have HR := Lib.hid (show readS l = none by rw [HO.out, hT, if_neg (fun e => htl (Option.some.inj e))])
          clear hT hX hXd htl
          go_wp2_with (go_at_call 18; go_must (refine (specDesignText_any _ _ out _ HWN.out.has hn1).mono ?_; rw [HT.out]; rintro e w5 ⟨rfl, hb5⟩; dsimp only [Option.getD_some, Option.isSome_some]; rw [HX.out]; have HB5 := Lib.hid (hbel.out.trans (hb5.mono hszo)); clear hb5))
          go_returns
          exact RdPost.no HR.out rfl (OwnsW.empty _ (HB5.out.size)) (HB5.out.alloc HB5.out.size _)
end Go.Proofs.YthojdoiffkdikaaGreatDoor
