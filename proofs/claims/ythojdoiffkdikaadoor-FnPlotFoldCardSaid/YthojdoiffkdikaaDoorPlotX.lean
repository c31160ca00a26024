/- Draws of plotter programs: programs; the law of folding, up to its frame. -/
import Derived.Test.YthojdoiffkdikaaDoorPlotY
import Derived.Test.YthojdoiffkdikaaDoorPlotP
namespace Go.Proofs.YthojdoiffkdikaaDoor
open Go.RowKit Go.PlotT

def eight : List Wd := [[], [120], [114, 50, 32, 93], [114, 48, 32, 101, 32, 93], [101, 32, 32, 101], [114, 50, 32, 101], [101, 32, 93], [114, 57, 32, 114, 57, 32, 114, 57, 32, 101, 32, 93, 32, 93, 32, 93]]
def four : List Wd := [[100, 32, 114, 52, 32, 101, 32, 116, 32, 93], [100, 32, 101, 32, 110, 32, 119, 32, 115], [101, 32, 101, 32, 101, 32, 101, 32, 101, 32, 101, 32, 101, 32, 101, 32, 101, 32, 101, 32, 101, 32, 101], [100, 32, 114, 57, 32, 114, 57, 32, 101, 32, 93, 32, 116, 32, 93]]
set_option maxRecDepth 100000 in
set_option maxHeartbeats 2000000 in
theorem prog6 {w0 W : World} {B g : Nat} {a : Option Addr} {len cap : Nat} {p : Int} (h : Drw w0 W B g a len cap p) (hp : p ≤ 9000) :
    Calls Tryd.prog 33 #[.pointer (some ⟨g, 0, none⟩)] W (Words6 W g (.slice a len cap) p 490 300) := by
  have HD := Lib.hid h
  have hp0 := h.hp
  clear h
  go_enter Tryd.func33, Tryd.ntmps33
  go_wp2_with (first
    | (go_at_call 34; go_must (refine (pick6 HD.out 14 (by omega) (by omega) (by omega)).mono ?_; rintro e w1 ⟨k, rfl, hk0, hk1, hr⟩; have HR1 := Lib.hid hr; have HD1 := Lib.hid (HD.out.next hr (by omega)); clear hr))
    | (go_at_call 57; go_must (refine (words6_2 HD1.out (by omega)).mono ?_; rintro e w4 ⟨X, p4, rfl, hX, hp4, hp5, hr⟩; have HR3 := Lib.hid (HR1.out.trans hr); clear hr)))
  · go_wp2_with (go_at_call 56; go_must (refine (of6 (HD1.out.grow ((Below.refl _ _).alloc (Nat.le_refl _) _)) _ 30 eight (lies_lit _ _ eight rfl) (Nat.ne_of_gt HD1.out.lt) (by decide) (by decide) (by omega) (by decide)).mono ?_; rintro e w3 ⟨X, rfl, hX, hr⟩; have HR3 := Lib.hid (HR1.out.trans (((Rd6.refl HD1.out.rd).grow ((Below.refl _ _).alloc (Nat.le_refl _) _)).trans hr)); clear hr))
    go_returns
    exact ⟨X, _, rfl, by omega, by omega, by omega, HR3.out⟩
  · go_wp2_with (go_at_call 56; go_must (refine (of6 (HD1.out.grow ((Below.refl _ _).alloc (Nat.le_refl _) _)) _ 30 four (lies_lit _ _ four rfl) (Nat.ne_of_gt HD1.out.lt) (by decide) (by decide) (by omega) (by decide)).mono ?_; rintro e w3 ⟨X, rfl, hX, hr⟩; have HR3 := Lib.hid (HR1.out.trans (((Rd6.refl HD1.out.rd).grow ((Below.refl _ _).alloc (Nat.le_refl _) _)).trans hr)); clear hr))
    go_returns
    exact ⟨X, _, rfl, by omega, by omega, by omega, HR3.out⟩
  · go_returns
    exact ⟨X, p4, rfl, by omega, by omega, by omega, HR3.out⟩
theorem jn_steps {o : List Wd} (h : ∀ x ∈ o, isSt x = true) : (jn o).length ≤ 2 * o.length := by
  obtain ⟨h1, h2⟩ := steps_bytes h
  have := jn_one_length o.flatten
  rw [h1, h2] at this
  exact this
set_option maxRecDepth 100000 in
set_option maxHeartbeats 1000000 in
theorem specPlotFlat_some (s : ByteArray) (hs : s.size ≤ 1048576) (w : World) :
    Calls Tryd.prog 32 #[.string s] w fun e w' => ∃ (X : ByteArray) (b : Bool), e = .returned (.tuple #[.string X, .bool b]) ∧ X.size ≤ 400 ∧ Below w.heap.size w w' := by
  rcases Bool.eq_false_or_eq_true (prog s.data.toList).isSome with hb | hb
  · have HB := Lib.hid hb
    clear hb
    go_enter Tryd.func32, Tryd.ntmps32
    go_wp2_with (first
      | (go_at_call 42; go_must (refine (l12Program_any s hs _).mono ?_; intro e w1 hpost; obtain ⟨g, c, o, rfl, hl, hst, hol, hbl⟩ := hpost; rw [HB.out]; have HL := Lib.hid hl; have hjl := jn_steps hst; have HJ := Lib.hid hjl; have HBL := Lib.hid hbl; clear hl hst hbl hjl))
      | (go_at_call 22; go_must (refine (l12Join_any o g c (by omega) _ HL.out (by have := HJ.out; omega)).mono ?_; rintro e w2 ⟨rfl, hw⟩; obtain rfl := hw.symm; generalize (⟨(jn o).toArray⟩ : ByteArray) = J)))
    all_goals go_returns
    · exact ⟨_, _, rfl, by show 0 ≤ _; omega, HBL.out⟩
    · exact ⟨J, _, rfl, by omega, HBL.out⟩
  · have HB := Lib.hid hb
    clear hb
    go_enter Tryd.func32, Tryd.ntmps32
    go_wp2_with (first
      | (go_at_call 42; go_must (refine (l12Program_any s hs _).mono ?_; intro e w1 hpost; obtain ⟨g, c, o, rfl, hl, hst, hol, hbl⟩ := hpost; rw [HB.out]; have HL := Lib.hid hl; have hjl := jn_steps hst; have HJ := Lib.hid hjl; have HBL := Lib.hid hbl; clear hl hst hbl hjl))
      | (go_at_call 22; go_must (refine (l12Join_any o g c (by omega) _ HL.out (by have := HJ.out; omega)).mono ?_; rintro e w2 ⟨rfl, hw⟩; obtain rfl := hw.symm; generalize (⟨(jn o).toArray⟩ : ByteArray) = J)))
    go_returns
    exact ⟨⟨#[]⟩, _, rfl, by show 0 ≤ _; omega, HBL.out⟩
set_option maxRecDepth 100000 in
set_option maxHeartbeats 1000000 in
theorem drawPlotFold_some (a : Option Addr) (len cap : Nat) (w : World) (hl : len ≤ 1048576) (hc : len ≤ cap) (hv : HasB w w.heap.size a len) :
    Calls Tryd.prog 11 #[.slice a len cap] w fun e w' => ∃ X : ByteArray, e = .returned (.string X) ∧ X.size ≤ 1000 ∧ Below w.heap.size w w' := by
  have HV := Lib.hid hv
  clear hv
  go_enter Tryd.func11, Tryd.ntmps11
  go_wp2_with (go_at_call 31; go_must (refine (open_any _ _ _ _ hl hc).mono ?_; rintro e w1 ⟨len', hl1, hl2, rfl, hw⟩; have hb1 : Below w.heap.size w w1 := (by rw [hw]; exact (Below.refl _ _).alloc (Nat.le_refl _) _); have hd : Drw w w1 w.heap.size w.heap.size a len' cap 0 := ⟨(by rw [hw]; exact heap_alloc_new _ _), HV.out.less hl1, hb1, Nat.le_refl _, hl2, Int.le_refl _⟩; have HD := Lib.hid hd; have HB1 := Lib.hid hb1; clear hd hb1 hw))
  go_wp2_with (first
    | (go_at_call 33; go_must (refine (prog6 HD.out (by omega)).mono ?_; rintro e w2 ⟨X, p2, rfl, hX, hp1, hp2, hr⟩; have HB1 := Lib.hid (HB1.out.trans (hr.toBelow (Nat.le_refl _) HD.out.lt)); have HD := Lib.hid (HD.out.next hr hp1); clear hr))
    | (go_at_call 32; go_must (refine (specPlotFlat_some X (by omega) _).mono ?_; rintro e w3 ⟨S, b, rfl, hS, hb⟩; have HB1 := Lib.hid (HB1.out.trans (hb.mono HB1.out.size)); have HD := Lib.hid (HD.out.grow hb); clear hb; cases b))
    | (go_at_call 34; go_must (refine (pick6 HD.out 5 (by omega) (by omega) (by omega)).mono ?_; rintro e w4 ⟨k, rfl, hk0, hk1, hr⟩; have HB1 := Lib.hid (HB1.out.trans (hr.toBelow (Nat.le_refl _) HD.out.lt)); have HD := Lib.hid (HD.out.next hr (by omega)); clear hr)))
  all_goals go_returns
  all_goals first | exact ⟨S, rfl, by omega, HB1.out⟩ | exact ⟨X, rfl, by omega, HB1.out⟩
/-- What the law needs of a text. -/
theorem foldFacts (s : ByteArray) : Nonempty ((foldOk s.data.toList = false ∧ (⟨(foldR s.data.toList).toArray⟩ : ByteArray) = ⟨#[]⟩) ∨
    (foldOk s.data.toList = true ∧ ∃ O : ByteArray, (⟨(foldR s.data.toList).toArray⟩ : ByteArray) = O ∧ O.size ≤ s.size ∧ ∃ (J : ByteArray) (b : Bool),
      (⟨(flatR (prog s.data.toList)).1.toArray⟩ : ByteArray) = J ∧ (flatR (prog s.data.toList)).2 = b ∧ (⟨(flatR (prog O.data.toList)).1.toArray⟩ : ByteArray) = J ∧ (flatR (prog O.data.toList)).2 = b)) := by
  rcases Bool.eq_false_or_eq_true (foldOk s.data.toList) with h | h
  · have h2 := h
    rw [foldOk_r] at h2
    simp only [Bool.and_eq_true, Bool.not_eq_true', decide_eq_false_iff_not] at h2
    obtain ⟨h3, hr⟩ := h2
    obtain ⟨o, hp⟩ := Option.isSome_iff_exists.1 h3
    obtain ⟨h4, h5⟩ := fold_flat hp hr
    have e : foldR s.data.toList = foldW (cutW s.data.toList) := by rw [foldR, if_pos h]
    refine ⟨Or.inr ⟨h, _, rfl, ?_, _, _, rfl, rfl, ?_, ?_⟩⟩
    · rw [Lib.size_eq, Lib.size_eq]
      show (foldR s.data.toList).length ≤ _
      rw [e]; exact h4
    · show (⟨(flatR (prog (foldR s.data.toList))).1.toArray⟩ : ByteArray) = _
      rw [e, h5, hp]
    · show (flatR (prog (foldR s.data.toList))).2 = _
      rw [e, h5, hp]
  · exact ⟨Or.inl ⟨h, by rw [foldR, if_neg (by rw [h]; decide)]⟩⟩
set_option maxRecDepth 100000 in
set_option maxHeartbeats 2000000 in
theorem plotFold_walk (a : Option Addr) (len cap : Nat) (m : Int) (w : World) (hv : HasB w w.heap.size a len) (hc : len ≤ cap) (hm : w.cell? ⟨0, 0, none⟩ = some (.int .i64 m)) :
    Calls Tryd.prog 5 #[.slice a len cap] w fun e w' => e = .returned (.bool true) ∧ Below w.heap.size w w' := by
  by_cases hl : len ≤ 1048576
  · have hlt := block_lt_of_cell hm
    have HM := Lib.hid hm
    have HV := Lib.hid hv
    clear hm hv
    go_enter Tryd.func5, Tryd.ntmps5
    go_wp2_with (go_at_call 11; go_must (refine (drawPlotFold_some a len cap _ hl hc HV.out).mono ?_; rintro e w1 ⟨s, rfl, hs, hb⟩; have HM := Lib.hid ((hb.cell (p := ⟨0, 0, none⟩) hlt).trans HM.out); have HB := Lib.hid hb; clear hb; obtain ⟨K⟩ := foldFacts s; rcases K with ⟨hk, hO⟩ | ⟨hk, O, hO, hle, J, b, hJ1, hb1, hJ2, hb2⟩))
    · have HK := Lib.hid hk
      have HO := Lib.hid hO
      clear hk hO
      go_wp2_with (first
        | (go_at_call 8; go_must (refine (plotFold_any s m _ HM.out).mono ?_; intro e w2 hpost; obtain ⟨rfl, hb⟩ := (show _ ∧ _ from hpost); rw [HK.out, HO.out]; have HM := Lib.hid ((hb.cell (p := ⟨0, 0, none⟩) (block_lt_of_cell HM.out)).trans HM.out); have HB := Lib.hid (HB.out.trans (hb.mono HB.out.size)); clear hb hpost))
        | (go_at_call 7; go_must (refine (specPlotFold_any s (by omega) _).mono ?_; intro e w2 hpost; obtain ⟨rfl, hb⟩ := (show _ ∧ _ from hpost); rw [HK.out, HO.out]; have HM := Lib.hid ((hb.cell (p := ⟨0, 0, none⟩) (block_lt_of_cell HM.out)).trans HM.out); have HB := Lib.hid (HB.out.trans (hb.mono HB.out.size)); clear hb hpost)))
      go_returns
      exact ⟨rfl, HB.out⟩
    · have HK := Lib.hid hk
      have HO := Lib.hid hO
      have HJ1 := Lib.hid hJ1
      have HJ2 := Lib.hid hJ2
      have Hb1 := Lib.hid hb1
      have Hb2 := Lib.hid hb2
      have hlei : (O.size : Int) ≤ (s.size : Int) := by omega
      clear hk hO hJ1 hJ2 hb1 hb2
      go_wp2_with (first
        | (go_at_call 8; go_must (refine (plotFold_any s m _ HM.out).mono ?_; intro e w2 hpost; obtain ⟨rfl, hb⟩ := (show _ ∧ _ from hpost); rw [HK.out, HO.out]; have HM := Lib.hid ((hb.cell (p := ⟨0, 0, none⟩) (block_lt_of_cell HM.out)).trans HM.out); have HB := Lib.hid (HB.out.trans (hb.mono HB.out.size)); clear hb hpost))
        | (go_at_call 7; go_must (refine (specPlotFold_any s (by omega) _).mono ?_; intro e w2 hpost; obtain ⟨rfl, hb⟩ := (show _ ∧ _ from hpost); rw [HK.out, HO.out]; have HM := Lib.hid ((hb.cell (p := ⟨0, 0, none⟩) (block_lt_of_cell HM.out)).trans HM.out); have HB := Lib.hid (HB.out.trans (hb.mono HB.out.size)); clear hb hpost))
        | (go_at_call 12; go_must (refine (plotFlat_any _ m _ HM.out).mono ?_; intro e w2 hpost; obtain ⟨rfl, hb⟩ := (show _ ∧ _ from hpost); (first | rw [HJ2.out, Hb2.out] | rw [HJ1.out, Hb1.out]); have HM := Lib.hid ((hb.cell (p := ⟨0, 0, none⟩) (block_lt_of_cell HM.out)).trans HM.out); have HB := Lib.hid (HB.out.trans (hb.mono HB.out.size)); clear hb hpost)))
      go_returns
      exact ⟨rfl, HB.out⟩
  · have hl2 : 1048576 < (len : Int) := by omega
    clear hm hv
    go_enter Tryd.func5, Tryd.ntmps5
    go_wp2_with fail
    go_returns
    exact ⟨rfl, Below.refl _ _⟩
end Go.Proofs.YthojdoiffkdikaaDoor
