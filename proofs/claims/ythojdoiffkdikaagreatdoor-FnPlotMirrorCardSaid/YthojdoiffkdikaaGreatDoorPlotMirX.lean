/- The law of mirrored programs: the draw, the walk. -/
import Derived.Test.YthojdoiffkdikaaGreatDoorPlotMir
import Derived.Test.YthojdoiffkdikaaGreatDoorPlotX
import Derived.Test.YthojdoiffkdikaaGreatDoorPlotEndB
namespace Go.Proofs.YthojdoiffkdikaaGreatDoor
open Go.RowKit Go.PlotT

set_option maxRecDepth 100000 in
set_option maxHeartbeats 1000000 in
theorem drawPlotMirror_some (a : Option Addr) (len cap : Nat) (w : World) (hl : len ≤ 1048576) (hc : len ≤ cap) (hv : HasB w w.heap.size a len) :
    Calls Tryz.prog 7 #[.slice a len cap] w fun e w' => ∃ X : ByteArray, e = .returned (.string X) ∧ X.size ≤ 1000 ∧ Below w.heap.size w w' := by
  have HV := Lib.hid hv
  clear hv
  go_enter Tryz.func7, Tryz.ntmps7
  go_wp2_with (go_at_call 23; go_must (refine (open_any _ _ _ _ hl hc).mono ?_; rintro e w1 ⟨len', hl1, hl2, rfl, hw⟩; have hb1 : Below w.heap.size w w1 := (by rw [hw]; exact (Below.refl _ _).alloc (Nat.le_refl _) _); have hd : Drw w w1 w.heap.size w.heap.size a len' cap 0 := ⟨(by rw [hw]; exact heap_alloc_new _ _), HV.out.less hl1, hb1, Nat.le_refl _, hl2, Int.le_refl _⟩; have HD := Lib.hid hd; have HB1 := Lib.hid hb1; clear hd hb1 hw))
  go_wp2_with (go_at_call 22; go_must (refine (prog6 HD.out (by omega)).mono ?_; rintro e w2 ⟨X, p2, rfl, hX, hp1, hp2, hr⟩; have HB1 := Lib.hid (HB1.out.trans (hr.toBelow (Nat.le_refl _) HD.out.lt)); clear hr))
  go_returns
  exact ⟨X, rfl, by omega, HB1.out⟩
/-- What the law needs of a text. -/
theorem mirFacts (s : ByteArray) : Nonempty ((mirOk s.data.toList = false ∧ (⟨(mirR s.data.toList).toArray⟩ : ByteArray) = ⟨#[]⟩) ∨
    (mirOk s.data.toList = true ∧ ∃ O : ByteArray, (⟨(mirR s.data.toList).toArray⟩ : ByteArray) = O ∧ mirOk O.data.toList = true ∧ (⟨(mirR O.data.toList).toArray⟩ : ByteArray) = s ∧
      ∃ ex ey : Int, -500 ≤ ex ∧ ex ≤ 500 ∧ endE (stepsB s.data.toList) = (ex, ey, 0) ∧ endE (stepsB O.data.toList) = (0 - ex, ey, 0) ∧ (prog s.data.toList).isSome = true ∧ (prog O.data.toList).isSome = true)) := by
  rcases Bool.eq_false_or_eq_true (mirOk s.data.toList) with h | h
  · have hO := mirOk_sw h
    have e1 : mirR s.data.toList = s.data.toList.map swB := by rw [mirR, if_pos h]
    have hm := mirR_mirR h
    obtain ⟨h0, h1⟩ := end_mir h
    have hp : ∀ l, mirOk l = true → (prog l).isSome = true := fun l hl => by
      unfold mirOk at hl
      exact (Bool.and_eq_true _ _ ▸ hl).1
    have hbd : -500 ≤ (endE (stepsB s.data.toList)).1 ∧ (endE (stepsB s.data.toList)).1 ≤ 500 := by
      obtain ⟨o, ho⟩ := Option.isSome_iff_exists.1 (hp _ h)
      have hl : (stepsB s.data.toList).length ≤ 500 := by
        have h3 := (steps_bytes (prog_steps ho).1).2
        have h2 := (prog_steps ho).2
        rw [stepsB, ho]
        show o.flatten.length ≤ 500
        omega
      have := (endK_bd (stepsB s.data.toList) _ (Nat.le_refl _)).1
      rw [endK_all] at this
      omega
    have hO2 : mirOk (mirR s.data.toList) = true := by rw [e1]; exact hO
    refine ⟨Or.inr ⟨h, _, rfl, hO2, ?_, (endE (stepsB s.data.toList)).1, (endE (stepsB s.data.toList)).2.1, hbd.1, hbd.2, Prod.ext rfl (Prod.ext rfl h0), h1, hp _ h, hp _ hO2⟩⟩
    · show (⟨(mirR (mirR s.data.toList)).toArray⟩ : ByteArray) = s
      rw [hm]
  · exact ⟨Or.inl ⟨h, by rw [mirR, if_neg (by rw [h]; decide)]⟩⟩
set_option maxRecDepth 100000 in
set_option maxHeartbeats 4000000 in
theorem plotMirror_walk (a : Option Addr) (len cap : Nat) (m : Int) (w : World) (hv : HasB w w.heap.size a len) (hc : len ≤ cap) (hm : w.cell? ⟨0, 0, none⟩ = some (.int .i64 m)) :
    Calls Tryz.prog 3 #[.slice a len cap] w fun e w' => e = .returned (.bool true) ∧ Below w.heap.size w w' := by
  by_cases hl : len ≤ 1048576
  · have hlt := block_lt_of_cell hm
    have HM := Lib.hid hm
    have HV := Lib.hid hv
    clear hm hv
    go_enter Tryz.func3, Tryz.ntmps3
    go_wp2_with (go_at_call 7; go_must (refine (drawPlotMirror_some a len cap _ hl hc HV.out).mono ?_; rintro e w1 ⟨s, rfl, hs, hb⟩; have HM := Lib.hid ((hb.cell (p := ⟨0, 0, none⟩) hlt).trans HM.out); have HB := Lib.hid hb; clear hb; obtain ⟨K⟩ := mirFacts s; rcases K with ⟨hk, hO⟩ | ⟨hk, O, hO, hk2, hO2, ex, ey, hx1, hx2, he1, he2, hp1, hp2⟩))
    · have HK := Lib.hid hk
      have HO := Lib.hid hO
      clear hk hO
      go_wp2_with (first
        | (go_at_call 8; go_must (refine (plotMirror_any s m _ HM.out).mono ?_; intro e w2 hpost; obtain ⟨rfl, hb⟩ := (show _ ∧ _ from hpost); rw [HK.out, HO.out]; have HM := Lib.hid ((hb.cell (p := ⟨0, 0, none⟩) (block_lt_of_cell HM.out)).trans HM.out); have HB := Lib.hid (HB.out.trans (hb.mono HB.out.size)); clear hb hpost))
        | (go_at_call 9; go_must (refine (specPlotMirror_any s (by omega) _).mono ?_; intro e w2 hpost; obtain ⟨rfl, hb⟩ := (show _ ∧ _ from hpost); rw [HK.out, HO.out]; have HM := Lib.hid ((hb.cell (p := ⟨0, 0, none⟩) (block_lt_of_cell HM.out)).trans HM.out); have HB := Lib.hid (HB.out.trans (hb.mono HB.out.size)); clear hb hpost)))
      go_returns
      exact ⟨rfl, HB.out⟩
    · have HK := Lib.hid hk
      have HO := Lib.hid hO
      have HK2 := Lib.hid hk2
      have HO2 := Lib.hid hO2
      have HE1 := Lib.hid he1
      have HE2 := Lib.hid he2
      have HP1 := Lib.hid hp1
      have HP2 := Lib.hid hp2
      have V1 : IntKind.i64.wrap (0 - ex) = 0 - ex := IntWalk.i64_in _ (by omega)
      have V2 : wrap64 (0 - ex) = 0 - ex := by unfold wrap64; omega
      clear hk hO hk2 hO2 he1 he2 hp1 hp2
      go_wp2_with fail
      refine (plotMirror_any s m _ HM.out).mono ?_
      intro e w2 hpost
      obtain ⟨rfl, hb⟩ := (show _ ∧ _ from hpost)
      rw [HK.out, HO.out]
      have HM := Lib.hid ((hb.cell (p := ⟨0, 0, none⟩) (block_lt_of_cell HM.out)).trans HM.out)
      have HB := Lib.hid (HB.out.trans (hb.mono HB.out.size))
      clear hpost
      clear hb
      go_wp2_with fail
      refine (specPlotMirror_any s (by omega) _).mono ?_
      intro e w3 hpost
      obtain ⟨rfl, hb⟩ := (show _ ∧ _ from hpost)
      rw [HK.out, HO.out]
      have HM := Lib.hid ((hb.cell (p := ⟨0, 0, none⟩) (block_lt_of_cell HM.out)).trans HM.out)
      have HB := Lib.hid (HB.out.trans (hb.mono HB.out.size))
      clear hpost
      clear hb
      go_wp2_with fail
      refine (plotMirror_any O m _ HM.out).mono ?_
      intro e w4 hpost
      obtain ⟨rfl, hb⟩ := (show _ ∧ _ from hpost)
      rw [HK2.out, HO2.out]
      have HM := Lib.hid ((hb.cell (p := ⟨0, 0, none⟩) (block_lt_of_cell HM.out)).trans HM.out)
      have HB := Lib.hid (HB.out.trans (hb.mono HB.out.size))
      clear hpost
      clear hb
      go_wp2_with fail
      refine (plotEnd_any s m _ HM.out).mono ?_
      intro e w5 hpost
      obtain ⟨rfl, hb⟩ := (show _ ∧ _ from hpost)
      rw [HE1.out, HP1.out]
      have HM := Lib.hid ((hb.cell (p := ⟨0, 0, none⟩) (block_lt_of_cell HM.out)).trans HM.out)
      have HB := Lib.hid (HB.out.trans (hb.mono HB.out.size))
      clear hpost
      clear hb
      have HM := Lib.hid (fun o => (((Below.refl _ w5).alloc (Nat.le_refl _) o).cell (p := ⟨0, 0, none⟩) (block_lt_of_cell HM.out)).trans HM.out)
      have HB := Lib.hid (fun o => HB.out.alloc HB.out.size o)
      go_wp2_with fail
      refine (plotEnd_any O m _ (HM.out _)).mono ?_
      intro e w6 hpost
      obtain ⟨rfl, hb⟩ := (show _ ∧ _ from hpost)
      rw [HE2.out, HP2.out]
      have hbk : w6.heap[w5.heap.size]? = some (MB ex ey) := (hb.block _ (by rw [World.size_alloc]; omega)).trans (heap_alloc_new _ _)
      obtain ⟨k0, k1, -⟩ := MB_c hbk
      have hlt6 : w5.heap.size < w6.heap.size := (Array.getElem?_eq_some_iff.1 hbk).1
      have HB := Lib.hid (((HB.out _).trans (hb.mono (HB.out _).size)))
      clear hpost hb hbk
      go_wp2_with fail
      go_returns
      exact ⟨rfl, HB.out.alloc HB.out.size _⟩
  · have hl2 : 1048576 < (len : Int) := by omega
    clear hm hv
    go_enter Tryz.func3, Tryz.ntmps3
    go_wp2_with fail
    go_returns
    exact ⟨rfl, Below.refl _ _⟩
end Go.Proofs.YthojdoiffkdikaaGreatDoor
