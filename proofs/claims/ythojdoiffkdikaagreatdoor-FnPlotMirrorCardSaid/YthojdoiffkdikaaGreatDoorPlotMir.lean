/- Mirrored programs (the program's own). -/
import Derived.Test.YthojdoiffkdikaaGreatDoorOnceB
import Derived.Test.YthojdoiffkdikaaGreatDoorPlotN
import Derived.Test.YthojdoiffkdikaaGreatDoorPlotR
import Derived.Test.YthojdoiffkdikaaGreatDoorPlotE
namespace Go.Proofs.YthojdoiffkdikaaGreatDoor
open Go.RowKit Go.PlotT

set_option maxRecDepth 100000 in
set_option maxHeartbeats 1600000 in
theorem replace_any (b g cap : Nat) (s : ByteArray) (hs : s.size ≤ 400) (w : World) (ho : w.heap[b]? = some (ReplObj g cap)) (hl : Lies w g pairs) (hgb : ¬ g = b) :
    Calls Tryz.prog 27 #[.pointer (some ⟨b, 0, none⟩), .string s] w fun e w' => e = .returned (.string ⟨(s.data.toList.map swB).toArray⟩) ∧ ∀ B, B ≤ b → Below B w w' := by
  have hmf : ∀ (fn : Fn) (first cap : Array Value) (w : World), (Instr.makeFunc fn first cap).run Tryz.prog w = .ok (.func fn first cap) w := fun _ _ _ _ => rfl
  have h0 : w.cell? ⟨b, 0, none⟩ = some (.int .u32 0) := by rw [Lib.cell_of_heap ho]; rfl
  have h1 : w.cell? ⟨b, 1, none⟩ = some (.int .i32 0) := by rw [Lib.cell_of_heap ho]; rfl
  have h3 : w.cell? ⟨b, 3, none⟩ = some .nilIface := by rw [Lib.cell_of_heap ho]; rfl
  have hc : w.cell? ⟨b, 4, none⟩ = some (.slice (some ⟨g, 0, none⟩) 4 cap) := by rw [Lib.cell_of_heap ho]; rfl
  have hz : ∀ i, w.frozen? ⟨b, i, none⟩ = false := fun i => by
    unfold World.frozen?
    simp [ho, ReplObj]
  have HL := Lib.hid hl
  have HZ := Lib.hid hz
  have hbw := block_lt_of_cell h0
  clear hl hz ho
  go_enter Tryz.func27, Tryz.ntmps27
  go_wp2_with (first
    | (go_at_call 49; go_must (refine (onceDo_any b g cap _ _ HL.out hgb hc h3 h0 h1 HZ.out).mono ?_; rintro e w1 ⟨rfl, ⟨R, hBt⟩, hB⟩; have hR3 := hBt.cell; have HT := Lib.hid hBt.tab; have hRl := hBt.lt; have HB := Lib.hid hB; clear hBt hB))
    | (go_at_call 234; go_must (refine (byteReplace_any _ s hs _ HT.out hRl).mono ?_; rintro e w2 ⟨rfl, hB2⟩; have HB2 := Lib.hid hB2; clear hB2)))
  go_returns
  refine ⟨rfl, fun B hBb => ?_⟩
  have h5 := (HB.out B hBb).size
  exact (HB.out B hBb).trans (HB2.out.mono (by omega))

set_option maxRecDepth 100000 in
set_option maxHeartbeats 1000000 in
theorem implPlotValid_any (s : ByteArray) (m : Int) (w : World) (hm : w.cell? ⟨0, 0, none⟩ = some (.int .i64 m)) :
    Calls Tryz.prog 24 #[.string s] w fun e w' => e = .returned (.bool (prog s.data.toList).isSome) ∧ Below w.heap.size w w' := by
  go_enter Tryz.func24, Tryz.ntmps24
  go_wp2_with (go_at_call 31; go_must (refine (stepsOf_any s m _ hm).mono ?_; rintro e w1 ⟨rfl, hb⟩; generalize (⟨(stepsB s.data.toList).toArray⟩ : ByteArray) = B; have HB := Lib.hid hb; clear hb))
  go_returns
  exact ⟨rfl, HB.out⟩
set_option maxRecDepth 100000 in
set_option maxHeartbeats 2000000 in
theorem plotMirror_any (s : ByteArray) (m : Int) (w : World) (hm : w.cell? ⟨0, 0, none⟩ = some (.int .i64 m)) :
    Calls Tryz.prog 8 #[.string s] w (MirPost w s.data.toList) := by
  have hI := indexByte_mem s.data.toList 116
  cases hp : prog s.data.toList with
  | none =>
    have HF := Lib.hid (show mirOk s.data.toList = false by rw [mirOk, hp]; rfl)
    have HP := Lib.hid (show (prog s.data.toList).isSome = false by rw [hp]; rfl)
    have HM := Lib.hid hm
    clear hp hm
    go_enter Tryz.func8, Tryz.ntmps8
    go_wp2_with (go_at_call 24; go_must (refine (implPlotValid_any s m _ HM.out).mono ?_; rintro e w1 ⟨rfl, hb⟩; rw [HP.out]; have HB := Lib.hid hb; clear hb))
    go_returns
    exact MirPost.no HF.out rfl HB.out
  | some o =>
    have h400 : s.size ≤ 400 := by
      rw [prog_eq, ← Lib.size_eq] at hp
      split at hp
      · cases hp
      · omega
    have HOK := Lib.hid (show mirOk s.data.toList = !decide (116 ∈ s.data.toList) by rw [mirOk, hp]; rfl)
    have HP := Lib.hid (show (prog s.data.toList).isSome = true by rw [hp]; rfl)
    have HM := Lib.hid hm
    clear hp hm
    by_cases ht : 116 ∈ s.data.toList
    · have HI := Lib.hid (hI.trans (decide_eq_true ht))
      have HF := Lib.hid (show mirOk s.data.toList = false by rw [HOK.out, decide_eq_true ht]; rfl)
      clear hI
      go_enter Tryz.func8, Tryz.ntmps8
      go_wp2_with (first
        | (go_at_call 24; go_must (refine (implPlotValid_any s m _ HM.out).mono ?_; rintro e w1 ⟨rfl, hb⟩; rw [HP.out]; have HB := Lib.hid hb; clear hb))
        | (go_at_call 25; go_must (refine (Tryz.strings_Contains_one s 116 _).mono ?_; rintro e w' ⟨rfl, hw'⟩; obtain rfl := hw'.symm; rw [HI.out])))
      go_returns
      exact MirPost.no HF.out rfl HB.out
    · have HI := Lib.hid (hI.trans (decide_eq_false ht))
      have HF := Lib.hid (show mirOk s.data.toList = true by rw [HOK.out, decide_eq_false ht]; rfl)
      clear hI
      go_enter Tryz.func8, Tryz.ntmps8
      go_wp2_with (first
        | (go_at_call 24; go_must (refine (implPlotValid_any s m _ HM.out).mono ?_; rintro e w1 ⟨rfl, hb⟩; rw [HP.out]; have HB := Lib.hid hb; clear hb))
        | (go_at_call 25; go_must (refine (Tryz.strings_Contains_one s 116 _).mono ?_; rintro e w' ⟨rfl, hw'⟩; obtain rfl := hw'.symm; rw [HI.out]))
        | (go_at_call 26; go_must (refine (newReplacer_any _ _ (lies_lit _ _ pairs rfl)).mono ?_; rintro e w2 ⟨b, g, cap, rfl, ho2, hl2, hbs, hgs, hgb, -, hB2⟩; have HO2 := Lib.hid ho2; have HL2 := Lib.hid hl2; have HB2 := Lib.hid hB2; have HBS := Lib.hid hbs; clear ho2 hl2 hB2))
        | (go_at_call 27; go_must (refine (replace_any b g cap s h400 _ HO2.out HL2.out hgb).mono ?_; rintro e w3 ⟨rfl, hB3⟩; have HB3 := Lib.hid hB3; clear hB3)))
      go_returns
      have h1 := HB.out.size
      have h2 : (w1.alloc (Obj.cells (List.map bstr pairs).toArray 9)).heap.size = w1.heap.size + 1 := World.size_alloc _ _
      refine ⟨by rw [mirR, HF.out]; rfl, ?_⟩
      exact ((HB.out.alloc h1 _).trans (HB2.out.mono (by omega))).trans (HB3.out _ (by omega))
end Go.Proofs.YthojdoiffkdikaaGreatDoor
