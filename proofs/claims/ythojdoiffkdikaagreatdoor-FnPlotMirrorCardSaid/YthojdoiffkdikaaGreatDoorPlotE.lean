/- Mirrored programs (the reference). -/
import Derived.Test.YthojdoiffkdikaaGreatDoorPlotV
import Derived.Test.YthojdoiffkdikaaGreatDoorPlotH
namespace Go.Proofs.YthojdoiffkdikaaGreatDoor
open Go.RowKit Go.PlotT

def MirPost (w : World) (l : Wd) (e : Ending) (w' : World) : Prop := e = .returned (.tuple #[.string ⟨(mirR l).toArray⟩, .bool (mirOk l)]) ∧ Below w.heap.size w w'
theorem MirPost.no {w w' : World} {l : Wd} {e : Ending} (h : mirOk l = false) (he : e = .returned (.tuple #[.string ⟨#[]⟩, .bool false])) (hb : Below w.heap.size w w') : MirPost w l e w' := by
  refine ⟨?_, hb⟩
  rw [he, mirR, h]; rfl
/-- The words when i of them have been exchanged. -/
def swAt (ws : List Wd) (i : Nat) : List Wd := (ws.take i).map swW ++ ws.drop i
theorem swAt_len (ws : List Wd) (i : Nat) : (swAt ws i).length = ws.length := by simp [swAt]; omega
theorem swAt_get {ws : List Wd} {i : Nat} {x : Wd} (hx : ws[i]? = some x) : (swAt ws i)[i]? = some x := by
  have hi : i < ws.length := (List.getElem?_eq_some_iff.1 hx).1
  rw [swAt, List.getElem?_append_right (by simp; omega)]
  simp only [List.length_map, List.length_take]
  rw [List.getElem?_drop, show i + (i - min i ws.length) = i by omega, hx]
theorem swAt_next {ws : List Wd} {i : Nat} {x : Wd} (hx : ws[i]? = some x) : swAt ws (i + 1) = (swAt ws i).set i (swW x) := by
  obtain ⟨hi, e⟩ := List.getElem?_eq_some_iff.1 hx
  unfold swAt
  rw [List.set_append_right _ _ (by simp; omega)]
  simp only [List.length_map, List.length_take]
  rw [show i - min i ws.length = 0 by omega, List.drop_eq_getElem_cons hi, e, List.set_cons_zero, List.take_add_one, hx]
  simp
theorem set_same {ws : List Wd} {i : Nat} {x : Wd} (hx : ws[i]? = some x) : ws.set i x = ws := by
  obtain ⟨hi, e⟩ := List.getElem?_eq_some_iff.1 hx
  rw [← e]; exact List.set_getElem_self hi
theorem OwnsW.store {w : World} {B g cap : Nat} {ws : List Wd} (h : OwnsW w B (.slice (some ⟨g, 0, none⟩) ws.length cap) ws) (j : Nat) (u : Wd) : OwnsW (w.setCell ⟨g, j, none⟩ (bstr u)) B (.slice (some ⟨g, 0, none⟩) (ws.set j u).length cap) (ws.set j u) := by
  have h2 := (World.ownsRow.stored h j (bstr u)).1
  unfold OwnsW
  rw [List.length_set, List.map_set]
  exact h2
set_option maxRecDepth 100000 in
set_option maxHeartbeats 2000000 in
theorem specPlotMirror_any (s : ByteArray) (hs : s.size ≤ 1048576) (w : World) :
    Calls Tryz.prog 9 #[.string s] w (MirPost w s.data.toList) := by
  cases hp : prog s.data.toList with
  | none =>
    have HF := Lib.hid (show mirOk s.data.toList = false by rw [mirOk, hp]; rfl)
    have HP := Lib.hid hp
    clear hp
    go_enter Tryz.func9, Tryz.ntmps9
    go_wp2_with (first
      | (go_at_call 28; go_must (refine (l12Words_any s hs _).mono ?_; intro e w1 hpost; obtain ⟨g, cap, rfl, ho, hb⟩ := hpost; have HB := Lib.hid hb; have hsz := hb.size; clear hb ho))
      | (go_at_call 29; go_must (refine (specPlotValid_any s hs _).mono ?_; rintro e w2 ⟨rfl, hb2⟩; rw [HP.out]; have HB2 := Lib.hid (HB.out.trans (hb2.mono hsz)); clear hb2)))
    go_returns
    exact MirPost.no HF.out rfl HB2.out
  | some o =>
    have h400 : s.size ≤ 400 := by
      rw [prog_eq, ← Lib.size_eq] at hp
      split at hp
      · cases hp
      · omega
    have HT := Lib.hid (mir_t hp)
    have HM := Lib.hid (mir_words hp)
    have HOK := Lib.hid (show mirOk s.data.toList = !decide (116 ∈ s.data.toList) by rw [mirOk, hp]; rfl)
    have HP := Lib.hid hp
    have hlen := cutW_length s.data.toList
    rw [← Lib.size_eq] at hlen
    clear hp
    obtain ⟨ws, hws⟩ : ∃ ws, cutW s.data.toList = ws := ⟨_, rfl⟩
    rw [hws] at hlen HT HM
    have HWS := Lib.hid hws
    clear hws
    go_enter Tryz.func9, Tryz.ntmps9
    go_wp2_with (first
      | (go_at_call 28; go_must (refine (l12Words_any s hs _).mono ?_; intro e w1 hpost; obtain ⟨g, cap, rfl, ho, hb⟩ := hpost; rw [HWS.out] at ho ⊢; have HO := Lib.hid ho; have HB := Lib.hid hb; have hsz := hb.size; have hg := ho.lt.1; clear hb ho))
      | (go_at_call 29; go_must (refine (specPlotValid_any s hs _).mono ?_; rintro e w2 ⟨rfl, hb2⟩; rw [HP.out]; have HB2 := Lib.hid (HB.out.trans (hb2.mono hsz)); have HO2 := Lib.hid (HO.out.below hb2); clear hb2)))
    go_loopw [5] (fun s5 wr => ∃ i : Nat, s5 = .int .i64 i ∧ i ≤ ws.length ∧ Hid (∀ x ∈ ws.take i, x ≠ [116]) ∧ Hid (OwnsW wr w.heap.size (.slice (some ⟨g, 0, none⟩) ws.length cap) (swAt ws i)) ∧ Hid (Below w.heap.size w wr)) (fun s5 _ => ws.length - (intOf s5).toNat)
    case atStart => exact ⟨0, rfl, by omega, (by intro x hx; simp at hx), (by show OwnsW _ _ _ _; rw [show swAt ws 0 = ws by simp [swAt]]; exact HO2.out), HB2.out⟩
    case round =>
      obtain ⟨i, rfl, hi, hno, hown, hbel⟩ := hrel
      by_cases hlt : i < ws.length
      · obtain ⟨x, hx⟩ : ∃ x, ws[i]? = some x := ⟨_, List.getElem?_eq_getElem hlt⟩
        have hown2 : OwnsW wr w.heap.size (.slice (some ⟨g, 0, none⟩) (swAt ws i).length cap) (swAt ws i) := by rw [swAt_len]; exact hown.out
        have hX : (⟨x.toArray⟩ : ByteArray).data.toList = x := rfl
        have hcell : wr.cell? ⟨g, i, none⟩ = some (.string ⟨x.toArray⟩) := hown2.cell (swAt_get hx)
        have hfz : wr.frozen? ⟨g, i, none⟩ = false := World.ownsRow.frozenAt hown2 i
        have hst := fun u => hown2.store i u
        have HST := Lib.hid hst
        have HN := Lib.hid (swAt_next hx)
        have HX2 := Lib.hid hx
        have HTK := Lib.hid (show x ≠ [116] → ∀ y ∈ ws.take (i + 1), y ≠ [116] by
          intro h y hy
          rw [List.take_add_one, hx] at hy
          rcases List.mem_append.1 hy with hy | hy
          · exact hno.out y hy
          · simp at hy; rw [hy]; exact h)
        generalize (⟨x.toArray⟩ : ByteArray) = X at hX hcell
        have e1 : (X.toList == [116]) = decide (x = [116]) := by rw [Lib.toList_data, hX]; rw [Bool.eq_iff_iff]; simp
        have e2 : (X.toList == [101]) = decide (x = [101]) := by rw [Lib.toList_data, hX]; rw [Bool.eq_iff_iff]; simp
        have e3 : (X.toList == [119]) = decide (x = [119]) := by rw [Lib.toList_data, hX]; rw [Bool.eq_iff_iff]; simp
        clear hx hown2 hst hX
        by_cases h1 : x = [116]
        · rw [decide_eq_true h1] at e1
          have HF := Lib.hid (show mirOk s.data.toList = false by
            rw [HOK.out, decide_eq_true (HT.out.2 (by rw [← h1]; exact List.mem_of_getElem? HX2.out))]; rfl)
          clear e2 e3 h1
          go_wp2_with fail
          go_returns
          exact MirPost.no HF.out rfl hbel.out
        · rw [decide_eq_false h1] at e1
          have HK := Lib.hid (HTK.out h1)
          by_cases h2 : x = [101]
          · rw [decide_eq_true h2] at e2
            have HS := Lib.hid (show OwnsW (wr.setCell ⟨g, i, none⟩ (.string ⟨#[119]⟩)) w.heap.size (.slice (some ⟨g, 0, none⟩) ws.length cap) (swAt ws (i + 1)) by
              have h := HST.out [119]
              rw [← show swW x = [119] by rw [h2]; rfl, ← HN.out, swAt_len] at h
              rw [show swW x = [119] by rw [h2]; rfl] at h
              exact h)
            clear e3 h1 h2
            go_wp2_with fail
            go_roundw
            case rel => exact ⟨i + 1, by go_num, by omega, HK.out, HS.out, hbel.out.setCell (p := ⟨g, i, none⟩) hg _⟩
            case measure => simp [intOf]; omega
          · rw [decide_eq_false h2] at e2
            by_cases h3 : x = [119]
            · rw [decide_eq_true h3] at e3
              have HS := Lib.hid (show OwnsW (wr.setCell ⟨g, i, none⟩ (.string ⟨#[101]⟩)) w.heap.size (.slice (some ⟨g, 0, none⟩) ws.length cap) (swAt ws (i + 1)) by
                have h := HST.out [101]
                rw [← show swW x = [101] by rw [h3]; rfl, ← HN.out, swAt_len] at h
                rw [show swW x = [101] by rw [h3]; rfl] at h
                exact h)
              clear h1 h2 h3
              go_wp2_with fail
              go_roundw
              case rel => exact ⟨i + 1, by go_num, by omega, HK.out, HS.out, hbel.out.setCell (p := ⟨g, i, none⟩) hg _⟩
              case measure => simp [intOf]; omega
            · rw [decide_eq_false h3] at e3
              have HS := Lib.hid (show swAt ws (i + 1) = swAt ws i by
                rw [HN.out, show swW x = x by rw [swW, if_neg h2, if_neg h3]]
                exact set_same (swAt_get HX2.out))
              clear h1 h2 h3
              go_wp2_with fail
              go_roundw
              case rel => exact ⟨i + 1, by go_num, by omega, HK.out, (by show OwnsW _ _ _ _; rw [HS.out]; exact hown.out), hbel.out⟩
              case measure => simp [intOf]; omega
      · obtain rfl : i = ws.length := by omega
        have hn := hno.out
        rw [List.take_length] at hn
        have hnt : 116 ∉ s.data.toList := fun e => hn _ (HT.out.1 e) rfl
        have HF := Lib.hid (show mirOk s.data.toList = true by rw [HOK.out, decide_eq_false hnt]; rfl)
        have hsw : swAt ws ws.length = ws.map swW := by simp [swAt]
        have hlies : Lies wr g (ws.map swW) := by
          have h := hown.out
          rw [hsw] at h
          have h2 : OwnsW wr w.heap.size (.slice (some ⟨g, 0, none⟩) (ws.map swW).length cap) (ws.map swW) := by rw [List.length_map]; exact h
          exact h2.lies
        have HL := Lib.hid hlies
        have hj : jn (ws.map swW) = mirR s.data.toList := by rw [HM.out, mirR, if_pos HF.out]
        have HJ := Lib.hid hj
        have HJL := Lib.hid (show (jn (ws.map swW)).length ≤ 4194304 by rw [HM.out, List.length_map, ← Lib.size_eq]; omega)
        have HE := Lib.hid (show (ws.map swW).length = ws.length by simp)
        clear hn hnt hsw hlies hj
        have hcall := fun w' (h : Lies w' g (ws.map swW)) => l12Join_any (ws.map swW) g cap (by rw [HE.out]; omega) w' h HJL.out
        rw [HE.out] at hcall
        have HC := Lib.hid hcall
        clear hcall
        go_wp2_with (go_at_call 30; go_must (refine (HC.out _ HL.out).mono ?_; rintro e w' ⟨rfl, hw⟩; obtain rfl := hw.symm; rw [HJ.out]))
        go_returns
        refine ⟨?_, hbel.out⟩
        rw [HF.out]; rfl
end Go.Proofs.YthojdoiffkdikaaGreatDoor
