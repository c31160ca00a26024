/- Plotter programs folded (the reference). -/
import Derived.Test.YthojdoiffkdikaaDoorPlotV
import Derived.BigQuiet
import Derived.Deep.QuietTactic
import Derived.Deep.RegionHeld3
namespace Go.Proofs.YthojdoiffkdikaaDoor
open Go.RowKit Go.PlotT

theorem below_nq {B : Nat} {a w : World} (h : Below B a w) (n : Nat) : Below B a (w.drewN n) := h.trans ⟨rfl, rfl, rfl, Nat.le_refl _, fun _ _ => rfl⟩

/-- The text of the folded program, or the empty one. -/
def foldR (l : Wd) : Wd := if foldOk l = true then foldW (cutW l) else []
def FoldPost (w : World) (l : Wd) (e : Ending) (w' : World) : Prop := e = .returned (.tuple #[.string ⟨(foldR l).toArray⟩, .bool (foldOk l)]) ∧ Below w.heap.size w w'
theorem FoldPost.no {w w' : World} {l : Wd} {e : Ending} (h : foldOk l = false) (he : e = .returned (.tuple #[.string ⟨#[]⟩, .bool false])) (hb : Below w.heap.size w w') : FoldPost w l e w' := by
  refine ⟨?_, hb⟩
  rw [he, foldR, h]; rfl
theorem take_group {ws : List Wd} {i k : Nat} {x : Wd} (hx : ws[i]? = some x) (hk : k = 1 + lead x 8 (ws.drop (i + 1))) : ∀ y ∈ ws.take (i + k), y ∈ ws.take i ∨ y = x := by
  intro y hy
  obtain ⟨h, e⟩ := List.getElem?_eq_some_iff.1 hx
  rw [List.take_add, drop_at h, e, hk, Nat.add_comm 1, List.take_succ_cons, lead_take] at hy
  rcases List.mem_append.1 hy with hy | hy
  · exact Or.inl hy
  · rcases List.mem_cons.1 hy with hy | hy
    · exact Or.inr hy
    · exact Or.inr (List.eq_of_mem_replicate hy)
theorem gs_len (x : Wd) (k : Nat) : (gs (x, k)).length ≤ k := by
  unfold gs; split
  · simp only at *; simp; omega
  · simp
set_option maxRecDepth 100000 in
set_option maxHeartbeats 8000000 in
theorem specPlotFold_any (s : ByteArray) (hs : s.size ≤ 1048576) (w : World) :
    Calls Tryd.prog 7 #[.string s] w (FoldPost w s.data.toList) := by
  cases hp : prog s.data.toList with
  | none =>
    have HF := Lib.hid (show foldOk s.data.toList = false by rw [foldOk, hp]; rfl)
    have HP := Lib.hid hp
    clear hp
    go_enter Tryd.func7, Tryd.ntmps7
    go_wp2_with (first
      | (go_at_call 18; go_must (refine (l12Words_any s hs _).mono ?_; intro e w1 hpost; obtain ⟨g, cap, rfl, ho, hb⟩ := hpost; have HB := Lib.hid hb; have hsz := hb.size; clear hb ho))
      | (go_at_call 19; go_must (refine (specPlotValid_any s hs _).mono ?_; rintro e w2 ⟨rfl, hb2⟩; rw [HP.out]; have HB2 := Lib.hid (HB.out.trans (hb2.mono hsz)); clear hb2)))
    go_returns
    exact FoldPost.no HF.out rfl HB2.out
  | some o =>
    have h400 : s.size ≤ 400 := by
      rw [prog_eq, ← Lib.size_eq] at hp
      split at hp
      · cases hp
      · omega
    have HP := Lib.hid hp
    have hok : foldOk s.data.toList = allSt (cutW s.data.toList) := by rw [foldOk, hp]; rfl
    have HOK := Lib.hid hok
    have hlen := cutW_length s.data.toList
    rw [← Lib.size_eq] at hlen
    clear hp hok
    obtain ⟨ws, hws⟩ : ∃ ws, cutW s.data.toList = ws := ⟨_, rfl⟩
    rw [hws] at hlen
    have HWS := Lib.hid hws
    clear hws
    go_enter Tryd.func7, Tryd.ntmps7
    go_wp2_with (first
      | (go_at_call 18; go_must (refine (l12Words_any s hs _).mono ?_; intro e w1 hpost; obtain ⟨g, cap, rfl, ho, hb⟩ := hpost; rw [HWS.out] at ho ⊢; have HO := Lib.hid ho; have HB := Lib.hid hb; have hsz := hb.size; clear hb ho))
      | (go_at_call 19; go_must (refine (specPlotValid_any s hs _).mono ?_; rintro e w2 ⟨rfl, hb2⟩; rw [HP.out]; have HB2 := Lib.hid (HB.out.trans (hb2.mono hsz)); have HL := Lib.hid (HO.out.below hb2).lies; clear hb2)))
    have hsz2 := HB2.out.size
    have hg := HL.out.1
    go_loopw [5, 6] (fun s5 s6 wr => ∃ (i g5 cap5 : Nat) (out : List Wd), s5 = .slice (some ⟨g5, 0, none⟩) out.length cap5 ∧ s6 = .int .i64 i ∧ i ≤ ws.length ∧ out.length ≤ i ∧ Hid (∀ x ∈ ws.take i, isSt x = true) ∧ Hid (out ++ (grp (ws.drop i)).flatMap gs = (grp ws).flatMap gs) ∧ Hid (OwnsW wr w2.heap.size (.slice (some ⟨g5, 0, none⟩) out.length cap5) out) ∧ Below w2.heap.size w2 wr) (fun _ s6 _ => ws.length - (intOf s6).toNat)
    case atStart => exact ⟨0, _, _, [], rfl, rfl, by omega, by simp, (by intro x hx; simp at hx), rfl, OwnsW.lit _ _ #[] [] (Nat.le_refl _) rfl (by simp) rfl, by repeat' (first | (with_reducible exact Below.refl _ _) | (with_reducible assumption) | (with_reducible refine Below.alloc ?_ ?_ _) | (with_reducible refine below_more ?_ ?_ _ _) | (with_reducible refine below_rd ?_ ?_ _ _) | (with_reducible refine Below.drew ?_) | (with_reducible refine Below.setCell ?_ ?_ _) | go_size)⟩
    case round =>
      obtain ⟨wo, hwo⟩ : ∃ wo, wo = wr := ⟨_, rfl⟩
      subst hwo
      obtain ⟨i, g5, cap5, out, rfl, rfl, hi, ho, hst, hgr, hown, hbel⟩ := hrel
      have hsz3 := hbel.size
      have hg5 := hown.out.lt
      have HLO := Lib.hid (HL.out.below hbel hg)
      by_cases hlt : i < ws.length
      · obtain ⟨x, hx⟩ : ∃ x, ws[i]? = some x := ⟨_, List.getElem?_eq_getElem hlt⟩
        have hX : (⟨x.toArray⟩ : ByteArray).data.toList = x := rfl
        have hcell : wo.cell? ⟨g, i, none⟩ = some (.string ⟨x.toArray⟩) := HLO.out.2 i x hx
        generalize (⟨x.toArray⟩ : ByteArray) = X at hX hcell
        have HX := Lib.hid hX
        have hcs := l12Step_of X x hX
        have HXI := Lib.hid hx
        clear hx hX
        rcases Bool.eq_false_or_eq_true (isSt x) with hs1 | hs1
        · rw [hs1] at hcs
          have HCS := Lib.hid hcs
          have HS1 := Lib.hid hs1
          clear hcs hs1
          go_wp2_with (go_at_call 20; refine (HCS.out _).mono ?_; rintro e w' ⟨rfl, rfl⟩)
          go_loopw [7] (fun s7 wr => ∃ k : Nat, s7 = .int .i64 k ∧ 1 ≤ k ∧ k ≤ 9 ∧ i + k ≤ ws.length ∧ Hid (k + lead x (9 - k) (ws.drop (i + k)) = 1 + lead x 8 (ws.drop (i + 1))) ∧ Hid (Below wo.heap.size wo wr)) (fun s7 _ => 9 - (intOf s7).toNat)
          case atStart => exact ⟨1, rfl, by omega, by omega, by omega, rfl, Below.refl _ _⟩
          case round =>
            obtain ⟨k, rfl, hk1, hk9, hik, hlead, hbk⟩ := hrel
            have hszk := hbk.out.size
            have HLK := Lib.hid (HLO.out.below hbk.out (by have := hbk.out.size; have := HLO.out.1; omega))
            have hcx : wr.cell? ⟨g, i, none⟩ = some (.string X) := by
              have h := HLK.out.2 i x HXI.out
              rw [← HX.out, bstr_data] at h
              exact h
            clear hcell
            by_cases h9 : k < 9
            · have h9i : (k : Int) < 9 := by omega
              by_cases hl : i + k < ws.length
              · have hli : (i : Int) + (k : Int) < (ws.length : Int) := by omega
                obtain ⟨y, hy⟩ : ∃ y, ws[i + k]? = some y := ⟨_, List.getElem?_eq_getElem hl⟩
                have hY : (⟨y.toArray⟩ : ByteArray).data.toList = y := rfl
                have hcy : wr.cell? ⟨g, i + k, none⟩ = some (.string ⟨y.toArray⟩) := HLK.out.2 (i + k) y hy
                generalize (⟨y.toArray⟩ : ByteArray) = Y at hY hcy
                have hyx : (Y.toList == X.toList) = decide (y = x) := by rw [Lib.toList_data, Lib.toList_data, hY, HX.out]; rw [Bool.eq_iff_iff]; simp
                by_cases he : y = x
                · rw [decide_eq_true he] at hyx
                  subst he
                  clear hY
                  have HLD := Lib.hid (show (k + 1) + lead y (9 - (k + 1)) (ws.drop (i + (k + 1))) = 1 + lead y 8 (ws.drop (i + 1)) by
                    have h := hlead.out
                    rw [show 9 - k = 9 - (k + 1) + 1 by omega, lead_more hy] at h
                    rw [show i + (k + 1) = i + k + 1 by omega]
                    omega)
                  clear hy
                  go_wp2_with fail
                  go_quiet (fail)
                  go_wp2_with fail
                  go_roundw
                  case rel => exact ⟨k + 1, by go_num, by omega, by omega, by omega, HLD.out, below_nq hbk.out nq⟩
                  case measure => simp [intOf]; omega
                · rw [decide_eq_false he] at hyx
                  have HK := Lib.hid (show k = 1 + lead x 8 (ws.drop (i + 1)) by
                    have h := hlead.out
                    rw [lead_stop hy he] at h
                    omega)
                  clear hY hy he
                  go_wp2_with fail
                  go_quiet (fail)
                  have hbz : Below wo.heap.size wo (wr.drewN nq) := below_nq hbk.out nq
                  have hcz : (wr.drewN nq).cell? ⟨g, i, none⟩ = some (.string X) := by rw [World.cell?_drewN]; exact hcx
                  clear hcx hbk HLK hszk
                  generalize wr.drewN nq = wz at hbz hcz ⊢
                  have HOZ := Lib.hid (hown.out.below hbz)
                  have HBZ := Lib.hid (hbel.trans (hbz.mono hsz3))
                  have hszz := hbz.size
                  have hgz : g < wz.heap.size := by omega
                  have HST := Lib.hid (fun y hy => (take_group HXI.out HK.out y hy).elim (fun h => hst.out y h) (fun h => by rw [h]; exact HS1.out) : ∀ y ∈ ws.take (i + k), isSt y = true)
                  have HGR := Lib.hid (show (out ++ gs (x, k)) ++ (grp (ws.drop (i + k))).flatMap gs = (grp ws).flatMap gs by
                    rw [← hgr.out, grp_drop HXI.out HK.out, List.flatMap_cons, List.append_assoc])
                  clear hbz
                  by_cases h6 : 4 ≤ k
                  · have hds := decS_size k
                    have GS3 := Lib.hid (show gs (x, k) = [[114, UInt8.ofNat (48 + k)], x, [93]] by rw [gs, if_pos (by simp only; omega)])
                    go_wp2_with fail
                    go_region_held3 (fun w' => w'.cell? ⟨g, i, none⟩ = some (.string X)) (first | assumption | (simp [go_sem, *]; done)) (first
                      | (go_at_call 21; refine (l6Dec_decS k h6 hk9 _).mono ?_; rintro e w' ⟨rfl, hb⟩; obtain ⟨os, d, rfl⟩ := more_of_below hb; clear hb)
                      | (refine step_append_words rfl _ _ rfl w2.heap.size out [(⟨#[114]⟩ ++ decS k : ByteArray).data.toList, X.data.toList, (⟨#[93]⟩ : ByteArray).data.toList] (.slice (some ⟨g5, 0, none⟩) out.length cap5) rfl (OwnsW.alloc (OwnsW.more HOZ.out _ _) _) _ 3 3 rfl rfl ?_ (by omega) (by omega) (by rw [World.size_alloc, size_more]; omega) ?_; (focus (exact three_cells _ _ _ _ _ (by rw [size_more]))); intro g3 cap3 w3 hown3 hgrow hat hb3; have hc3 := (hb3.cell (p := ⟨g, i, none⟩) hg).trans (by simp [go_sem, *] : _ = some (Value.string X)); have HO3 := Lib.hid hown3; have HB3 := Lib.hid hb3; clear hown3 hgrow hat hb3))
                    go_wp2_with fail
                    go_roundw
                    case rel =>
                      refine ⟨i + k, g3, cap3, out ++ gs (x, k), ?_, by go_num, by omega, ?_, HST.out, HGR.out, ?_, HBZ.out.trans ?_⟩
                      · rw [GS3.out]; simp
                      · rw [GS3.out]; simp; omega
                      · show OwnsW _ _ _ _
                        rw [GS3.out, List.length_append]
                        have h := HO3.out
                        rw [decS_data, HX.out] at h
                        exact h
                      · exact (by repeat' (first | (with_reducible exact Below.refl _ _) | (with_reducible assumption) | (with_reducible refine Below.alloc ?_ ?_ _) | (with_reducible refine below_more ?_ ?_ _ _) | (with_reducible refine below_rd ?_ ?_ _ _) | (with_reducible refine Below.drew ?_) | (with_reducible refine Below.setCell ?_ ?_ _) | go_size) : Below w2.heap.size wz ((more wz os d).alloc (.cells #[.string (⟨#[114]⟩ ++ decS k), .string X, .string ⟨#[93]⟩] 9))).trans HB3.out
                    case measure => simp [intOf]; omega
                  · go_wp2_with fail
                    go_loopw [5, 8] (fun s5 s8 wr => ∃ (m g6 cap6 : Nat) (out' : List Wd), m ≤ k ∧ s8 = .int .i64 m ∧ s5 = .slice (some ⟨g6, 0, none⟩) out'.length cap6 ∧ out'.length ≤ i + m ∧ Hid (out' = out ++ List.replicate m x) ∧ Hid (OwnsW wr w2.heap.size (.slice (some ⟨g6, 0, none⟩) out'.length cap6) out') ∧ Hid (Below w2.heap.size w2 wr)) (fun _ s8 _ => k - (intOf s8).toNat)
                    case atStart => exact ⟨0, g5, cap5, out, by omega, rfl, rfl, by omega, (by show out = _; simp), HOZ.out, HBZ.out⟩
                    case round =>
                      obtain ⟨m, g6, cap6, out', hm, rfl, rfl, hol, hout, how, hbw⟩ := hrel
                      have hszw := hbw.out.size
                      by_cases hmk : m < k
                      · have hcm : wr.cell? ⟨g, i, none⟩ = some (.string X) := by
                          have h := (HL.out.below hbw.out hg).2 i x HXI.out
                          rw [← HX.out, bstr_data] at h
                          exact h
                        go_wp2_with (at_builtin; go_must (refine wpList_append_words rfl _ _ rfl w2.heap.size out' [X.data.toList] (.slice (some ⟨g6, 0, none⟩) out'.length cap6) rfl (OwnsW.alloc how.out _) wr.heap.size 1 1 rfl rfl ?_ (by omega) (by omega) (by rw [World.size_alloc]; omega) ?_; (focus (exact one_cell _ _)); intro g3 cap3 w3 hown3 hgrow hat hb3; have HO3 := Lib.hid hown3; have HB3 := Lib.hid (hbw.out.trans (((Below.refl _ wr).alloc (Nat.le_refl _) _).mono hszw |>.trans hb3)); clear hown3 hgrow hat hb3))
                        go_roundw
                        case rel =>
                          refine ⟨m + 1, g3, cap3, out' ++ [x], by omega, by go_num, by simp, by simp; omega, ?_, ?_, HB3.out⟩
                          · show _ = _
                            rw [hout.out, List.append_assoc, ← List.replicate_succ']
                          · show OwnsW _ _ _ _
                            rw [List.length_append, ← HX.out]
                            exact HO3.out
                        case measure => simp [intOf]; omega
                      · obtain rfl : m = k := by omega
                        have GS4 := Lib.hid (show out' = out ++ gs (x, m) by rw [hout.out, gs, if_neg (by simp only; omega)])
                        go_wp2_with fail
                        go_roundw
                        case rel =>
                          refine ⟨i + m, g6, cap6, out', rfl, by go_num, by omega, by omega, HST.out, ?_, how.out, hbw.out⟩
                          show _ = _
                          rw [GS4.out]; exact HGR.out
                        case measure => simp [intOf]; omega
              · have hdl : decide ((i : Int) + (k : Int) < (ws.length : Int)) = false := decide_eq_false (by omega)
                have HK := Lib.hid (show k = 1 + lead x 8 (ws.drop (i + 1)) by
                  have h := hlead.out
                  rw [lead_end (by omega)] at h
                  omega)
                go_wp2_with fail
                go_quiet (fail)
                have hbz : Below wo.heap.size wo (wr.drewN nq) := below_nq hbk.out nq
                have hcz : (wr.drewN nq).cell? ⟨g, i, none⟩ = some (.string X) := by rw [World.cell?_drewN]; exact hcx
                clear hcx hbk HLK hszk
                generalize wr.drewN nq = wz at hbz hcz ⊢
                have HOZ := Lib.hid (hown.out.below hbz)
                have HBZ := Lib.hid (hbel.trans (hbz.mono hsz3))
                have hszz := hbz.size
                have hgz : g < wz.heap.size := by omega
                have HST := Lib.hid (fun y hy => (take_group HXI.out HK.out y hy).elim (fun h => hst.out y h) (fun h => by rw [h]; exact HS1.out) : ∀ y ∈ ws.take (i + k), isSt y = true)
                have HGR := Lib.hid (show (out ++ gs (x, k)) ++ (grp (ws.drop (i + k))).flatMap gs = (grp ws).flatMap gs by
                  rw [← hgr.out, grp_drop HXI.out HK.out, List.flatMap_cons, List.append_assoc])
                clear hbz
                by_cases h6 : 4 ≤ k
                · have hds := decS_size k
                  have GS3 := Lib.hid (show gs (x, k) = [[114, UInt8.ofNat (48 + k)], x, [93]] by rw [gs, if_pos (by simp only; omega)])
                  go_wp2_with fail
                  go_region_held3 (fun w' => w'.cell? ⟨g, i, none⟩ = some (.string X)) (first | assumption | (simp [go_sem, *]; done)) (first
                    | (go_at_call 21; refine (l6Dec_decS k h6 hk9 _).mono ?_; rintro e w' ⟨rfl, hb⟩; obtain ⟨os, d, rfl⟩ := more_of_below hb; clear hb)
                    | (refine step_append_words rfl _ _ rfl w2.heap.size out [(⟨#[114]⟩ ++ decS k : ByteArray).data.toList, X.data.toList, (⟨#[93]⟩ : ByteArray).data.toList] (.slice (some ⟨g5, 0, none⟩) out.length cap5) rfl (OwnsW.alloc (OwnsW.more HOZ.out _ _) _) _ 3 3 rfl rfl ?_ (by omega) (by omega) (by rw [World.size_alloc, size_more]; omega) ?_; (focus (exact three_cells _ _ _ _ _ (by rw [size_more]))); intro g3 cap3 w3 hown3 hgrow hat hb3; have hc3 := (hb3.cell (p := ⟨g, i, none⟩) hg).trans (by simp [go_sem, *] : _ = some (Value.string X)); have HO3 := Lib.hid hown3; have HB3 := Lib.hid hb3; clear hown3 hgrow hat hb3))
                  go_wp2_with fail
                  go_roundw
                  case rel =>
                    refine ⟨i + k, g3, cap3, out ++ gs (x, k), ?_, by go_num, by omega, ?_, HST.out, HGR.out, ?_, HBZ.out.trans ?_⟩
                    · rw [GS3.out]; simp
                    · rw [GS3.out]; simp; omega
                    · show OwnsW _ _ _ _
                      rw [GS3.out, List.length_append]
                      have h := HO3.out
                      rw [decS_data, HX.out] at h
                      exact h
                    · exact (by repeat' (first | (with_reducible exact Below.refl _ _) | (with_reducible assumption) | (with_reducible refine Below.alloc ?_ ?_ _) | (with_reducible refine below_more ?_ ?_ _ _) | (with_reducible refine below_rd ?_ ?_ _ _) | (with_reducible refine Below.drew ?_) | (with_reducible refine Below.setCell ?_ ?_ _) | go_size) : Below w2.heap.size wz ((more wz os d).alloc (.cells #[.string (⟨#[114]⟩ ++ decS k), .string X, .string ⟨#[93]⟩] 9))).trans HB3.out
                  case measure => simp [intOf]; omega
                · go_wp2_with fail
                  go_loopw [5, 8] (fun s5 s8 wr => ∃ (m g6 cap6 : Nat) (out' : List Wd), m ≤ k ∧ s8 = .int .i64 m ∧ s5 = .slice (some ⟨g6, 0, none⟩) out'.length cap6 ∧ out'.length ≤ i + m ∧ Hid (out' = out ++ List.replicate m x) ∧ Hid (OwnsW wr w2.heap.size (.slice (some ⟨g6, 0, none⟩) out'.length cap6) out') ∧ Hid (Below w2.heap.size w2 wr)) (fun _ s8 _ => k - (intOf s8).toNat)
                  case atStart => exact ⟨0, g5, cap5, out, by omega, rfl, rfl, by omega, (by show out = _; simp), HOZ.out, HBZ.out⟩
                  case round =>
                    obtain ⟨m, g6, cap6, out', hm, rfl, rfl, hol, hout, how, hbw⟩ := hrel
                    have hszw := hbw.out.size
                    by_cases hmk : m < k
                    · have hcm : wr.cell? ⟨g, i, none⟩ = some (.string X) := by
                        have h := (HL.out.below hbw.out hg).2 i x HXI.out
                        rw [← HX.out, bstr_data] at h
                        exact h
                      go_wp2_with (at_builtin; go_must (refine wpList_append_words rfl _ _ rfl w2.heap.size out' [X.data.toList] (.slice (some ⟨g6, 0, none⟩) out'.length cap6) rfl (OwnsW.alloc how.out _) wr.heap.size 1 1 rfl rfl ?_ (by omega) (by omega) (by rw [World.size_alloc]; omega) ?_; (focus (exact one_cell _ _)); intro g3 cap3 w3 hown3 hgrow hat hb3; have HO3 := Lib.hid hown3; have HB3 := Lib.hid (hbw.out.trans (((Below.refl _ wr).alloc (Nat.le_refl _) _).mono hszw |>.trans hb3)); clear hown3 hgrow hat hb3))
                      go_roundw
                      case rel =>
                        refine ⟨m + 1, g3, cap3, out' ++ [x], by omega, by go_num, by simp, by simp; omega, ?_, ?_, HB3.out⟩
                        · show _ = _
                          rw [hout.out, List.append_assoc, ← List.replicate_succ']
                        · show OwnsW _ _ _ _
                          rw [List.length_append, ← HX.out]
                          exact HO3.out
                      case measure => simp [intOf]; omega
                    · obtain rfl : m = k := by omega
                      have GS4 := Lib.hid (show out' = out ++ gs (x, m) by rw [hout.out, gs, if_neg (by simp only; omega)])
                      go_wp2_with fail
                      go_roundw
                      case rel =>
                        refine ⟨i + m, g6, cap6, out', rfl, by go_num, by omega, by omega, HST.out, ?_, how.out, hbw.out⟩
                        show _ = _
                        rw [GS4.out]; exact HGR.out
                      case measure => simp [intOf]; omega
            · have hd9 : decide ((k : Int) < 9) = false := decide_eq_false (by omega)
              have HK := Lib.hid (show k = 1 + lead x 8 (ws.drop (i + 1)) by
                have h := hlead.out
                have e : lead x (9 - k) (ws.drop (i + k)) = 0 := by rw [show 9 - k = 0 by omega]; rfl
                omega)
              go_wp2_with fail
              go_quiet (fail)
              have hbz : Below wo.heap.size wo (wr.drewN nq) := below_nq hbk.out nq
              have hcz : (wr.drewN nq).cell? ⟨g, i, none⟩ = some (.string X) := by rw [World.cell?_drewN]; exact hcx
              clear hcx hbk HLK hszk
              generalize wr.drewN nq = wz at hbz hcz ⊢
              have HOZ := Lib.hid (hown.out.below hbz)
              have HBZ := Lib.hid (hbel.trans (hbz.mono hsz3))
              have hszz := hbz.size
              have hgz : g < wz.heap.size := by omega
              have HST := Lib.hid (fun y hy => (take_group HXI.out HK.out y hy).elim (fun h => hst.out y h) (fun h => by rw [h]; exact HS1.out) : ∀ y ∈ ws.take (i + k), isSt y = true)
              have HGR := Lib.hid (show (out ++ gs (x, k)) ++ (grp (ws.drop (i + k))).flatMap gs = (grp ws).flatMap gs by
                rw [← hgr.out, grp_drop HXI.out HK.out, List.flatMap_cons, List.append_assoc])
              clear hbz
              by_cases h6 : 4 ≤ k
              · have hds := decS_size k
                have GS3 := Lib.hid (show gs (x, k) = [[114, UInt8.ofNat (48 + k)], x, [93]] by rw [gs, if_pos (by simp only; omega)])
                go_wp2_with fail
                go_region_held3 (fun w' => w'.cell? ⟨g, i, none⟩ = some (.string X)) (first | assumption | (simp [go_sem, *]; done)) (first
                  | (go_at_call 21; refine (l6Dec_decS k h6 hk9 _).mono ?_; rintro e w' ⟨rfl, hb⟩; obtain ⟨os, d, rfl⟩ := more_of_below hb; clear hb)
                  | (refine step_append_words rfl _ _ rfl w2.heap.size out [(⟨#[114]⟩ ++ decS k : ByteArray).data.toList, X.data.toList, (⟨#[93]⟩ : ByteArray).data.toList] (.slice (some ⟨g5, 0, none⟩) out.length cap5) rfl (OwnsW.alloc (OwnsW.more HOZ.out _ _) _) _ 3 3 rfl rfl ?_ (by omega) (by omega) (by rw [World.size_alloc, size_more]; omega) ?_; (focus (exact three_cells _ _ _ _ _ (by rw [size_more]))); intro g3 cap3 w3 hown3 hgrow hat hb3; have hc3 := (hb3.cell (p := ⟨g, i, none⟩) hg).trans (by simp [go_sem, *] : _ = some (Value.string X)); have HO3 := Lib.hid hown3; have HB3 := Lib.hid hb3; clear hown3 hgrow hat hb3))
                go_wp2_with fail
                go_roundw
                case rel =>
                  refine ⟨i + k, g3, cap3, out ++ gs (x, k), ?_, by go_num, by omega, ?_, HST.out, HGR.out, ?_, HBZ.out.trans ?_⟩
                  · rw [GS3.out]; simp
                  · rw [GS3.out]; simp; omega
                  · show OwnsW _ _ _ _
                    rw [GS3.out, List.length_append]
                    have h := HO3.out
                    rw [decS_data, HX.out] at h
                    exact h
                  · exact (by repeat' (first | (with_reducible exact Below.refl _ _) | (with_reducible assumption) | (with_reducible refine Below.alloc ?_ ?_ _) | (with_reducible refine below_more ?_ ?_ _ _) | (with_reducible refine below_rd ?_ ?_ _ _) | (with_reducible refine Below.drew ?_) | (with_reducible refine Below.setCell ?_ ?_ _) | go_size) : Below w2.heap.size wz ((more wz os d).alloc (.cells #[.string (⟨#[114]⟩ ++ decS k), .string X, .string ⟨#[93]⟩] 9))).trans HB3.out
                case measure => simp [intOf]; omega
              · omega
        · rw [hs1] at hcs
          have HCS := Lib.hid hcs
          have HN := Lib.hid (show foldOk s.data.toList = false by
            rw [HOK.out, HWS.out]
            rcases Bool.eq_false_or_eq_true (allSt ws) with e | e
            · rw [allSt, List.all_eq_true] at e
              rw [e x (List.mem_of_getElem? HXI.out)] at hs1; cases hs1
            · exact e)
          clear hcs hs1
          go_wp2_with (go_at_call 20; refine (HCS.out _).mono ?_; rintro e w' ⟨rfl, rfl⟩)
          go_returns
          exact FoldPost.no HN.out rfl (HB2.out.trans (hbel.mono hsz2))
      · obtain rfl : i = ws.length := by omega
        have hall : allSt ws = true := by
          rw [allSt, List.all_eq_true]
          have h := hst.out
          rw [List.take_length] at h
          exact h
        have hout := hgr.out
        rw [List.drop_length, grp_nil, List.flatMap_nil, List.append_nil] at hout
        have hok : foldOk s.data.toList = true := by rw [HOK.out, HWS.out]; exact hall
        have hr : 114 ∉ s.data.toList := by
          have h := hok
          rw [foldOk_r] at h
          simp only [Bool.and_eq_true, Bool.not_eq_true', decide_eq_false_iff_not] at h
          exact h.2
        have hle := (fold_flat HP.out hr).1
        rw [← Lib.size_eq] at hle
        have hres : jn out = foldR s.data.toList := by rw [foldR, if_pos hok, foldW, HWS.out, hout]
        have HR := Lib.hid hres
        have HOK2 := Lib.hid hok
        have hjl : (jn out).length ≤ 4194304 := by rw [hres, foldR, if_pos hok]; omega
        have HJ := Lib.hid hjl
        clear hall hout hok hr hle hres hjl
        go_wp2_with (go_at_call 22; refine (l12Join_any out g5 cap5 (by omega) _ hown.out.lies HJ.out).mono ?_; rintro e w' ⟨rfl, rfl⟩)
        go_returns
        refine ⟨?_, HB2.out.trans (hbel.mono hsz2)⟩
        rw [HOK2.out, ← HR.out]; rfl
end Go.Proofs.YthojdoiffkdikaaDoor
