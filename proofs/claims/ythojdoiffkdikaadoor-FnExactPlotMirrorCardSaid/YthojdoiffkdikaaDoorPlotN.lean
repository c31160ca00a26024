/- Plotter programs folded (the program). -/
import Derived.Test.YthojdoiffkdikaaDoorPlotM
namespace Go.Proofs.YthojdoiffkdikaaDoor
open Go.RowKit Go.PlotT

theorem join_words (out : List Wd) (g cap : Nat) (w : World) (hl : Lies w g out) (hcap : out.length ≤ cap) (hn : out.length ≤ 1048576) (hlen : (jn out).length ≤ 1048576) :
    Calls Tryd.prog 27 #[.slice (some ⟨g, 0, none⟩) out.length cap, .string ⟨#[32]⟩] w fun e w' => e = .returned (.string ⟨(jn out).toArray⟩) ∧ Below w.heap.size w w' := by
  have e1 : ((out.map fun x => (⟨x.toArray⟩ : ByteArray)).map (·.data.toList)) = out := by
    rw [List.map_map]
    conv => rhs; rw [← List.map_id out]
    apply List.map_congr_left
    intro x _
    rfl
  have h := Tryd.strings_Join g 0 cap (out.map fun x => (⟨x.toArray⟩ : ByteArray)) ⟨#[32]⟩ w (by
    intro j x hx
    rw [List.getElem?_map] at hx
    obtain ⟨y, hy, rfl⟩ := Option.map_eq_some_iff.1 hx
    rw [Nat.zero_add]
    exact hl.2 j y hy) hl.1 (by rw [List.length_map]; omega) (by rw [List.length_map]; exact hcap) (by
      rw [e1]
      show (jn out).length ≤ _
      omega)
  rw [e1, List.length_map] at h
  exact h
theorem indexByte_mem (l : List UInt8) (c : UInt8) : decide (0 ≤ Lib.indexByte l c) = decide (c ∈ l) := by
  have hge := Lib.indexByte_ge l c
  rw [Bool.eq_iff_iff, decide_eq_true_iff, decide_eq_true_iff]
  constructor
  · intro h
    obtain ⟨i, hi⟩ : ∃ i : Nat, Lib.indexByte l c = i := ⟨(Lib.indexByte l c).toNat, by omega⟩
    exact List.mem_of_getElem? (Lib.indexByte_some hi).1
  · intro h
    rcases Classical.em (Lib.indexByte l c = -1) with e | e
    · obtain ⟨k, hk, hx⟩ := List.getElem_of_mem h
      exact absurd (by rw [List.getElem?_eq_getElem hk, hx]) (Lib.indexByte_none e k)
    · omega
theorem decDigits_one (n : Nat) (h : n < 10) : Lib.decDigits n = [UInt8.ofNat (48 + n)] := by
  rw [Lib.decDigits, dif_pos h]
theorem itoa_decS (n : Nat) (h : n < 10) (w : World) : Calls Tryd.prog 26 #[.int .i64 n] w fun e w' => e = .returned (.string (decS n)) ∧ w' = w := by
  have := Tryd.strconv_Itoa_small n (by omega) w
  rw [decDigits_one n h] at this
  exact this
theorem stepsB_le (l : Wd) : (stepsB l).length ≤ 500 := by
  unfold stepsB
  split
  · next o h =>
    rw [prog_eq] at h
    split at h
    · cases h
    · obtain ⟨⟨a, b⟩, hf, e⟩ := Option.map_eq_some_iff.1 h
      simp only at e
      subst e
      obtain ⟨h1, h2⟩ := fl_steps hf
      rw [(steps_bytes h1).2]; exact h2
  · simp
set_option maxRecDepth 100000 in
set_option maxHeartbeats 6000000 in
theorem plotFold_any (s : ByteArray) (m : Int) (w : World) (hm : w.cell? ⟨0, 0, none⟩ = some (.int .i64 m)) :
    Calls Tryd.prog 8 #[.string s] w (FoldPost w s.data.toList) := by
  cases hp : prog s.data.toList with
  | none =>
    have HF := Lib.hid (show foldOk s.data.toList = false by rw [foldOk, hp]; rfl)
    have HP := Lib.hid (show (prog s.data.toList).isSome = false by rw [hp]; rfl)
    have HM := Lib.hid hm
    clear hp hm
    go_enter Tryd.func8, Tryd.ntmps8
    go_wp2_with (go_at_call 23; go_must (refine (stepsOf_any s m _ HM.out).mono ?_; rintro e w1 ⟨rfl, hb⟩; rw [HP.out]; have HB := Lib.hid hb; clear hb))
    go_returns
    exact FoldPost.no HF.out rfl HB.out
  | some o =>
    have HPS := Lib.hid (show (prog s.data.toList).isSome = true by rw [hp]; rfl)
    by_cases hr : 114 ∈ s.data.toList
    · have HF := Lib.hid (show foldOk s.data.toList = false by rw [foldOk_r, hp]; simp [hr])
      have HI := Lib.hid (show decide (0 ≤ Lib.indexByte s.data.toList 114) = true by rw [indexByte_mem]; exact decide_eq_true hr)
      have HM := Lib.hid hm
      clear hp hm hr
      go_enter Tryd.func8, Tryd.ntmps8
      go_wp2_with (first
        | (go_at_call 23; go_must (refine (stepsOf_any s m _ HM.out).mono ?_; rintro e w1 ⟨rfl, hb⟩; rw [HPS.out]; have HB := Lib.hid hb; clear hb))
        | (go_at_call 24; go_must (refine (Tryd.strings_Contains_one s 114 _).mono ?_; rintro e w' ⟨rfl, hw'⟩; obtain rfl := hw'.symm; rw [HI.out])))
      go_returns
      exact FoldPost.no HF.out rfl HB.out
    · have HI := Lib.hid (show decide (0 ≤ Lib.indexByte s.data.toList 114) = false by rw [indexByte_mem]; exact decide_eq_false hr)
      have hok : foldOk s.data.toList = true := by rw [foldOk_r, hp]; simp [hr]
      have hfw := fold_prog hp hr
      have hfl := (fold_flat hp hr).1
      have hsb : stepsB s.data.toList = o.flatten := by rw [stepsB, hp]
      have h400 : s.size ≤ 400 := by
        rw [prog_eq, ← Lib.size_eq] at hp
        split at hp
        · cases hp
        · omega
      have hBl := stepsB_le s.data.toList
      have HRES := Lib.hid (show jn ((grp (stepsB s.data.toList)).map gw) = foldR s.data.toList by rw [hsb, hfw, foldR, if_pos hok])
      have HLEN := Lib.hid (show (foldR s.data.toList).length ≤ 400 by rw [foldR, if_pos hok]; rw [← Lib.size_eq] at hfl; omega)
      have HOK := Lib.hid hok
      have HM := Lib.hid hm
      clear hp hm hr hfw hfl hsb hok h400
      have hBd : (⟨(stepsB s.data.toList).toArray⟩ : ByteArray).data.toList = stepsB s.data.toList := rfl
      generalize hbs : stepsB s.data.toList = bs at hBl hBd HRES
      have HBS := Lib.hid hbs
      clear hbs
      go_enter Tryd.func8, Tryd.ntmps8
      go_wp2_with (first
        | (go_at_call 23; go_must (refine (stepsOf_any s m _ HM.out).mono ?_; rintro e w1 ⟨rfl, hb⟩; rw [HPS.out, HBS.out]; generalize (⟨bs.toArray⟩ : ByteArray) = B at hBd ⊢; have HB := Lib.hid hb; have hsz := hb.size; clear hb))
        | (go_at_call 24; go_must (refine (Tryd.strings_Contains_one s 114 _).mono ?_; rintro e w' ⟨rfl, hw'⟩; obtain rfl := hw'.symm; rw [HI.out])))
      have hBs : B.size = bs.length := by rw [Lib.size_eq, hBd]
      have hB5 : B.size ≤ 500 := by omega
      have HBD := Lib.hid hBd
      have HBL := Lib.hid hBs
      clear hBd hBl hBs
      go_loopw [6, 7] (fun s6 s7 wr => ∃ (i g6 cap6 : Nat) (out : List Wd), s6 = .slice (some ⟨g6, 0, none⟩) out.length cap6 ∧ s7 = .int .i64 i ∧ i ≤ B.size ∧ out.length ≤ i ∧ Hid (out ++ (grp (bs.drop i)).map gw = (grp bs).map gw) ∧ Hid (OwnsW wr w1.heap.size (.slice (some ⟨g6, 0, none⟩) out.length cap6) out) ∧ Below w1.heap.size w1 wr) (fun _ s7 _ => B.size - (intOf s7).toNat)
      case atStart => exact ⟨0, _, _, [], rfl, rfl, by omega, by simp, rfl, OwnsW.lit _ _ #[] [] (Nat.le_refl _) rfl (by simp) rfl, by repeat' (first | (with_reducible exact Below.refl _ _) | (with_reducible assumption) | (with_reducible refine Below.alloc ?_ ?_ _) | (with_reducible refine below_more ?_ ?_ _ _) | (with_reducible refine below_rd ?_ ?_ _ _) | (with_reducible refine Below.drew ?_) | (with_reducible refine Below.setCell ?_ ?_ _) | go_size)⟩
      case round =>
        obtain ⟨wo, hwo⟩ : ∃ wo, wo = wr := ⟨_, rfl⟩
        subst hwo
        obtain ⟨i, g6, cap6, out, rfl, rfl, hi, ho, hgr, hown, hbel⟩ := hrel
        have hsz3 := hbel.size
        by_cases hlt : i < B.size
        · obtain ⟨c, hc⟩ : ∃ c, bs[i]? = some c := ⟨_, List.getElem?_eq_getElem (by rw [← HBL.out]; exact hlt)⟩
          have HCI := Lib.hid hc
          have hci : B[i]'hlt = c := by
            have h : B.data.toList[i]? = some c := by rw [HBD.out]; exact hc
            rw [List.getElem?_eq_getElem (by rw [← Lib.size_eq]; exact hlt)] at h
            exact Option.some.inj h
          have HCB := Lib.hid hci
          clear hc hci
          have hil : (i : Int) < (B.size : Int) := by omega
          go_wp2_with fail
          go_loopw [8] (fun s8 wr => ∃ n : Nat, s8 = .int .i64 n ∧ 1 ≤ n ∧ n ≤ 9 ∧ i + n ≤ B.size ∧ Hid (n + lead c (9 - n) (bs.drop (i + n)) = 1 + lead c 8 (bs.drop (i + 1))) ∧ Hid (Below wo.heap.size wo wr)) (fun s8 _ => 9 - (intOf s8).toNat)
          case atStart => exact ⟨1, rfl, by omega, by omega, by omega, rfl, Below.refl _ _⟩
          case round =>
            obtain ⟨n, rfl, hn1, hn9, hin, hlead, hbk⟩ := hrel
            have hn63 : n ≤ 9223372036854775807 := Nat.le_trans hn9 (by decide)
            have hge : (0 : Int) ≤ (i : Int) + (n : Int) := by omega
            have htn : ((i : Int) + (n : Int)).toNat = i + n := by omega
            have hwr : IntKind.i64.wrap ((i : Int) + (n : Int)) = (i : Int) + (n : Int) := IntWalk.i64_in _ (by omega)
            by_cases h9 : n < 9
            · have h9i : (n : Int) < 9 := by omega
              by_cases hl : i + n < B.size
              · have hli : (i : Int) + (n : Int) < (B.size : Int) := by omega
                obtain ⟨y, hy⟩ : ∃ y, bs[i + n]? = some y := ⟨_, List.getElem?_eq_getElem (by rw [← HBL.out]; exact hl)⟩
                have hyi : B[i + n]'hl = y := by
                  have h : B.data.toList[i + n]? = some y := by rw [HBD.out]; exact hy
                  rw [List.getElem?_eq_getElem (by rw [← Lib.size_eq]; exact hl)] at h
                  exact Option.some.inj h
                by_cases he : y = c
                · have hcmp : (((B[i + n]'hl).toNat : Int) == ((B[i]'hlt).toNat : Int)) = true := by rw [hyi, HCB.out, he]; simp
                  have HLD := Lib.hid (show (n + 1) + lead c (9 - (n + 1)) (bs.drop (i + (n + 1))) = 1 + lead c 8 (bs.drop (i + 1)) by
                    have h := hlead.out
                    rw [he] at hy
                    rw [show 9 - n = 9 - (n + 1) + 1 by omega, lead_more hy] at h
                    rw [show i + (n + 1) = i + n + 1 by omega]
                    omega)
                  clear hy hyi he
                  go_wp2_with fail
                  go_quiet (fail)
                  go_wp2_with fail
                  go_roundw
                  case rel => exact ⟨n + 1, by go_num, by omega, by omega, by omega, HLD.out, below_nq hbk.out nq⟩
                  case measure => simp [intOf]; omega
                · have hcmp : (((B[i + n]'hl).toNat : Int) == ((B[i]'hlt).toNat : Int)) = false := by
                    rw [beq_eq_false_iff_ne, hyi, HCB.out]
                    intro e
                    exact he (UInt8.toNat_inj.1 (by omega))
                  have HK := Lib.hid (show n = 1 + lead c 8 (bs.drop (i + 1)) by
                    have h := hlead.out
                    rw [lead_stop hy he] at h
                    omega)
                  clear hy hyi he
                  go_wp2_with fail
                  go_quiet (fail)
                  have hbz : Below wo.heap.size wo (wr.drewN nq) := below_nq hbk.out nq
                  clear hbk; (try clear hwr); (try clear htn); (try clear hge)
                  generalize wr.drewN nq = wz at hbz ⊢
                  have HOZ := Lib.hid (hown.out.below hbz)
                  have HBZ := Lib.hid (hbel.trans (hbz.mono hsz3))
                  have hszz := hbz.size
                  have HST := Lib.hid (show (out ++ [gw (c, n)]) ++ (grp (bs.drop (i + n))).map gw = (grp bs).map gw by
                    rw [← hgr.out, grp_drop HCI.out HK.out, List.map_cons, List.append_assoc]; rfl)
                  clear hbz
                  have hce : (B.extract i (i + 1)).data.toList = [c] := by
                    rw [Lib.extract_data, HBD.out, show i + 1 - i = 1 by omega]
                    obtain ⟨h, e⟩ := List.getElem?_eq_some_iff.1 HCI.out
                    rw [List.drop_eq_getElem_cons h, e]; rfl
                  have HES := Lib.hid (show (B.extract i (i + 1)).size = 1 by rw [Lib.size_eq, hce]; rfl)
                  have HCE := Lib.hid hce
                  clear hce
                  go_wp2_with (go_at_call 25; go_must (refine (Tryd.strings_Repeat (B.extract i (i + 1) ++ (⟨#[32]⟩ : ByteArray)) n _ hn63 ?_).mono ?_; (focus (have e : (B.extract i (i + 1) ++ (⟨#[32]⟩ : ByteArray)).size = 2 := (by rw [Lib.size_eq, bytes_append, HCE.out]; rfl); rw [e]; omega)); rintro e w4 ⟨rfl, hb4⟩; have hR : (⟨(Lib.repeatL (B.extract i (i + 1) ++ (⟨#[32]⟩ : ByteArray) : ByteArray).data.toList n).toArray⟩ : ByteArray).data.toList = rep c n := (by show Lib.repeatL _ n = _; rw [bytes_append, HCE.out, repeatL_flat]; rfl); generalize (⟨(Lib.repeatL (B.extract i (i + 1) ++ (⟨#[32]⟩ : ByteArray) : ByteArray).data.toList n).toArray⟩ : ByteArray) = R at hR ⊢; have hRs : R.size = 2 * n := (by rw [Lib.size_eq, hR, rep_length]); have HRD := Lib.hid hR; have HRS := Lib.hid hRs; have hR1 : 1 ≤ R.size := (by omega); have hR2 : R.size ≤ 18 := (by omega); have HB4 := Lib.hid (HBZ.out.trans (hb4.mono (by omega))); have HO4 := Lib.hid (HOZ.out.below hb4); have hsz4 := hb4.size; clear hR hRs hb4))
                  have hds := decS_size n
                  have hes := HES.out
                  go_quiet ((go_at_call 26; refine Calls.quiet_of_same (itoa_decS n (by omega) _)))
                  have hFO : ((⟨#[114]⟩ : ByteArray) ++ decS n ++ (⟨#[32]⟩ : ByteArray) ++ B.extract i (i + 1) ++ (⟨#[32, 93]⟩ : ByteArray)).data.toList = [114, UInt8.ofNat (48 + n), 32, c, 32, 93] := by
                    rw [bytes_append, bytes_append, bytes_append, decS_data, HCE.out]; rfl
                  have hPL : (R.extract 0 (R.size - 1)).data.toList = (rep c n).take (2 * n - 1) := by
                    rw [Lib.extract_data, HRD.out, HRS.out, List.drop_zero, Nat.sub_zero]
                  have hPs : (R.extract 0 (R.size - 1)).size = 2 * n - 1 := by
                    rw [Lib.size_eq, hPL, List.length_take, rep_length]; omega
                  clear hds hes hR1 hR2
                  generalize ((⟨#[114]⟩ : ByteArray) ++ decS n ++ (⟨#[32]⟩ : ByteArray) ++ B.extract i (i + 1) ++ (⟨#[32, 93]⟩ : ByteArray)) = FO at hFO ⊢
                  generalize R.extract 0 (R.size - 1) = PL at hPL hPs ⊢
                  have hFs : FO.size = 6 := by rw [Lib.size_eq, hFO]; rfl
                  have HB5' := below_nq HB4.out nq
                  have HO5' : OwnsW (w4.drewN nq) w1.heap.size (.slice (some ⟨g6, 0, none⟩) out.length cap6) out := HO4.out.below (below_nq (Below.refl _ _) nq)
                  generalize w4.drewN nq = w5 at HB5' HO5' ⊢
                  have HB5 := Lib.hid HB5'
                  have HO5 := Lib.hid HO5'
                  have hsz5 := HB5'.size
                  clear HB5' HO5'
                  by_cases h6 : 4 ≤ n
                  · have hlt6 : (FO.size : Int) < (PL.size : Int) := by omega
                    have HGW := Lib.hid (show gw (c, n) = FO.data.toList by rw [gw, if_pos (by simp only; omega), hFO])
                    clear hFO hPL hPs hFs
                    go_wp2_with (at_builtin; go_must (refine wpList_append_words rfl _ _ rfl w1.heap.size out [FO.data.toList] (.slice (some ⟨g6, 0, none⟩) out.length cap6) rfl (OwnsW.alloc HO5.out _) w5.heap.size 1 1 rfl rfl ?_ (by omega) (by omega) (by rw [World.size_alloc]; omega) ?_; (focus (exact one_cell _ _)); intro g7 cap7 w6 hown6 hgrow hat hb6; have HO6 := Lib.hid hown6; have HB6 := Lib.hid (HB5.out.trans (((Below.refl _ w5).alloc (Nat.le_refl _) _).mono hsz5 |>.trans hb6)); clear hown6 hgrow hat hb6))
                    go_roundw
                    case rel =>
                      refine ⟨i + n, g7, cap7, out ++ [gw (c, n)], by simp, by go_num, by omega, by simp; omega, HST.out, ?_, HB6.out⟩
                      show OwnsW _ _ _ _
                      rw [List.length_append, HGW.out]
                      exact HO6.out
                    case measure => simp [intOf]; omega
                  · have hlt6 : (PL.size : Int) ≤ (FO.size : Int) := by omega
                    have HGW := Lib.hid (show gw (c, n) = PL.data.toList by rw [gw, if_neg (by simp only; omega), hPL])
                    clear hFO hPL hPs hFs
                    go_wp2_with (at_builtin; go_must (refine wpList_append_words rfl _ _ rfl w1.heap.size out [PL.data.toList] (.slice (some ⟨g6, 0, none⟩) out.length cap6) rfl (OwnsW.alloc HO5.out _) w5.heap.size 1 1 rfl rfl ?_ (by omega) (by omega) (by rw [World.size_alloc]; omega) ?_; (focus (exact one_cell _ _)); intro g7 cap7 w6 hown6 hgrow hat hb6; have HO6 := Lib.hid hown6; have HB6 := Lib.hid (HB5.out.trans (((Below.refl _ w5).alloc (Nat.le_refl _) _).mono hsz5 |>.trans hb6)); clear hown6 hgrow hat hb6))
                    go_roundw
                    case rel =>
                      refine ⟨i + n, g7, cap7, out ++ [gw (c, n)], by simp, by go_num, by omega, by simp; omega, HST.out, ?_, HB6.out⟩
                      show OwnsW _ _ _ _
                      rw [List.length_append, HGW.out]
                      exact HO6.out
                    case measure => simp [intOf]; omega
              · have hdl : decide ((i : Int) + (n : Int) < (B.size : Int)) = false := decide_eq_false (by omega)
                have HK := Lib.hid (show n = 1 + lead c 8 (bs.drop (i + 1)) by
                  have h := hlead.out
                  rw [lead_end (by rw [← HBL.out]; omega)] at h
                  omega)
                go_wp2_with fail
                go_quiet (fail)
                have hbz : Below wo.heap.size wo (wr.drewN nq) := below_nq hbk.out nq
                clear hbk; (try clear hwr); (try clear htn); (try clear hge)
                generalize wr.drewN nq = wz at hbz ⊢
                have HOZ := Lib.hid (hown.out.below hbz)
                have HBZ := Lib.hid (hbel.trans (hbz.mono hsz3))
                have hszz := hbz.size
                have HST := Lib.hid (show (out ++ [gw (c, n)]) ++ (grp (bs.drop (i + n))).map gw = (grp bs).map gw by
                  rw [← hgr.out, grp_drop HCI.out HK.out, List.map_cons, List.append_assoc]; rfl)
                clear hbz
                have hce : (B.extract i (i + 1)).data.toList = [c] := by
                  rw [Lib.extract_data, HBD.out, show i + 1 - i = 1 by omega]
                  obtain ⟨h, e⟩ := List.getElem?_eq_some_iff.1 HCI.out
                  rw [List.drop_eq_getElem_cons h, e]; rfl
                have HES := Lib.hid (show (B.extract i (i + 1)).size = 1 by rw [Lib.size_eq, hce]; rfl)
                have HCE := Lib.hid hce
                clear hce
                go_wp2_with (go_at_call 25; go_must (refine (Tryd.strings_Repeat (B.extract i (i + 1) ++ (⟨#[32]⟩ : ByteArray)) n _ hn63 ?_).mono ?_; (focus (have e : (B.extract i (i + 1) ++ (⟨#[32]⟩ : ByteArray)).size = 2 := (by rw [Lib.size_eq, bytes_append, HCE.out]; rfl); rw [e]; omega)); rintro e w4 ⟨rfl, hb4⟩; have hR : (⟨(Lib.repeatL (B.extract i (i + 1) ++ (⟨#[32]⟩ : ByteArray) : ByteArray).data.toList n).toArray⟩ : ByteArray).data.toList = rep c n := (by show Lib.repeatL _ n = _; rw [bytes_append, HCE.out, repeatL_flat]; rfl); generalize (⟨(Lib.repeatL (B.extract i (i + 1) ++ (⟨#[32]⟩ : ByteArray) : ByteArray).data.toList n).toArray⟩ : ByteArray) = R at hR ⊢; have hRs : R.size = 2 * n := (by rw [Lib.size_eq, hR, rep_length]); have HRD := Lib.hid hR; have HRS := Lib.hid hRs; have hR1 : 1 ≤ R.size := (by omega); have hR2 : R.size ≤ 18 := (by omega); have HB4 := Lib.hid (HBZ.out.trans (hb4.mono (by omega))); have HO4 := Lib.hid (HOZ.out.below hb4); have hsz4 := hb4.size; clear hR hRs hb4))
                have hds := decS_size n
                have hes := HES.out
                go_quiet ((go_at_call 26; refine Calls.quiet_of_same (itoa_decS n (by omega) _)))
                have hFO : ((⟨#[114]⟩ : ByteArray) ++ decS n ++ (⟨#[32]⟩ : ByteArray) ++ B.extract i (i + 1) ++ (⟨#[32, 93]⟩ : ByteArray)).data.toList = [114, UInt8.ofNat (48 + n), 32, c, 32, 93] := by
                  rw [bytes_append, bytes_append, bytes_append, decS_data, HCE.out]; rfl
                have hPL : (R.extract 0 (R.size - 1)).data.toList = (rep c n).take (2 * n - 1) := by
                  rw [Lib.extract_data, HRD.out, HRS.out, List.drop_zero, Nat.sub_zero]
                have hPs : (R.extract 0 (R.size - 1)).size = 2 * n - 1 := by
                  rw [Lib.size_eq, hPL, List.length_take, rep_length]; omega
                clear hds hes hR1 hR2
                generalize ((⟨#[114]⟩ : ByteArray) ++ decS n ++ (⟨#[32]⟩ : ByteArray) ++ B.extract i (i + 1) ++ (⟨#[32, 93]⟩ : ByteArray)) = FO at hFO ⊢
                generalize R.extract 0 (R.size - 1) = PL at hPL hPs ⊢
                have hFs : FO.size = 6 := by rw [Lib.size_eq, hFO]; rfl
                have HB5' := below_nq HB4.out nq
                have HO5' : OwnsW (w4.drewN nq) w1.heap.size (.slice (some ⟨g6, 0, none⟩) out.length cap6) out := HO4.out.below (below_nq (Below.refl _ _) nq)
                generalize w4.drewN nq = w5 at HB5' HO5' ⊢
                have HB5 := Lib.hid HB5'
                have HO5 := Lib.hid HO5'
                have hsz5 := HB5'.size
                clear HB5' HO5'
                by_cases h6 : 4 ≤ n
                · have hlt6 : (FO.size : Int) < (PL.size : Int) := by omega
                  have HGW := Lib.hid (show gw (c, n) = FO.data.toList by rw [gw, if_pos (by simp only; omega), hFO])
                  clear hFO hPL hPs hFs
                  go_wp2_with (at_builtin; go_must (refine wpList_append_words rfl _ _ rfl w1.heap.size out [FO.data.toList] (.slice (some ⟨g6, 0, none⟩) out.length cap6) rfl (OwnsW.alloc HO5.out _) w5.heap.size 1 1 rfl rfl ?_ (by omega) (by omega) (by rw [World.size_alloc]; omega) ?_; (focus (exact one_cell _ _)); intro g7 cap7 w6 hown6 hgrow hat hb6; have HO6 := Lib.hid hown6; have HB6 := Lib.hid (HB5.out.trans (((Below.refl _ w5).alloc (Nat.le_refl _) _).mono hsz5 |>.trans hb6)); clear hown6 hgrow hat hb6))
                  go_roundw
                  case rel =>
                    refine ⟨i + n, g7, cap7, out ++ [gw (c, n)], by simp, by go_num, by omega, by simp; omega, HST.out, ?_, HB6.out⟩
                    show OwnsW _ _ _ _
                    rw [List.length_append, HGW.out]
                    exact HO6.out
                  case measure => simp [intOf]; omega
                · have hlt6 : (PL.size : Int) ≤ (FO.size : Int) := by omega
                  have HGW := Lib.hid (show gw (c, n) = PL.data.toList by rw [gw, if_neg (by simp only; omega), hPL])
                  clear hFO hPL hPs hFs
                  go_wp2_with (at_builtin; go_must (refine wpList_append_words rfl _ _ rfl w1.heap.size out [PL.data.toList] (.slice (some ⟨g6, 0, none⟩) out.length cap6) rfl (OwnsW.alloc HO5.out _) w5.heap.size 1 1 rfl rfl ?_ (by omega) (by omega) (by rw [World.size_alloc]; omega) ?_; (focus (exact one_cell _ _)); intro g7 cap7 w6 hown6 hgrow hat hb6; have HO6 := Lib.hid hown6; have HB6 := Lib.hid (HB5.out.trans (((Below.refl _ w5).alloc (Nat.le_refl _) _).mono hsz5 |>.trans hb6)); clear hown6 hgrow hat hb6))
                  go_roundw
                  case rel =>
                    refine ⟨i + n, g7, cap7, out ++ [gw (c, n)], by simp, by go_num, by omega, by simp; omega, HST.out, ?_, HB6.out⟩
                    show OwnsW _ _ _ _
                    rw [List.length_append, HGW.out]
                    exact HO6.out
                  case measure => simp [intOf]; omega
            · have hd9 : decide ((n : Int) < 9) = false := decide_eq_false (by omega)
              have HK := Lib.hid (show n = 1 + lead c 8 (bs.drop (i + 1)) by
                have h := hlead.out
                have e : lead c (9 - n) (bs.drop (i + n)) = 0 := by rw [show 9 - n = 0 by omega]; rfl
                omega)
              go_wp2_with fail
              go_quiet (fail)
              have hbz : Below wo.heap.size wo (wr.drewN nq) := below_nq hbk.out nq
              clear hbk; (try clear hwr); (try clear htn); (try clear hge)
              generalize wr.drewN nq = wz at hbz ⊢
              have HOZ := Lib.hid (hown.out.below hbz)
              have HBZ := Lib.hid (hbel.trans (hbz.mono hsz3))
              have hszz := hbz.size
              have HST := Lib.hid (show (out ++ [gw (c, n)]) ++ (grp (bs.drop (i + n))).map gw = (grp bs).map gw by
                rw [← hgr.out, grp_drop HCI.out HK.out, List.map_cons, List.append_assoc]; rfl)
              clear hbz
              have hce : (B.extract i (i + 1)).data.toList = [c] := by
                rw [Lib.extract_data, HBD.out, show i + 1 - i = 1 by omega]
                obtain ⟨h, e⟩ := List.getElem?_eq_some_iff.1 HCI.out
                rw [List.drop_eq_getElem_cons h, e]; rfl
              have HES := Lib.hid (show (B.extract i (i + 1)).size = 1 by rw [Lib.size_eq, hce]; rfl)
              have HCE := Lib.hid hce
              clear hce
              go_wp2_with (go_at_call 25; go_must (refine (Tryd.strings_Repeat (B.extract i (i + 1) ++ (⟨#[32]⟩ : ByteArray)) n _ hn63 ?_).mono ?_; (focus (have e : (B.extract i (i + 1) ++ (⟨#[32]⟩ : ByteArray)).size = 2 := (by rw [Lib.size_eq, bytes_append, HCE.out]; rfl); rw [e]; omega)); rintro e w4 ⟨rfl, hb4⟩; have hR : (⟨(Lib.repeatL (B.extract i (i + 1) ++ (⟨#[32]⟩ : ByteArray) : ByteArray).data.toList n).toArray⟩ : ByteArray).data.toList = rep c n := (by show Lib.repeatL _ n = _; rw [bytes_append, HCE.out, repeatL_flat]; rfl); generalize (⟨(Lib.repeatL (B.extract i (i + 1) ++ (⟨#[32]⟩ : ByteArray) : ByteArray).data.toList n).toArray⟩ : ByteArray) = R at hR ⊢; have hRs : R.size = 2 * n := (by rw [Lib.size_eq, hR, rep_length]); have HRD := Lib.hid hR; have HRS := Lib.hid hRs; have hR1 : 1 ≤ R.size := (by omega); have hR2 : R.size ≤ 18 := (by omega); have HB4 := Lib.hid (HBZ.out.trans (hb4.mono (by omega))); have HO4 := Lib.hid (HOZ.out.below hb4); have hsz4 := hb4.size; clear hR hRs hb4))
              have hds := decS_size n
              have hes := HES.out
              go_quiet ((go_at_call 26; refine Calls.quiet_of_same (itoa_decS n (by omega) _)))
              have hFO : ((⟨#[114]⟩ : ByteArray) ++ decS n ++ (⟨#[32]⟩ : ByteArray) ++ B.extract i (i + 1) ++ (⟨#[32, 93]⟩ : ByteArray)).data.toList = [114, UInt8.ofNat (48 + n), 32, c, 32, 93] := by
                rw [bytes_append, bytes_append, bytes_append, decS_data, HCE.out]; rfl
              have hPL : (R.extract 0 (R.size - 1)).data.toList = (rep c n).take (2 * n - 1) := by
                rw [Lib.extract_data, HRD.out, HRS.out, List.drop_zero, Nat.sub_zero]
              have hPs : (R.extract 0 (R.size - 1)).size = 2 * n - 1 := by
                rw [Lib.size_eq, hPL, List.length_take, rep_length]; omega
              clear hds hes hR1 hR2
              generalize ((⟨#[114]⟩ : ByteArray) ++ decS n ++ (⟨#[32]⟩ : ByteArray) ++ B.extract i (i + 1) ++ (⟨#[32, 93]⟩ : ByteArray)) = FO at hFO ⊢
              generalize R.extract 0 (R.size - 1) = PL at hPL hPs ⊢
              have hFs : FO.size = 6 := by rw [Lib.size_eq, hFO]; rfl
              have HB5' := below_nq HB4.out nq
              have HO5' : OwnsW (w4.drewN nq) w1.heap.size (.slice (some ⟨g6, 0, none⟩) out.length cap6) out := HO4.out.below (below_nq (Below.refl _ _) nq)
              generalize w4.drewN nq = w5 at HB5' HO5' ⊢
              have HB5 := Lib.hid HB5'
              have HO5 := Lib.hid HO5'
              have hsz5 := HB5'.size
              clear HB5' HO5'
              by_cases h6 : 4 ≤ n
              · have hlt6 : (FO.size : Int) < (PL.size : Int) := by omega
                have HGW := Lib.hid (show gw (c, n) = FO.data.toList by rw [gw, if_pos (by simp only; omega), hFO])
                clear hFO hPL hPs hFs
                go_wp2_with (at_builtin; go_must (refine wpList_append_words rfl _ _ rfl w1.heap.size out [FO.data.toList] (.slice (some ⟨g6, 0, none⟩) out.length cap6) rfl (OwnsW.alloc HO5.out _) w5.heap.size 1 1 rfl rfl ?_ (by omega) (by omega) (by rw [World.size_alloc]; omega) ?_; (focus (exact one_cell _ _)); intro g7 cap7 w6 hown6 hgrow hat hb6; have HO6 := Lib.hid hown6; have HB6 := Lib.hid (HB5.out.trans (((Below.refl _ w5).alloc (Nat.le_refl _) _).mono hsz5 |>.trans hb6)); clear hown6 hgrow hat hb6))
                go_roundw
                case rel =>
                  refine ⟨i + n, g7, cap7, out ++ [gw (c, n)], by simp, by go_num, by omega, by simp; omega, HST.out, ?_, HB6.out⟩
                  show OwnsW _ _ _ _
                  rw [List.length_append, HGW.out]
                  exact HO6.out
                case measure => simp [intOf]; omega
              · omega
        · obtain rfl : i = B.size := by omega
          have hout := hgr.out
          rw [HBL.out, List.drop_length, grp_nil, List.map_nil, List.append_nil] at hout
          have hres : jn out = foldR s.data.toList := by rw [hout]; exact HRES.out
          have HR := Lib.hid hres
          have hjl : (jn out).length ≤ 400 := by rw [hres]; exact HLEN.out
          have HJ := Lib.hid hjl
          clear hout hres hjl
          go_wp2_with (go_at_call 27; go_must (refine (join_words out g6 cap6 _ hown.out.lies hown.out.cap (by omega) (by have := HJ.out; omega)).mono ?_; rintro e w' ⟨rfl, hb2⟩; have HB2 := Lib.hid (HB.out.trans ((hbel.trans (hb2.mono hsz3)).mono hsz)); clear hb2))
          go_returns
          refine ⟨?_, HB2.out⟩
          rw [HOK.out, ← HR.out]; rfl
end Go.Proofs.YthojdoiffkdikaaDoor
