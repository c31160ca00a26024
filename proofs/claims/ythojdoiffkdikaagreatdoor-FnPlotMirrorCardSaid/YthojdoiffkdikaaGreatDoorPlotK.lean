/- Plotter programs of the program: words are read. -/
import Derived.Test.YthojdoiffkdikaaGreatDoorPlotJ
namespace Go.Proofs.YthojdoiffkdikaaGreatDoor
open Go.RowKit Go.PlotT

set_option maxRecDepth 100000 in
set_option maxHeartbeats 4000000 in
theorem until_any (ws : List Wd) (g cap b : Nat) (hws : ws.length ≤ 401) (hgb : ¬ g = b) : ∀ (n i : Nat) (ins : Bool) (w : World), ws.length - i < n → i ≤ ws.length → (ins = true ∨ i < ws.length) → Lies w g ws → w.heap[b]? = some (RB (.slice (some ⟨g, 0, none⟩) ws.length cap) i) →
    Calls Tryz.prog 55 #[.pointer (some ⟨b, 0, none⟩), .bool ins] w (UntilPost w b (.slice (some ⟨g, 0, none⟩) ws.length cap) ws (fl (ws.drop i) ins [])) := by
  intro n
  induction n with
  | zero => intro i ins w h1; omega
  | succ n ih =>
    intro i ins w h1 h2 hin hl hb
    have IH := Lib.hid ih
    have HL := Lib.hid hl
    have hr0 : Rdr w w b (.slice (some ⟨g, 0, none⟩) ws.length cap) i := Rdr.refl hb
    have hbw := hr0.lt
    have c1 := hr0.c1
    have HR0 := Lib.hid hr0
    have HIN := Lib.hid hin
    clear ih hl hb hr0 hin
    go_enter Tryz.func55, Tryz.ntmps55
    go_wp2_with fail
    clear c1
    go_loopw [7, 8] (fun _ _ wr => ∃ (j : Nat) (acc : List Wd) (l : List UInt8), i ≤ j ∧ j ≤ ws.length ∧ acc.length ≤ 500 ∧ l.length ≤ acc.length ∧ acc.length ≤ l.length ∧ Hid (fl (ws.drop j) ins acc = fl (ws.drop i) ins []) ∧ Hid (acc ≠ [] ↔ i < j) ∧ Hid (acc.flatten = l) ∧ Hid (Bld w.heap.size w.heap.size l wr) ∧ Hid (Rdr w wr b (.slice (some ⟨g, 0, none⟩) ws.length cap) j)) (fun _ _ wr => ws.length - atOf b wr)
    case atStart => exact ⟨i, [], [], by omega, by omega, by simp, by simp, by simp, rfl, (by show ([] : List Wd) ≠ [] ↔ i < i; simp), rfl, Bld.new w, HR0.out.below ((Below.refl _ w).alloc (Nat.le_refl _) _) hbw (Nat.le_refl _)⟩
    case round =>
      obtain ⟨j, acc, l, hij, hj, ha, hl1, hl2, hfl, hacc, hlb, hbld, hrd⟩ := hrel
      have c0 := hrd.out.c0
      have c1 := hrd.out.c1
      have hsz := hrd.out.size
      by_cases hlt : j < ws.length
      · have hji : (j : Int) < (ws.length : Int) := by omega
        obtain ⟨x, hx⟩ : ∃ x, ws[j]? = some x := ⟨_, List.getElem?_eq_getElem hlt⟩
        have hdrop : ws.drop j = x :: ws.drop (j + 1) := by
          obtain ⟨h, e⟩ := List.getElem?_eq_some_iff.1 hx
          rw [drop_at h, e]
        have HDR := Lib.hid hdrop
        have HW := Lib.hid (hrd.out.lies HL.out hgb)
        have hX : (⟨x.toArray⟩ : ByteArray).data.toList = x := rfl
        have hcell : wr.cell? ⟨g, j, none⟩ = some (.string ⟨x.toArray⟩) := HW.out.2 j x hx
        generalize (⟨x.toArray⟩ : ByteArray) = X at hX hcell
        have HX := Lib.hid hX
        clear hdrop hx
        have HAT := Lib.hid hrd.out.at
        go_wp2_with fail
        go_quiet (fail)
        have R1 := hrd.out.nq nq
        have B1 : Bld w.heap.size w.heap.size l (wr.drewN nq) := hbld.out.same (fun _ _ _ => rfl)
        have k1 : (wr.drewN nq).cell? ⟨g, j, none⟩ = some (.string X) := by rw [World.cell?_drewN]; exact hcell
        clear c0 c1 hcell HW hbld hrd hsz
        generalize wr.drewN nq = wy at R1 B1 k1 ⊢
        have c0 := R1.c0
        have c1 := R1.c1
        have HR1 := Lib.hid R1
        have HB1 := Lib.hid B1
        clear R1 B1
        go_wp2_with fail
        go_quiet (fail)
        have R2 := HR1.out.nq nq
        have B2 : Bld w.heap.size w.heap.size l (wy.drewN nq) := HB1.out.same (fun _ _ _ => rfl)
        clear c0 c1 k1 HR1 HB1
        generalize wy.drewN nq = wz at R2 B2 ⊢
        have c1 := R2.c1
        have f1 := R2.f1
        have hsz := R2.size
        have HLZ := Lib.hid (R2.lies HL.out hgb)
        have HR2 := Lib.hid R2
        have HB2 := Lib.hid B2
        clear R2 B2
        have hcs := isStep_of X x hX
        have h93 : (X.toList == [93]) = decide (x = [93]) := by rw [Lib.toList_data, hX]; rw [Bool.eq_iff_iff]; simp
        have hXl : X.size = x.length := by rw [Lib.size_eq, hX]
        rcases Bool.eq_false_or_eq_true (isSt x) with hs | hs
        · rw [hs] at hcs
          have HCS := Lib.hid hcs
          have hXs : X.size = 1 := by
            obtain ⟨c, rfl⟩ := isSt_one hs
            exact hXl
          have HXS := Lib.hid hXs
          obtain ⟨n2, hn2⟩ : ∃ n2, (Lib.byteCells (l ++ X.data.toList)).length = n2 := ⟨_, rfl⟩
          have hn3 : n2 = acc.length + 1 := by rw [← hn2, Lib.byteCells_length, List.length_append, ← Lib.size_eq, hXs]; omega
          have HN3 := Lib.hid hn3
          have HLN := Lib.hid hn2
          have hXle : X.size ≤ 1 := by omega
          have HFL := Lib.hid (fl_step (r := ws.drop (j + 1)) (ins := ins) (acc := acc) hs)
          clear hcs h93 hXl hX hXs hn2 hs hn3
          by_cases h5 : n2 ≤ 500
          · have h5i : (n2 : Int) ≤ 500 := by omega
            have HR := Lib.hid (show fl (ws.drop j) ins acc = fl (ws.drop (j + 1)) ins (acc ++ [x]) by rw [HDR.out, HFL.out, if_neg (by have := HN3.out; rw [List.length_append, List.length_singleton]; omega)])
            go_wp2_with (first
              | (go_at_call 78; refine (HCS.out _).mono ?_; rintro e w' ⟨rfl, rfl⟩)
              | (go_at_call 53; go_must (refine (need_any _ _).mono ?_; intro e w' hpost; simp only [NeedPost] at hpost; obtain ⟨rfl, rfl⟩ := hpost))
              | (go_at_call 79; go_must (refine (writeString_any w.heap.size w.heap.size (Lib.byteCells l) X _ (HB2.out.store hbw _) ?_ ?_).mono ?_; (focus (rw [Lib.byteCells_length]; omega)); (focus (rw [World.size_setCell]; omega)); rintro e w3 ⟨rfl, h3, hb3⟩; have HB3 := Lib.hid (Bld.wrote h3); have HR3 := Lib.hid ((HR2.out.store (j' := j + 1) (by push_cast; rfl)).below hb3 hbw (Nat.le_refl _)); clear h3 hb3))
              | (go_at_call 82; go_must (refine (Tryz.Builder_Len_f w.heap.size w.heap.size _ _ HB3.out).mono ?_; rintro e w' ⟨rfl, rfl⟩; rw [HLN.out])))
            go_roundw
            case rel =>
              have hn3 := HN3.out
              have hn2 := HLN.out
              rw [Lib.byteCells_length] at hn2
              refine ⟨j + 1, acc ++ [x], l ++ X.data.toList, by omega, by omega, by simp; omega, by rw [hn2, List.length_append, List.length_singleton]; omega, by rw [hn2, List.length_append, List.length_singleton]; omega, HR.out.symm.trans hfl.out, ?_, ?_, HB3.out, HR3.out⟩
              · show _ ↔ _
                simp; omega
              · show _ = _
                rw [List.flatten_append, hlb.out, HX.out]; simp
            case measure => simp only [HAT.out, HR3.out.at]; omega
          · have h5i : decide ((n2 : Int) ≤ 500) = false := decide_eq_false (by omega)
            have HR := Lib.hid (show fl (ws.drop j) ins acc = none by rw [HDR.out, HFL.out, if_pos (by have := HN3.out; rw [List.length_append, List.length_singleton]; omega)])
            go_wp2_with (first
              | (go_at_call 78; refine (HCS.out _).mono ?_; rintro e w' ⟨rfl, rfl⟩)
              | (go_at_call 53; go_must (refine (need_any _ _).mono ?_; intro e w' hpost; simp only [NeedPost] at hpost; obtain ⟨rfl, rfl⟩ := hpost))
              | (go_at_call 79; go_must (refine (writeString_any w.heap.size w.heap.size (Lib.byteCells l) X _ (HB2.out.store hbw _) ?_ ?_).mono ?_; (focus (rw [Lib.byteCells_length]; omega)); (focus (rw [World.size_setCell]; omega)); rintro e w3 ⟨rfl, h3, hb3⟩; have HB3 := Lib.hid (Bld.wrote h3); have HR3 := Lib.hid ((HR2.out.store (j' := j + 1) (by push_cast; rfl)).below hb3 hbw (Nat.le_refl _)); clear h3 hb3))
              | (go_at_call 82; go_must (refine (Tryz.Builder_Len_f w.heap.size w.heap.size _ _ HB3.out).mono ?_; rintro e w' ⟨rfl, rfl⟩; rw [HLN.out])))
            exact ⟨rfl, UntilPost.no (hfl.out.symm.trans HR.out) rfl HR3.out⟩
        · rw [hs] at hcs
          have HCS := Lib.hid hcs
          by_cases hx9 : x = [93]
          · rw [decide_eq_true hx9] at h93
            have HBR := Lib.hid (show fl (ws.drop j) ins acc = if ins = true ∧ acc ≠ [] then some (acc, ws.drop (j + 1)) else none by rw [HDR.out, hx9, fl_bracket])
            clear hcs hXl hX hs
            cases ins with
            | false =>
              go_wp2_with (first
                | (go_at_call 78; refine (HCS.out _).mono ?_; rintro e w' ⟨rfl, rfl⟩)
                | (go_at_call 53; go_must (refine (need_any _ _).mono ?_; intro e w' hpost; simp only [NeedPost] at hpost; obtain ⟨rfl, rfl⟩ := hpost)))
              exact ⟨rfl, UntilPost.no (hfl.out.symm.trans (by rw [HBR.out]; simp)) rfl (HR2.out.store (j' := j + 1) (by push_cast; rfl))⟩
            | true =>
              by_cases h0 : i < j
              · have h0i : (i : Int) < (j : Int) := by omega
                go_wp2_with (first
                  | (go_at_call 78; refine (HCS.out _).mono ?_; rintro e w' ⟨rfl, rfl⟩)
                  | (go_at_call 53; go_must (refine (need_any _ _).mono ?_; intro e w' hpost; simp only [NeedPost] at hpost; obtain ⟨rfl, rfl⟩ := hpost))
                  | (go_at_call 80; go_must (refine (Tryz.Builder_String_any_f w.heap.size w.heap.size l _ (HB2.out.store hbw _) ?_).mono ?_; (focus (rw [World.size_setCell]; omega)); rintro e w3 ⟨rfl, -, hb3⟩; have HR3 := Lib.hid ((HR2.out.store (j' := j + 1) (by push_cast; rfl)).below hb3 hbw (Nat.le_refl _)); clear hb3)))
                go_returns
                refine UntilPost.yes (o := acc) (rest := ws.drop (j + 1)) (hfl.out.symm.trans (by rw [HBR.out]; exact if_pos ⟨by simp, hacc.out.2 h0⟩)) (by rw [hlb.out]; rfl) ?_
                rw [List.length_drop, show ws.length - (ws.length - (j + 1)) = j + 1 by omega]
                exact HR3.out
              · have h0i : decide ((i : Int) < (j : Int)) = false := decide_eq_false (by omega)
                go_wp2_with (first
                  | (go_at_call 78; refine (HCS.out _).mono ?_; rintro e w' ⟨rfl, rfl⟩)
                  | (go_at_call 53; go_must (refine (need_any _ _).mono ?_; intro e w' hpost; simp only [NeedPost] at hpost; obtain ⟨rfl, rfl⟩ := hpost)))
                exact ⟨rfl, UntilPost.no (hfl.out.symm.trans (by rw [HBR.out, if_neg (fun h => h0 (hacc.out.1 h.2))])) rfl (HR2.out.store (j' := j + 1) (by push_cast; rfl))⟩
          · rw [decide_eq_false hx9] at h93
            by_cases hk : 0 < loopN x
            · have HNO := Lib.hid (fun h => fl_loop_none (r := ws.drop (j + 1)) (ins := ins) (acc := acc) hk h)
              have HSO := Lib.hid (fun body r' h => fl_loop_some (r := ws.drop (j + 1)) (ins := ins) (acc := acc) (body := body) (r' := r') hk h)
              have hk9 := loopN_le x
              obtain ⟨d, hxd, hd1, hd2⟩ := loopN_two hk
              have hX2 : X = ⟨#[114, d]⟩ := by
                rw [← Lib.mk_data X, hX, hxd]
              have hkd : (d.toNat : Int) = (loopN x : Int) + 48 := by
                have h49 : 49 ≤ d.toNat := by simpa [UInt8.le_iff_toNat_le] using hd1
                rw [hxd]
                simp only [loopN]
                rw [if_pos ⟨trivial, hd1, hd2⟩]
                omega
              have h0s : 0 < X.size := by rw [hX2]; show 0 < 2; omega
              have h1s : 1 < X.size := by rw [hX2]; show 1 < 2; omega
              have e3 : ((X.size : Int) == 2) = true := by rw [hX2]; rfl
              have e4 : (((X[0]'h0s).toNat : Int) == 114) = true := by subst hX2; rfl
              have hkx : ((X[1]'h1s).toNat : Int) = (loopN x : Int) + 48 := by rw [← hkd]; subst hX2; rfl
              clear hX2 hkd hd1 hd2 hxd hcs hXl hX hs hx9
              generalize loopN x = k at hk hk9 hkx HSO
              have hk57 : decide ((k : Int) + 48 ≤ 57) = true := decide_eq_true (by omega)
              cases hf : fl (ws.drop (j + 1)) true [] with
              | none =>
                have HF := Lib.hid hf
                have HR := Lib.hid (show fl (ws.drop j) ins acc = none by rw [HDR.out]; exact HNO.out hf)
                clear hf
                go_wp2_with (first
                  | (go_at_call 78; refine (HCS.out _).mono ?_; rintro e w' ⟨rfl, rfl⟩)
                  | (go_at_call 53; go_must (refine (need_any _ _).mono ?_; intro e w' hpost; simp only [NeedPost] at hpost; obtain ⟨rfl, rfl⟩ := hpost))
                  | (go_at_call 55; go_must (refine (IH.out (j + 1) true _ (by omega) (by omega) (Or.inl rfl) ((HR2.out.store (j' := j + 1) (by push_cast; rfl)).lies HL.out hgb) (HR2.out.store (j' := j + 1) (by push_cast; rfl)).rd).mono ?_; intro e w3 hpost; rw [HF.out] at hpost; obtain ⟨rfl, j3, h3⟩ := hpost; have HR3 := Lib.hid ((HR2.out.store (j' := j + 1) (by push_cast; rfl)).trans h3); clear h3)))
                exact ⟨rfl, UntilPost.no (hfl.out.symm.trans HR.out) rfl HR3.out⟩
              | some p =>
                obtain ⟨body, r'⟩ := p
                obtain ⟨hr1, hr2, hb0, hr3⟩ := fl_rest hf
                obtain ⟨hsb, hb5⟩ := fl_steps hf
                have hbl : 0 < body.length := List.length_pos_iff.2 hb0
                have hr3 := hr3 rfl
                simp only [List.length_drop] at hr1 hr2 hr3
                obtain ⟨j2, hj2⟩ : ∃ j2, ws.length - r'.length = j2 := ⟨_, rfl⟩
                have HR2' := Lib.hid (show r' = ws.drop j2 by
                  conv => lhs; rw [hr2]
                  rw [List.drop_drop]
                  congr 1
                  omega)
                have HF := Lib.hid hf
                have HSB := Lib.hid hsb
                have HR' := Lib.hid (HSO.out body r' hf)
                have hj2a : j + 1 < j2 := by omega
                have hj2b : j2 ≤ ws.length := by omega
                have HJ2 := Lib.hid hj2
                clear hf hr1 hr2 hr3 hj2 hb0 hsb
                obtain ⟨n2, hn2⟩ : ∃ n2, l.length + k * body.length = n2 := ⟨_, rfl⟩
                have hlen2 : (acc ++ (List.replicate k body).flatten).length = n2 := by rw [List.length_append, rep_length']; omega
                have HN2 := Lib.hid hn2
                have HN3 := Lib.hid hlen2
                clear hn2 hlen2
                by_cases h5 : n2 ≤ 500
                · have h5i : (n2 : Int) ≤ 500 := by omega
                  have HR := Lib.hid (show fl (ws.drop j) ins acc = fl (ws.drop j2) ins (acc ++ (List.replicate k body).flatten) by rw [HDR.out, HR'.out, if_neg (by rw [HN3.out]; omega), HR2'.out])
                  go_wp2_with (first
                    | (go_at_call 78; refine (HCS.out _).mono ?_; rintro e w' ⟨rfl, rfl⟩)
                    | (go_at_call 53; go_must (refine (need_any _ _).mono ?_; intro e w' hpost; simp only [NeedPost] at hpost; obtain ⟨rfl, rfl⟩ := hpost))
                    | (go_at_call 55; go_must (refine (IH.out (j + 1) true _ (by omega) (by omega) (Or.inl rfl) ((HR2.out.store (j' := j + 1) (by push_cast; rfl)).lies HL.out hgb) (HR2.out.store (j' := j + 1) (by push_cast; rfl)).rd).mono ?_; intro e w3 hpost; rw [HF.out] at hpost; obtain ⟨rfl, h3⟩ := hpost; rw [HJ2.out] at h3; have HR3 := Lib.hid ((HR2.out.store (j' := j + 1) (by push_cast; rfl)).trans h3); have HB3 := Lib.hid ((HB2.out.store hbw _).rdr hbw h3); have hS : (⟨body.flatten.toArray⟩ : ByteArray).data.toList = body.flatten := rfl; generalize (⟨body.flatten.toArray⟩ : ByteArray) = S at hS ⊢; have hSs : S.size ≤ 500 := (by rw [Lib.size_eq, hS, (steps_bytes HSB.out).2]; exact hb5); have hSi : (S.size : Int) ≤ 500 := (by omega); have HS := Lib.hid hS; clear hS h3))
                    | (go_at_call 81; go_must (refine (Tryz.strings_Repeat S k _ (by omega) ?_).mono ?_; (focus (have := Nat.mul_le_mul hSs hk9; omega)); rintro e w4 ⟨rfl, hb4⟩; have HR4 := Lib.hid (HR3.out.below hb4 HR3.out.lt HR3.out.size); have HB4 := Lib.hid (HB3.out.below hb4); have hR : (⟨(Lib.repeatL S.data.toList k).toArray⟩ : ByteArray).data.toList = Lib.repeatL S.data.toList k := rfl; generalize (⟨(Lib.repeatL S.data.toList k).toArray⟩ : ByteArray) = R at hR ⊢; have hRs : R.size = k * body.length := (by rw [Lib.size_eq, hR, Lib.repeatL_length, HS.out, (steps_bytes HSB.out).2]); have HRS := Lib.hid hRs; have hRl : R.size ≤ 4500 := (by have := Nat.mul_le_mul hk9 hb5; omega); have HRD := Lib.hid hR; clear hR hRs hb4))
                    | (go_at_call 79; go_must (refine (writeString_any w.heap.size w.heap.size (Lib.byteCells l) R _ HB4.out ?_ ?_).mono ?_; (focus (rw [Lib.byteCells_length]; omega)); (focus (exact HR4.out.size)); rintro e w5 ⟨rfl, h5', hb5'⟩; have HB5 := Lib.hid (Bld.wrote h5'); have HR5 := Lib.hid (HR4.out.below hb5' hbw (Nat.le_refl _)); have HLN := Lib.hid (show (Lib.byteCells (l ++ R.data.toList)).length = n2 by rw [Lib.byteCells_length, List.length_append, ← Lib.size_eq, HRS.out]; exact HN2.out); clear h5' hb5'))
                    | (go_at_call 82; go_must (refine (Tryz.Builder_Len_f w.heap.size w.heap.size _ _ HB5.out).mono ?_; rintro e w' ⟨rfl, rfl⟩; rw [HLN.out])))
                  go_roundw
                  case rel =>
                    have hn3 := HN3.out
                    have hn2 := HLN.out
                    rw [Lib.byteCells_length] at hn2
                    refine ⟨j2, acc ++ (List.replicate k body).flatten, l ++ R.data.toList, by omega, by omega, by omega, by omega, by omega, HR.out.symm.trans hfl.out, ?_, ?_, HB5.out, HR5.out⟩
                    · show _ ↔ _
                      constructor
                      · intro _; omega
                      · intro _ e
                        have := congrArg List.length e
                        rw [hn3, List.length_nil] at this
                        have h1 : 1 * 1 ≤ k * body.length := Nat.mul_le_mul hk hbl
                        have h2 := HN2.out
                        omega
                    · show _ = _
                      rw [List.flatten_append, hlb.out, rep_bytes, HRD.out, repeatL_flat, HS.out]
                  case measure => simp only [HAT.out, HR5.out.at]; omega
                · have h5i : decide ((n2 : Int) ≤ 500) = false := decide_eq_false (by omega)
                  have HR := Lib.hid (show fl (ws.drop j) ins acc = none by rw [HDR.out, HR'.out, if_pos (by rw [HN3.out]; omega)])
                  go_wp2_with (first
                    | (go_at_call 78; refine (HCS.out _).mono ?_; rintro e w' ⟨rfl, rfl⟩)
                    | (go_at_call 53; go_must (refine (need_any _ _).mono ?_; intro e w' hpost; simp only [NeedPost] at hpost; obtain ⟨rfl, rfl⟩ := hpost))
                    | (go_at_call 55; go_must (refine (IH.out (j + 1) true _ (by omega) (by omega) (Or.inl rfl) ((HR2.out.store (j' := j + 1) (by push_cast; rfl)).lies HL.out hgb) (HR2.out.store (j' := j + 1) (by push_cast; rfl)).rd).mono ?_; intro e w3 hpost; rw [HF.out] at hpost; obtain ⟨rfl, h3⟩ := hpost; rw [HJ2.out] at h3; have HR3 := Lib.hid ((HR2.out.store (j' := j + 1) (by push_cast; rfl)).trans h3); have HB3 := Lib.hid ((HB2.out.store hbw _).rdr hbw h3); have hS : (⟨body.flatten.toArray⟩ : ByteArray).data.toList = body.flatten := rfl; generalize (⟨body.flatten.toArray⟩ : ByteArray) = S at hS ⊢; have hSs : S.size ≤ 500 := (by rw [Lib.size_eq, hS, (steps_bytes HSB.out).2]; exact hb5); have hSi : (S.size : Int) ≤ 500 := (by omega); have HS := Lib.hid hS; clear hS h3))
                    | (go_at_call 81; go_must (refine (Tryz.strings_Repeat S k _ (by omega) ?_).mono ?_; (focus (have := Nat.mul_le_mul hSs hk9; omega)); rintro e w4 ⟨rfl, hb4⟩; have HR4 := Lib.hid (HR3.out.below hb4 HR3.out.lt HR3.out.size); have HB4 := Lib.hid (HB3.out.below hb4); have hR : (⟨(Lib.repeatL S.data.toList k).toArray⟩ : ByteArray).data.toList = Lib.repeatL S.data.toList k := rfl; generalize (⟨(Lib.repeatL S.data.toList k).toArray⟩ : ByteArray) = R at hR ⊢; have hRs : R.size = k * body.length := (by rw [Lib.size_eq, hR, Lib.repeatL_length, HS.out, (steps_bytes HSB.out).2]); have HRS := Lib.hid hRs; have hRl : R.size ≤ 4500 := (by have := Nat.mul_le_mul hk9 hb5; omega); have HRD := Lib.hid hR; clear hR hRs hb4))
                    | (go_at_call 79; go_must (refine (writeString_any w.heap.size w.heap.size (Lib.byteCells l) R _ HB4.out ?_ ?_).mono ?_; (focus (rw [Lib.byteCells_length]; omega)); (focus (exact HR4.out.size)); rintro e w5 ⟨rfl, h5', hb5'⟩; have HB5 := Lib.hid (Bld.wrote h5'); have HR5 := Lib.hid (HR4.out.below hb5' hbw (Nat.le_refl _)); have HLN := Lib.hid (show (Lib.byteCells (l ++ R.data.toList)).length = n2 by rw [Lib.byteCells_length, List.length_append, ← Lib.size_eq, HRS.out]; exact HN2.out); clear h5' hb5'))
                    | (go_at_call 82; go_must (refine (Tryz.Builder_Len_f w.heap.size w.heap.size _ _ HB5.out).mono ?_; rintro e w' ⟨rfl, rfl⟩; rw [HLN.out])))
                  exact ⟨rfl, UntilPost.no (hfl.out.symm.trans HR.out) rfl HR5.out⟩
            · have HR := Lib.hid (show fl (ws.drop j) ins acc = none by rw [HDR.out, fl_bad hs (by omega) hx9])
              have fin : ∀ b2, Calls Tryz.prog 53 #[.bool b2] = Calls Tryz.prog 53 #[.bool b2] := fun _ => rfl
              clear fin
              by_cases h2s : X.size = 2
              · obtain ⟨a0, d0, hxd⟩ : ∃ a0 d0, x = [a0, d0] := by
                  rw [hXl] at h2s
                  match x, h2s with
                  | [a0, d0], _ => exact ⟨a0, d0, rfl⟩
                have hX2 : X = ⟨#[a0, d0]⟩ := by
                  rw [← Lib.mk_data X, hX, hxd]
                have h0s : 0 < X.size := by omega
                have h1s : 1 < X.size := by omega
                have e3 : ((X.size : Int) == 2) = true := by rw [beq_iff_eq]; omega
                have g0 : (X[0]'h0s).toNat = a0.toNat := by subst hX2; rfl
                have g1 : (X[1]'h1s).toNat = d0.toNat := by subst hX2; rfl
                have hbad : ¬ (a0.toNat = 114 ∧ 49 ≤ d0.toNat ∧ d0.toNat ≤ 57) := by
                  intro h
                  apply hk
                  rw [hxd, loopN_pair, if_pos h]
                  omega
                rw [← g0, ← g1] at hbad
                clear hX2 g0 g1 hxd hcs hXl hX hs hx9 hk h2s
                by_cases c4 : (X[0]'h0s).toNat = 114
                · have e4 : (((X[0]'h0s).toNat : Int) == 114) = true := by rw [beq_iff_eq]; omega
                  by_cases c5 : 49 ≤ (X[1]'h1s).toNat
                  · have e5 : (49 : Int) ≤ ((X[1]'h1s).toNat : Int) := by omega
                    have e6 : decide (((X[1]'h1s).toNat : Int) ≤ 57) = false := decide_eq_false (by omega)
                    clear c4 c5 hbad
                    go_wp2_with (first
                      | (go_at_call 78; refine (HCS.out _).mono ?_; rintro e w' ⟨rfl, rfl⟩)
                      | (go_at_call 53; go_must (refine (need_any _ _).mono ?_; intro e w' hpost; simp only [NeedPost] at hpost; obtain ⟨rfl, rfl⟩ := hpost)))
                    exact ⟨rfl, UntilPost.no (hfl.out.symm.trans HR.out) rfl (HR2.out.store (j' := j + 1) (by push_cast; rfl))⟩
                  · have e5 : decide ((49 : Int) ≤ ((X[1]'h1s).toNat : Int)) = false := decide_eq_false (by omega)
                    clear c4 c5 hbad
                    go_wp2_with (first
                      | (go_at_call 78; refine (HCS.out _).mono ?_; rintro e w' ⟨rfl, rfl⟩)
                      | (go_at_call 53; go_must (refine (need_any _ _).mono ?_; intro e w' hpost; simp only [NeedPost] at hpost; obtain ⟨rfl, rfl⟩ := hpost)))
                    exact ⟨rfl, UntilPost.no (hfl.out.symm.trans HR.out) rfl (HR2.out.store (j' := j + 1) (by push_cast; rfl))⟩
                · have e4 : (((X[0]'h0s).toNat : Int) == 114) = false := by rw [beq_eq_false_iff_ne]; omega
                  clear c4 hbad
                  go_wp2_with (first
                    | (go_at_call 78; refine (HCS.out _).mono ?_; rintro e w' ⟨rfl, rfl⟩)
                    | (go_at_call 53; go_must (refine (need_any _ _).mono ?_; intro e w' hpost; simp only [NeedPost] at hpost; obtain ⟨rfl, rfl⟩ := hpost)))
                  exact ⟨rfl, UntilPost.no (hfl.out.symm.trans HR.out) rfl (HR2.out.store (j' := j + 1) (by push_cast; rfl))⟩
              · have e3 : ((X.size : Int) == 2) = false := by rw [beq_eq_false_iff_ne]; omega
                clear hcs hXl hX hs hx9 hk h2s
                go_wp2_with (first
                  | (go_at_call 78; refine (HCS.out _).mono ?_; rintro e w' ⟨rfl, rfl⟩)
                  | (go_at_call 53; go_must (refine (need_any _ _).mono ?_; intro e w' hpost; simp only [NeedPost] at hpost; obtain ⟨rfl, rfl⟩ := hpost)))
                exact ⟨rfl, UntilPost.no (hfl.out.symm.trans HR.out) rfl (HR2.out.store (j' := j + 1) (by push_cast; rfl))⟩
      · obtain rfl : j = ws.length := by omega
        have hfl2 := hfl.out
        rw [List.drop_length, fl_nil] at hfl2
        have HFL2 := Lib.hid hfl2
        clear hfl2
        go_wp2_with fail
        go_quiet (fail)
        have R1 := hrd.out.nq nq
        have B1 : Bld w.heap.size w.heap.size l (wr.drewN nq) := hbld.out.same (fun _ _ _ => rfl)
        clear c0 c1 hbld hrd hsz
        generalize wr.drewN nq = wy at R1 B1 ⊢
        have HR1 := Lib.hid R1
        have HB1 := Lib.hid B1
        have hsz := R1.size
        clear R1 B1
        cases ins with
        | true =>
          go_wp2_with (first
            | (go_at_call 53; go_must (refine (need_any _ _).mono ?_; intro e w' hpost; simp only [NeedPost] at hpost; obtain ⟨rfl, rfl⟩ := hpost)))
          exact ⟨rfl, UntilPost.no (HFL2.out.symm.trans (by simp)) rfl HR1.out⟩
        | false =>
          have hlt2 : i < ws.length := HIN.out.elim (fun h => by cases h) id
          have hne := hacc.out.2 hlt2
          have hem : acc.isEmpty = false := by cases acc with
            | nil => exact absurd rfl hne
            | cons _ _ => rfl
          go_wp2_with (first
            | (go_at_call 53; go_must (refine (need_any _ _).mono ?_; intro e w' hpost; simp only [NeedPost] at hpost; obtain ⟨rfl, rfl⟩ := hpost))
            | (go_at_call 80; go_must (refine (Tryz.Builder_String_any_f w.heap.size w.heap.size l _ HB1.out hsz).mono ?_; rintro e w3 ⟨rfl, -, hb3⟩; have HR3 := Lib.hid (HR1.out.below hb3 hbw (Nat.le_refl _)); clear hb3)))
          go_returns
          exact UntilPost.yes (o := acc) (rest := []) (HFL2.out.symm.trans (by rw [hem]; rfl)) (by rw [hlb.out]; rfl) HR3.out
end Go.Proofs.YthojdoiffkdikaaGreatDoor
