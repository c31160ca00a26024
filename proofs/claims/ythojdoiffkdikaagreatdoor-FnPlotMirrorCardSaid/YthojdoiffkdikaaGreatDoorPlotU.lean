/- Plotter programs: the steps of words (the reference). -/
import Derived.Test.YthojdoiffkdikaaGreatDoorPlotS
namespace Go.Proofs.YthojdoiffkdikaaGreatDoor
open Go.RowKit Go.PlotT

theorem l12Step_of (X : ByteArray) (x : Wd) (hX : X.data.toList = x) (w : World) :
    Calls Tryz.prog 124 #[.string X] w fun e w' => e = .returned (.bool (isSt x)) ∧ w = w' := by
  have h := l12Step_any X w
  rw [Lib.toList_data, hX] at h
  exact h
theorem l12Loop_of (X : ByteArray) (x : Wd) (hX : X.data.toList = x) (w : World) :
    Calls Tryz.prog 123 #[.string X] w fun e w' => e = .returned (.int .i64 (loopN x)) ∧ w = w' := by
  have h := l12Loop_any X w
  rw [hX] at h
  exact h

/-- Words that lie in memory. -/
def Lies (w : World) (g : Nat) (ws : List Wd) : Prop := g < w.heap.size ∧ ∀ j x, ws[j]? = some x → w.cell? ⟨g, j, none⟩ = some (bstr x)
theorem Lies.below {w w' : World} {g : Nat} {ws : List Wd} {B : Nat} (h : Lies w g ws) (hb : Below B w w') (hB : g < B) : Lies w' g ws :=
  ⟨by have := hb.size; have := h.1; omega, fun j x hx => (hb.cell (p := ⟨g, j, none⟩) hB).trans (h.2 j x hx)⟩
theorem OwnsW.lies {w : World} {B g cap : Nat} {ws : List Wd} (h : OwnsW w B (.slice (some ⟨g, 0, none⟩) ws.length cap) ws) : Lies w g ws := ⟨h.lt.2, fun _ _ hx => h.cell hx⟩
/-- What reading the steps of words gives. -/
def FlatPost (w : World) (ws : List Wd) (r : Option (List Wd × List Wd)) (e : Ending) (w' : World) : Prop :=
  match r with
  | some (o, rest) => ∃ g cap, e = .returned (.tuple #[.slice (some ⟨g, 0, none⟩) o.length cap, .int .i64 ((ws.length - rest.length : Nat) : Int)]) ∧ OwnsW w' w.heap.size (.slice (some ⟨g, 0, none⟩) o.length cap) o ∧ Below w.heap.size w w'
  | none => ∃ (g cap : Nat) (o : List Wd), e = .returned (.tuple #[.slice (some ⟨g, 0, none⟩) o.length cap, .int .i64 (-1)]) ∧ OwnsW w' w.heap.size (.slice (some ⟨g, 0, none⟩) o.length cap) o ∧ (∀ x ∈ o, isSt x = true) ∧ o.length ≤ 1000 ∧ Below w.heap.size w w'
theorem FlatPost.some {w w' : World} {ws o rest : List Wd} {r : Option (List Wd × List Wd)} (hr : r = some (o, rest)) {g cap : Nat} {e : Ending}
    (he : e = .returned (.tuple #[.slice (some ⟨g, 0, none⟩) o.length cap, .int .i64 ((ws.length - rest.length : Nat) : Int)])) (ho : OwnsW w' w.heap.size (.slice (some ⟨g, 0, none⟩) o.length cap) o) (hb : Below w.heap.size w w') : FlatPost w ws r e w' := by
  rw [hr]; exact ⟨g, cap, he, ho, hb⟩
theorem flatPost_none {w w' : World} {ws o : List Wd} {r : Option (List Wd × List Wd)} (hr : r = Option.none) {g cap : Nat} {e : Ending}
    (ho : OwnsW w' w.heap.size (.slice (some ⟨g, 0, none⟩) o.length cap) o) (hs : ∀ x ∈ o, isSt x = true) (hl : o.length ≤ 1000) (he : e = .returned (.tuple #[.slice (some ⟨g, 0, none⟩) o.length cap, .int .i64 (-1)])) (hb : Below w.heap.size w w') : FlatPost w ws r e w' := by
  rw [hr]; exact ⟨g, cap, o, he, ho, hs, hl, hb⟩
theorem steps_snoc {acc : List Wd} {x : Wd} (h : ∀ w ∈ acc, isSt w = true) (hx : isSt x = true) : ∀ w ∈ acc ++ [x], isSt w = true := by
  intro w hw
  rcases List.mem_append.1 hw with hw | hw
  · exact h w hw
  · rw [List.mem_singleton.1 hw]; exact hx
theorem steps_rep {acc body : List Wd} {k : Nat} (h : ∀ w ∈ acc, isSt w = true) (hx : ∀ w ∈ body, isSt w = true) : ∀ w ∈ acc ++ (List.replicate k body).flatten, isSt w = true := by
  intro w hw
  rcases List.mem_append.1 hw with hw | hw
  · exact h w hw
  · obtain ⟨y, hy, hw⟩ := List.mem_flatten.1 hw
    rw [List.eq_of_mem_replicate hy] at hw
    exact hx w hw
theorem drop_at {ws : List Wd} {i : Nat} (h : i < ws.length) : ws.drop i = ws[i] :: ws.drop (i + 1) := List.drop_eq_getElem_cons h

theorem rep_length' (k : Nat) (body : List Wd) : ((List.replicate k body).flatten).length = k * body.length := by simp
theorem rep_succ' (k : Nat) (body : List Wd) : (List.replicate (k + 1) body).flatten = (List.replicate k body).flatten ++ body := by
  rw [List.replicate_succ', List.flatten_append]; simp

set_option maxRecDepth 100000 in
set_option maxHeartbeats 4000000 in
theorem l12Flat_any (ws : List Wd) (g cap : Nat) (hws : ws.length ≤ 1048577) : ∀ (n i : Nat) (z : Int) (ins : Bool) (w : World), ws.length - i < n → i ≤ ws.length → z = i → Lies w g ws →
    Calls Tryz.prog 76 #[.slice (some ⟨g, 0, none⟩) ws.length cap, .int .i64 z, .bool ins] w (FlatPost w ws (fl (ws.drop i) ins [])) := by
  intro n
  induction n with
  | zero => intro i z ins w h1; omega
  | succ n ih =>
    intro i z ins w h1 h2 hz hl
    subst hz
    have IH := Lib.hid ih
    have HL := Lib.hid hl
    have hg : g < w.heap.size := hl.1
    clear ih hl
    go_enter Tryz.func76, Tryz.ntmps76
    go_wp2_with fail
    go_loopw [1, 8] (fun s1 s8 wr => ∃ (j g8 cap8 : Nat) (acc : List Wd), s1 = .int .i64 j ∧ s8 = .slice (some ⟨g8, 0, none⟩) acc.length cap8 ∧ i ≤ j ∧ j ≤ ws.length ∧ acc.length ≤ 500 ∧ Hid (∀ w ∈ acc, isSt w = true) ∧ Hid (fl (ws.drop j) ins acc = fl (ws.drop i) ins []) ∧ Hid (OwnsW wr w.heap.size (.slice (some ⟨g8, 0, none⟩) acc.length cap8) acc) ∧ Below w.heap.size w wr) (fun s1 _ _ => ws.length - (intOf s1).toNat)
    case atStart => exact ⟨i, _, _, [], rfl, rfl, by omega, by omega, by simp, (by intro w hw; simp at hw), rfl, OwnsW.lit _ _ #[] [] (Nat.le_refl _) rfl (by simp) rfl, by repeat' (first | (with_reducible exact Below.refl _ _) | (with_reducible assumption) | (with_reducible refine Below.alloc ?_ ?_ _) | (with_reducible refine below_more ?_ ?_ _ _) | (with_reducible refine below_rd ?_ ?_ _ _) | (with_reducible refine Below.drew ?_) | (with_reducible refine Below.setCell ?_ ?_ _) | go_size)⟩
    case round =>
      obtain ⟨wo, hwo⟩ : ∃ wo, wo = wr := ⟨_, rfl⟩
      subst hwo
      obtain ⟨j, g8, cap8, acc, rfl, rfl, hij, hj, ha, hst, hfl, hown, hbel⟩ := hrel
      have hsz := hbel.size
      by_cases hlt : j < ws.length
      · obtain ⟨x, hx⟩ : ∃ x, ws[j]? = some x := ⟨_, List.getElem?_eq_getElem hlt⟩
        have hdrop : ws.drop j = x :: ws.drop (j + 1) := by
          obtain ⟨h, e⟩ := List.getElem?_eq_some_iff.1 hx
          rw [drop_at h, e]
        have HW := Lib.hid (HL.out.below hbel hg)
        have hX : (⟨x.toArray⟩ : ByteArray).data.toList = x := rfl
        have hcell : wo.cell? ⟨g, j, none⟩ = some (.string ⟨x.toArray⟩) := HW.out.2 j x hx
        generalize (⟨x.toArray⟩ : ByteArray) = X at hX hcell
        have HX := Lib.hid hX
        have HDR := Lib.hid hdrop
        clear hdrop hx
        have hcs := l12Step_of X x hX
        have hcl := l12Loop_of X x hX
        have h93 : (X.toList == [93]) = decide (x = [93]) := by rw [Lib.toList_data, hX]; rw [Bool.eq_iff_iff]; simp
        rcases Bool.eq_false_or_eq_true (isSt x) with hs | hs
        · have HSN := Lib.hid (steps_snoc hst.out hs)
          rw [hs] at hcs
          have HCS := Lib.hid hcs
          have HCL := Lib.hid hcl
          clear hcs hcl h93 hX
          by_cases h5 : acc.length + 1 ≤ 500
          · have HR := Lib.hid (show fl (ws.drop j) ins acc = fl (ws.drop (j + 1)) ins (acc ++ [x]) by rw [HDR.out, fl_step hs, if_neg (by simp; omega)])
            clear hs
            go_wp2_with (first
            | (go_at_call 124; refine (HCS.out _).mono ?_; rintro e w' ⟨rfl, rfl⟩)
            | (go_at_call 123; refine (HCL.out _).mono ?_; rintro e w' ⟨rfl, rfl⟩)
            | (at_builtin; go_must (refine wpList_append_words rfl _ _ rfl w.heap.size acc [X.data.toList] (.slice (some ⟨g8, 0, none⟩) acc.length cap8) rfl (OwnsW.alloc hown.out _) wo.heap.size 1 1 rfl rfl ?_ (by omega) (by omega) (by rw [World.size_alloc]; omega) ?_; (focus (exact one_cell _ _)); intro g2 cap2 w2 hown2 hgrow hat hb2; have HO2 := Lib.hid hown2; have HB2 := Lib.hid (hbel.trans (((Below.refl _ wo).alloc (Nat.le_refl _) _).mono hsz |>.trans hb2)); clear hown2 hgrow hat hb2)))
            go_roundw
            case rel => exact ⟨j + 1, g2, cap2, acc ++ [x], by go_num, by simp, by omega, by omega, by simp; omega, HSN.out, HR.out.symm.trans hfl.out, by rw [List.length_append, ← HX.out]; exact HO2.out, HB2.out⟩
            case measure => simp [intOf]; omega
          · have HR := Lib.hid (show fl (ws.drop j) ins acc = none by rw [HDR.out, fl_step hs, if_pos (by simp; omega)])
            clear hs
            go_wp2_with (first
            | (go_at_call 124; refine (HCS.out _).mono ?_; rintro e w' ⟨rfl, rfl⟩)
            | (go_at_call 123; refine (HCL.out _).mono ?_; rintro e w' ⟨rfl, rfl⟩)
            | (at_builtin; go_must (refine wpList_append_words rfl _ _ rfl w.heap.size acc [X.data.toList] (.slice (some ⟨g8, 0, none⟩) acc.length cap8) rfl (OwnsW.alloc hown.out _) wo.heap.size 1 1 rfl rfl ?_ (by omega) (by omega) (by rw [World.size_alloc]; omega) ?_; (focus (exact one_cell _ _)); intro g2 cap2 w2 hown2 hgrow hat hb2; have HO2 := Lib.hid hown2; have HB2 := Lib.hid (hbel.trans (((Below.refl _ wo).alloc (Nat.le_refl _) _).mono hsz |>.trans hb2)); clear hown2 hgrow hat hb2)))
            go_returns
            refine flatPost_none (o := acc ++ [x]) (g := g2) (cap := cap2) (hfl.out.symm.trans HR.out) ?_ HSN.out (by simp; omega) ?_ HB2.out
            · rw [List.length_append, ← HX.out]; exact HO2.out
            · rw [List.length_append]; rfl
        · rw [hs] at hcs
          have HCS := Lib.hid hcs
          by_cases hk : 0 < loopN x
          · have hk9 := loopN_le x
            have HNO := Lib.hid (fun h => fl_loop_none (r := ws.drop (j + 1)) (ins := ins) (acc := acc) hk h)
            have HSO := Lib.hid (fun body r' h => fl_loop_some (r := ws.drop (j + 1)) (ins := ins) (acc := acc) (body := body) (r' := r') hk h)
            clear hcs h93 hX
            generalize loopN x = k at hk hk9 hcl HSO
            have HCL := Lib.hid hcl
            clear hcl hs
            cases hf : fl (ws.drop (j + 1)) true [] with
            | none =>
              have HF := Lib.hid hf
              have HR := Lib.hid (show fl (ws.drop j) ins acc = none by rw [HDR.out]; exact HNO.out hf)
              clear hf
              go_wp2_with (first
            | (go_at_call 124; refine (HCS.out _).mono ?_; rintro e w' ⟨rfl, rfl⟩)
            | (go_at_call 123; refine (HCL.out _).mono ?_; rintro e w' ⟨rfl, rfl⟩)
            | (go_at_call 76; go_must (refine (IH.out (j + 1) _ true _ (by omega) (by omega) (by push_cast; rfl) HW.out).mono ?_; intro e w2 hpost; rw [HF.out] at hpost; obtain ⟨g3, c3, o3, rfl, -, -, -, hb2⟩ := hpost; have HO8 := Lib.hid (hown.out.below hb2); have HB2 := Lib.hid (hbel.trans (hb2.mono hsz)); clear hb2)))
              go_returns
              exact flatPost_none (hfl.out.symm.trans HR.out) HO8.out hst.out (by omega) rfl HB2.out
            | some p =>
              obtain ⟨body, r'⟩ := p
              obtain ⟨hr1, hr2, hb0, hr3⟩ := fl_rest hf
              have hb5 := (fl_steps hf).2
              have HSB := Lib.hid (fl_steps hf).1
              have hbl : 0 < body.length := List.length_pos_iff.2 hb0
              have hr3 := hr3 rfl
              simp only [List.length_drop] at hr1 hr2 hr3
              obtain ⟨j2, hj2⟩ : ∃ j2, ws.length - r'.length = j2 := ⟨_, rfl⟩
              have HR2 := Lib.hid (show r' = ws.drop j2 by
                conv => lhs; rw [hr2]
                rw [List.drop_drop]
                congr 1
                omega)
              have HF := Lib.hid hf
              have HR := Lib.hid (HSO.out body r' hf)
              have hj2a : j + 1 < j2 := by omega
              have hj2b : j2 ≤ ws.length := by omega
              have HJ2 := Lib.hid hj2
              clear hf hr1 hr2 hr3 hj2 hb0
              have hpr : (body.length : Int) * (k : Int) = ((body.length * k : Nat) : Int) := by push_cast; rfl
              have hle : body.length * k ≤ 4500 := Nat.le_trans (Nat.mul_le_mul hb5 hk9) (by decide)
              have hcm : k * body.length = body.length * k := Nat.mul_comm _ _
              have HCM := Lib.hid hcm
              have hpm : ∀ m, m ≤ k → m * body.length ≤ body.length * k := fun m hm => by rw [← hcm]; exact Nat.mul_le_mul hm (Nat.le_refl _)
              have HPM := Lib.hid hpm
              clear hpm hcm
              generalize body.length * k = pr at hpr hle HCM HPM
              by_cases h5 : pr ≤ 500
              · have HPR := Lib.hid hpr
                go_wp2_with (first
            | (go_at_call 124; refine (HCS.out _).mono ?_; rintro e w' ⟨rfl, rfl⟩)
            | (go_at_call 123; refine (HCL.out _).mono ?_; rintro e w' ⟨rfl, rfl⟩)
            | (go_at_call 76; go_must (refine (IH.out (j + 1) _ true _ (by omega) (by omega) (by push_cast; rfl) HW.out).mono ?_; intro e w2 hpost; rw [HF.out] at hpost; obtain ⟨gb, capb, rfl, hob, hb2⟩ := hpost; rw [HJ2.out]; have hob2 := hob.lt; have HOB := Lib.hid hob; have HB2 := Lib.hid (hbel.trans (hb2.mono hsz)); have hsz2 := hb2.size; have HO8 := Lib.hid (hown.out.below hb2); have hg8 := hown.out.lt; clear hb2 hob)))
                go_loopw [8, 13] (fun s8 s13 wr => ∃ (m g9 cap9 : Nat) (acc' : List Wd), m ≤ k ∧ s13 = .int .i64 m ∧ s8 = .slice (some ⟨g9, 0, none⟩) acc'.length cap9 ∧ Hid (acc' = acc ++ (List.replicate m body).flatten) ∧ Hid (OwnsW wr w.heap.size (.slice (some ⟨g9, 0, none⟩) acc'.length cap9) acc') ∧ Hid (OwnsW wr wo.heap.size (.slice (some ⟨gb, 0, none⟩) body.length capb) body) ∧ ¬ gb = g9 ∧ Hid (Below w.heap.size w wr) ∧ w2.heap.size ≤ wr.heap.size) (fun _ s13 _ => k - (intOf s13).toNat)
                case atStart => exact ⟨0, g8, cap8, acc, by omega, rfl, rfl, (show acc = acc ++ (List.replicate 0 body).flatten by simp), HO8.out, HOB.out, by omega, HB2.out, by omega⟩
                case round =>
                  obtain ⟨m, g9, cap9, acc', hm, rfl, rfl, hacc, ho9, hobq, hne, hbq, hszq⟩ := hrel
                  have hal : acc'.length = acc.length + m * body.length := by rw [hacc.out, List.length_append, rep_length']
                  have hpm := HPM.out m hm
                  have hal2 : acc'.length ≤ 1000 := by omega
                  by_cases hmk : m < k
                  · have HAL := Lib.hid hal
                    have HPM2 := Lib.hid hpm
                    clear hal hpm
                    have hob3 : ∀ j u, body[j]? = some u → wr.cell? ⟨gb, j, none⟩ = some (bstr u) := hobq.out.lies.2
                    have HOB3 := Lib.hid hob3
                    clear hob3
                    go_wp2_with (at_builtin; go_must (refine wpList_append_words rfl _ _ rfl w.heap.size acc' body (.slice (some ⟨g9, 0, none⟩) acc'.length cap9) rfl ho9.out gb body.length capb rfl rfl HOB3.out hbl (by omega) (by omega) ?_; intro g2 cap2 w3 hown2 hgrow hat hb2; have HO2 := Lib.hid hown2; have HB3 := Lib.hid (hbq.out.trans hb2); have HOB4 := Lib.hid (hobq.out.kept hgrow (Or.inr (by intro e; simp [Value.ownBlock] at e; exact hne e))); have hne2 : ¬ gb = g2 := (by intro e; subst e; rcases hat with h | h; (simp [Value.ownBlock] at h; exact hne h.symm); omega); have hsz3 := hgrow.size; clear hown2 hgrow hat hb2))
                    go_roundw
                    case rel =>
                      refine ⟨m + 1, g2, cap2, acc' ++ body, by omega, by go_num, by rw [List.length_append], ?_, ?_, HOB4.out, hne2, HB3.out, by omega⟩
                      · show _ = _
                        rw [hacc.out, List.append_assoc, ← rep_succ']
                      · show OwnsW _ _ _ _
                        rw [List.length_append]; exact HO2.out
                    case measure => simp [intOf]; omega
                  · obtain rfl : m = k := by omega
                    have hmp : m * body.length = pr := HCM.out
                    have HSA := Lib.hid (show ∀ w ∈ acc', isSt w = true by rw [hacc.out]; exact steps_rep hst.out HSB.out)
                    by_cases h6 : acc.length + pr ≤ 500
                    · have HR3 := Lib.hid (show fl (ws.drop j) ins acc = fl (ws.drop j2) ins acc' by rw [HDR.out, HR.out, ← hacc.out, if_neg (by omega), HR2.out])
                      go_wp2_with fail
                      go_roundw
                      case rel => exact ⟨j2, g9, cap9, acc', rfl, rfl, by omega, by omega, by omega, HSA.out, HR3.out.symm.trans hfl.out, ho9.out, hbq.out⟩
                      case measure => simp [intOf]; omega
                    · have HR3 := Lib.hid (show fl (ws.drop j) ins acc = none by rw [HDR.out, HR.out, ← hacc.out, if_pos (by omega)])
                      go_wp2_with fail
                      go_returns
                      exact flatPost_none (hfl.out.symm.trans HR3.out) ho9.out HSA.out hal2 rfl hbq.out
              · have HRN := Lib.hid (show fl (ws.drop j) ins acc = none by rw [HDR.out, HR.out, if_pos (by rw [List.length_append, rep_length', HCM.out]; omega)])
                go_wp2_with (first
            | (go_at_call 124; refine (HCS.out _).mono ?_; rintro e w' ⟨rfl, rfl⟩)
            | (go_at_call 123; refine (HCL.out _).mono ?_; rintro e w' ⟨rfl, rfl⟩)
            | (go_at_call 76; go_must (refine (IH.out (j + 1) _ true _ (by omega) (by omega) (by push_cast; rfl) HW.out).mono ?_; intro e w2 hpost; rw [HF.out] at hpost; obtain ⟨gb, capb, rfl, hob, hb2⟩ := hpost; rw [HJ2.out]; have HO8 := Lib.hid (hown.out.below hb2); have HB2 := Lib.hid (hbel.trans (hb2.mono hsz)); clear hb2 hob)))
                go_returns
                exact flatPost_none (hfl.out.symm.trans HRN.out) HO8.out hst.out (by omega) rfl HB2.out
          · have h0 : loopN x = 0 := by omega
            rw [h0] at hcl
            have HCL := Lib.hid hcl
            by_cases hx9 : x = [93]
            · rw [decide_eq_true hx9] at h93
              subst hx9
              have hbr := fl_bracket (r := ws.drop (j + 1)) (ins := ins) (acc := acc)
              clear hcs hcl hX hs hk h0
              cases ins with
              | false =>
                have HR := Lib.hid (show fl (ws.drop j) false acc = none by rw [HDR.out, hbr]; simp)
                clear hbr
                go_wp2_with (first
            | (go_at_call 124; refine (HCS.out _).mono ?_; rintro e w' ⟨rfl, rfl⟩)
            | (go_at_call 123; refine (HCL.out _).mono ?_; rintro e w' ⟨rfl, rfl⟩))
                go_returns
                exact flatPost_none (hfl.out.symm.trans HR.out) hown.out hst.out (by omega) rfl hbel
              | true =>
                by_cases h0 : 0 < acc.length
                · have HR := Lib.hid (show fl (ws.drop j) true acc = some (acc, ws.drop (j + 1)) by rw [HDR.out, hbr, if_pos ⟨rfl, List.length_pos_iff.1 h0⟩])
                  clear hbr
                  go_wp2_with (first
            | (go_at_call 124; refine (HCS.out _).mono ?_; rintro e w' ⟨rfl, rfl⟩)
            | (go_at_call 123; refine (HCL.out _).mono ?_; rintro e w' ⟨rfl, rfl⟩))
                  go_returns
                  refine FlatPost.some (hfl.out.symm.trans HR.out) (g := g8) (cap := cap8) ?_ hown.out hbel
                  rw [List.length_drop, show ws.length - (ws.length - (j + 1)) = j + 1 by omega]
                  rfl
                · have HR := Lib.hid (show fl (ws.drop j) true acc = none by rw [HDR.out, hbr, if_neg (fun e => h0 (List.length_pos_iff.2 e.2))])
                  clear hbr
                  go_wp2_with (first
            | (go_at_call 124; refine (HCS.out _).mono ?_; rintro e w' ⟨rfl, rfl⟩)
            | (go_at_call 123; refine (HCL.out _).mono ?_; rintro e w' ⟨rfl, rfl⟩))
                  go_returns
                  exact flatPost_none (hfl.out.symm.trans HR.out) hown.out hst.out (by omega) rfl hbel
            · rw [decide_eq_false hx9] at h93
              have HR := Lib.hid (show fl (ws.drop j) ins acc = none by rw [HDR.out, fl_bad hs h0 hx9])
              clear hcs hcl hX hs hk h0 hx9
              go_wp2_with (first
            | (go_at_call 124; refine (HCS.out _).mono ?_; rintro e w' ⟨rfl, rfl⟩)
            | (go_at_call 123; refine (HCL.out _).mono ?_; rintro e w' ⟨rfl, rfl⟩))
              go_returns
              exact flatPost_none (hfl.out.symm.trans HR.out) hown.out hst.out (by omega) rfl hbel
      · obtain rfl : j = ws.length := by omega
        have hfl2 := hfl.out
        rw [List.drop_length, fl_nil] at hfl2
        cases ins with
        | true =>
          have HR := Lib.hid hfl2.symm
          clear hfl2
          go_wp2_with fail
          go_returns
          exact flatPost_none HR.out hown.out hst.out (by omega) rfl hbel
        | false =>
          by_cases h0 : 0 < acc.length
          · have hne : acc.isEmpty = false := by cases acc <;> simp_all
            rw [hne] at hfl2
            have HR := Lib.hid hfl2.symm
            clear hfl2 hne
            go_wp2_with fail
            go_returns
            refine FlatPost.some HR.out (g := g8) (cap := cap8) rfl hown.out hbel
          · have hne : acc.isEmpty = true := by cases acc <;> simp_all
            rw [hne] at hfl2
            have HR := Lib.hid hfl2.symm
            clear hfl2 hne
            go_wp2_with fail
            go_returns
            exact flatPost_none HR.out hown.out hst.out (by omega) rfl hbel
end Go.Proofs.YthojdoiffkdikaaGreatDoor
