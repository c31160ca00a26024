/- Plotter programs written out (the program). -/
import Derived.Test.YthojdoiffkdikaaDoorPlotN
import Derived.Lib.Explode
namespace Go.Proofs.YthojdoiffkdikaaDoor
open Go.RowKit Go.PlotT

/-- The text of the steps of a program. -/
def flatR (r : Option (List Wd)) : Wd × Bool := match r with
  | some o => if (jn o).length ≤ 400 then (jn o, true) else ([], false)
  | none => ([], false)
def FlatOut (w : World) (l : Wd) (e : Ending) (w' : World) : Prop := e = .returned (.tuple #[.string ⟨(flatR (prog l)).1.toArray⟩, .bool (flatR (prog l)).2]) ∧ Below w.heap.size w w'
theorem FlatOut.no {w w' : World} {l : Wd} {e : Ending} (h : flatR (prog l) = ([], false)) (he : e = .returned (.tuple #[.string ⟨#[]⟩, .bool false])) (hb : Below w.heap.size w w') : FlatOut w l e w' := by
  refine ⟨?_, hb⟩
  rw [he, h]
theorem stepsB_steps (l : Wd) : ∀ b ∈ stepsB l, b.toNat < 128 := by
  unfold stepsB
  split
  · next o h =>
    rw [prog_eq] at h
    split at h
    · cases h
    · obtain ⟨⟨a, b⟩, hf, e⟩ := Option.map_eq_some_iff.1 h
      simp only at e
      subst e
      obtain ⟨h1, -⟩ := fl_steps hf
      intro c hc
      obtain ⟨x, hx, hc⟩ := List.mem_flatten.1 hc
      obtain ⟨d, rfl⟩ := isSt_one (h1 x hx)
      have h2 := h1 _ hx
      rw [List.mem_singleton.1 hc]
      simp only [isSt, Bool.or_eq_true, beq_iff_eq] at h2
      rcases h2 with (((((rfl | rfl) | rfl) | rfl) | rfl) | rfl) | rfl <;> decide
  · simp
theorem jn_one_length : ∀ (bs : Wd), (jn (bs.map fun c => [c])).length ≤ 2 * bs.length
  | [] => by simp
  | [a] => by simp
  | a :: b :: l => by
    have ih := jn_one_length (b :: l)
    simp only [List.map_cons, List.length_cons] at ih ⊢
    rw [jn_cons]
    simp only [List.length_append, List.length_cons, List.length_nil]
    omega
/-- The bytes of a string, one by one. -/
theorem split_bytes (B : ByteArray) (bs : Wd) (hB : B.data.toList = bs) (hs : bs.length ≤ 1000) (ha : ∀ b ∈ bs, b.toNat < 128) (w : World) :
    Calls Tryd.prog 35 #[.string B, .string ⟨#[]⟩] w fun e w' => ∃ g, e = .returned (.slice (some ⟨g, 0, none⟩) (bs.map fun c => [c]).length (bs.map fun c => [c]).length) ∧ Lies w' g (bs.map fun c => [c]) ∧ Below w.heap.size w w' := by
  have hsz : B.size = (bs.map fun c => [c]).length := by rw [Lib.size_eq, hB, List.length_map]
  refine (Tryd.strings_Split_chars B ⟨#[]⟩ w rfl (by rw [hsz, List.length_map]; omega) (fun j b hb => ha b (by rw [← hB]; exact List.mem_of_getElem? hb))).mono ?_
  rintro e w' ⟨rfl, hw⟩
  refine ⟨(w.iter B B.size).heap.size, by rw [hsz], ⟨by rw [hw, World.size_alloc]; omega, fun j x hx => ?_⟩, ?_⟩
  · rw [hw, new_cell, List.getElem?_toArray, List.getElem?_map]
    have h := Lib.chars_data B
    rw [hB] at h
    rw [← h, List.getElem?_map] at hx
    obtain ⟨y, hy, rfl⟩ := Option.map_eq_some_iff.1 hx
    rw [hy, bstr_data]; rfl
  · rw [hw]
    have h1 : Below w.heap.size w (w.iter B B.size) := (Below.refl _ w).alloc (Nat.le_refl _) _
    exact h1.alloc h1.size _
set_option maxRecDepth 100000 in
set_option maxHeartbeats 2000000 in
theorem plotFlat_any (s : ByteArray) (m : Int) (w : World) (hm : w.cell? ⟨0, 0, none⟩ = some (.int .i64 m)) :
    Calls Tryd.prog 12 #[.string s] w (FlatOut w s.data.toList) := by
  have HM := Lib.hid hm
  have hBl := stepsB_le s.data.toList
  have hBa := stepsB_steps s.data.toList
  have hBd : (⟨(stepsB s.data.toList).toArray⟩ : ByteArray).data.toList = stepsB s.data.toList := rfl
  generalize hbs : stepsB s.data.toList = bs at hBl hBa hBd
  have HBS := Lib.hid hbs
  have HBA := Lib.hid hBa
  have hjl := jn_one_length bs
  have hcl : (bs.map fun c => [c]).length = bs.length := by simp
  obtain ⟨cs, hcs⟩ : ∃ cs, (bs.map fun c => [c]) = cs := ⟨_, rfl⟩
  rw [hcs] at hjl hcl
  have HCS := Lib.hid hcs
  have HCL := Lib.hid hcl
  have hcl2 : cs.length ≤ 1000 := by omega
  clear hm hBa hcs hcl
  cases hp : prog s.data.toList with
  | none =>
    have HPS := Lib.hid (show (prog s.data.toList).isSome = false by rw [hp]; rfl)
    have HF := Lib.hid (show flatR (prog s.data.toList) = ([], false) by rw [hp]; rfl)
    clear hp
    go_enter Tryd.func12, Tryd.ntmps12
    go_wp2_with (first
      | (go_at_call 23; go_must (refine (stepsOf_any s m _ HM.out).mono ?_; rintro e w1 ⟨rfl, hb⟩; rw [HPS.out, HBS.out]; generalize (⟨bs.toArray⟩ : ByteArray) = B at hBd ⊢; have HB := Lib.hid hb; have hsz := hb.size; clear hb))
      | (go_at_call 35; go_must (refine (split_bytes B bs hBd (by omega) HBA.out _).mono ?_; rintro e w2 ⟨g, rfl, hl, hb2⟩; rw [HCS.out] at hl ⊢; have HL := Lib.hid hl; have HB2 := Lib.hid (HB.out.trans (hb2.mono hsz)); have hsz2 := hb2.size; clear hl hb2))
      | (go_at_call 27; go_must (refine (join_words cs g cs.length _ HL.out (Nat.le_refl _) (by omega) (by omega)).mono ?_; rintro e w3 ⟨rfl, hb3⟩; have HB3 := Lib.hid (HB2.out.trans (hb3.mono (by omega))); clear hb3)))
    go_returns
    exact FlatOut.no HF.out rfl HB3.out
  | some o =>
    have HPS := Lib.hid (show (prog s.data.toList).isSome = true by rw [hp]; rfl)
    have hco : cs = o := by
      rw [← HCS.out, ← HBS.out, stepsB, hp]
      rw [prog_eq] at hp
      split at hp
      · cases hp
      · obtain ⟨⟨a, b⟩, hf, e⟩ := Option.map_eq_some_iff.1 hp
        simp only at e
        subst e
        exact (steps_bytes (fl_steps hf).1).1
    by_cases h4 : (jn cs).length ≤ 400
    · have HF := Lib.hid (show flatR (prog s.data.toList) = (jn cs, true) by rw [hp, ← hco, flatR, if_pos h4])
      clear hp hco
      go_enter Tryd.func12, Tryd.ntmps12
      go_wp2_with (first
        | (go_at_call 23; go_must (refine (stepsOf_any s m _ HM.out).mono ?_; rintro e w1 ⟨rfl, hb⟩; rw [HPS.out, HBS.out]; generalize (⟨bs.toArray⟩ : ByteArray) = B at hBd ⊢; have HB := Lib.hid hb; have hsz := hb.size; clear hb))
        | (go_at_call 35; go_must (refine (split_bytes B bs hBd (by omega) HBA.out _).mono ?_; rintro e w2 ⟨g, rfl, hl, hb2⟩; rw [HCS.out] at hl ⊢; have HL := Lib.hid hl; have HB2 := Lib.hid (HB.out.trans (hb2.mono hsz)); have hsz2 := hb2.size; clear hl hb2))
        | (go_at_call 27; go_must (refine (join_words cs g cs.length _ HL.out (Nat.le_refl _) (by omega) (by omega)).mono ?_; rintro e w3 ⟨rfl, hb3⟩; have HB3 := Lib.hid (HB2.out.trans (hb3.mono (by omega))); have hJd : (⟨(jn cs).toArray⟩ : ByteArray).data.toList = jn cs := rfl; generalize (⟨(jn cs).toArray⟩ : ByteArray) = J at hJd ⊢; have hJs : (J.size : Int) ≤ 400 := (by rw [Lib.size_eq, hJd]; omega); have HJD := Lib.hid hJd; clear hb3 hJd)))
      go_returns
      refine ⟨?_, HB3.out⟩
      rw [HF.out, ← HJD.out, Lib.mk_data]; rfl
    · have HF := Lib.hid (show flatR (prog s.data.toList) = ([], false) by rw [hp, ← hco, flatR, if_neg h4])
      clear hp hco
      go_enter Tryd.func12, Tryd.ntmps12
      go_wp2_with (first
        | (go_at_call 23; go_must (refine (stepsOf_any s m _ HM.out).mono ?_; rintro e w1 ⟨rfl, hb⟩; rw [HPS.out, HBS.out]; generalize (⟨bs.toArray⟩ : ByteArray) = B at hBd ⊢; have HB := Lib.hid hb; have hsz := hb.size; clear hb))
        | (go_at_call 35; go_must (refine (split_bytes B bs hBd (by omega) HBA.out _).mono ?_; rintro e w2 ⟨g, rfl, hl, hb2⟩; rw [HCS.out] at hl ⊢; have HL := Lib.hid hl; have HB2 := Lib.hid (HB.out.trans (hb2.mono hsz)); have hsz2 := hb2.size; clear hl hb2))
        | (go_at_call 27; go_must (refine (join_words cs g cs.length _ HL.out (Nat.le_refl _) (by omega) (by omega)).mono ?_; rintro e w3 ⟨rfl, hb3⟩; have HB3 := Lib.hid (HB2.out.trans (hb3.mono (by omega))); have hJd : (⟨(jn cs).toArray⟩ : ByteArray).data.toList = jn cs := rfl; generalize (⟨(jn cs).toArray⟩ : ByteArray) = J at hJd ⊢; have hJs : (400 : Int) < (J.size : Int) := (by rw [Lib.size_eq, hJd]; omega); have HJD := Lib.hid hJd; clear hb3 hJd)))
      go_returns
      exact FlatOut.no HF.out rfl HB3.out
end Go.Proofs.YthojdoiffkdikaaDoor
