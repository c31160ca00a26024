/- Draws of plotter programs: programs; the law of folding, up to its frame. -/
import Derived.Test.YthojdoiffkdikaaGreatDoorPlotY
import Derived.Test.YthojdoiffkdikaaGreatDoorPlotP
namespace Go.Proofs.YthojdoiffkdikaaGreatDoor
open Go.RowKit Go.PlotT

def eight : List Wd := [[], [120], [114, 50, 32, 93], [114, 48, 32, 101, 32, 93], [101, 32, 32, 101], [114, 50, 32, 101], [101, 32, 93], [114, 57, 32, 114, 57, 32, 114, 57, 32, 101, 32, 93, 32, 93, 32, 93]]
def four : List Wd := [[100, 32, 114, 52, 32, 101, 32, 116, 32, 93], [100, 32, 101, 32, 110, 32, 119, 32, 115], [101, 32, 101, 32, 101, 32, 101, 32, 101, 32, 101, 32, 101, 32, 101, 32, 101, 32, 101, 32, 101, 32, 101], [100, 32, 114, 57, 32, 114, 57, 32, 101, 32, 93, 32, 116, 32, 93]]
set_option maxRecDepth 100000 in
set_option maxHeartbeats 2000000 in
theorem prog6 {w0 W : World} {B g : Nat} {a : Option Addr} {len cap : Nat} {p : Int} (h : Drw w0 W B g a len cap p) (hp : p ≤ 9000) :
    Calls Tryz.prog 22 #[.pointer (some ⟨g, 0, none⟩)] W (Words6 W g (.slice a len cap) p 490 300) := by
  have HD := Lib.hid h
  have hp0 := h.hp
  clear h
  go_enter Tryz.func22, Tryz.ntmps22
  go_wp2_with (first
    | (go_at_call 45; go_must (refine (pick6 HD.out 14 (by omega) (by omega) (by omega)).mono ?_; rintro e w1 ⟨k, rfl, hk0, hk1, hr⟩; have HR1 := Lib.hid hr; have HD1 := Lib.hid (HD.out.next hr (by omega)); clear hr))
    | (go_at_call 47; go_must (refine (words6_2 HD1.out (by omega)).mono ?_; rintro e w4 ⟨X, p4, rfl, hX, hp4, hp5, hr⟩; have HR3 := Lib.hid (HR1.out.trans hr); clear hr)))
  · go_wp2_with (go_at_call 46; go_must (refine (of6 (HD1.out.grow ((Below.refl _ _).alloc (Nat.le_refl _) _)) _ 30 eight (lies_lit _ _ eight rfl) (Nat.ne_of_gt HD1.out.lt) (by decide) (by decide) (by omega) (by decide)).mono ?_; rintro e w3 ⟨X, rfl, hX, hr⟩; have HR3 := Lib.hid (HR1.out.trans (((Rd6.refl HD1.out.rd).grow ((Below.refl _ _).alloc (Nat.le_refl _) _)).trans hr)); clear hr))
    go_returns
    exact ⟨X, _, rfl, by omega, by omega, by omega, HR3.out⟩
  · go_wp2_with (go_at_call 46; go_must (refine (of6 (HD1.out.grow ((Below.refl _ _).alloc (Nat.le_refl _) _)) _ 30 four (lies_lit _ _ four rfl) (Nat.ne_of_gt HD1.out.lt) (by decide) (by decide) (by omega) (by decide)).mono ?_; rintro e w3 ⟨X, rfl, hX, hr⟩; have HR3 := Lib.hid (HR1.out.trans (((Rd6.refl HD1.out.rd).grow ((Below.refl _ _).alloc (Nat.le_refl _) _)).trans hr)); clear hr))
    go_returns
    exact ⟨X, _, rfl, by omega, by omega, by omega, HR3.out⟩
  · go_returns
    exact ⟨X, p4, rfl, by omega, by omega, by omega, HR3.out⟩
theorem jn_steps {o : List Wd} (h : ∀ x ∈ o, isSt x = true) : (jn o).length ≤ 2 * o.length := by
  obtain ⟨h1, h2⟩ := steps_bytes h
  have := jn_one_length o.flatten
  rw [h1, h2] at this
  exact this
/-- What the law needs of a text. -/
theorem foldFacts (s : ByteArray) : Nonempty ((foldOk s.data.toList = false ∧ (⟨(foldR s.data.toList).toArray⟩ : ByteArray) = ⟨#[]⟩) ∨
    (foldOk s.data.toList = true ∧ ∃ O : ByteArray, (⟨(foldR s.data.toList).toArray⟩ : ByteArray) = O ∧ O.size ≤ s.size ∧ ∃ (J : ByteArray) (b : Bool),
      (⟨(flatR (prog s.data.toList)).1.toArray⟩ : ByteArray) = J ∧ (flatR (prog s.data.toList)).2 = b ∧ (⟨(flatR (prog O.data.toList)).1.toArray⟩ : ByteArray) = J ∧ (flatR (prog O.data.toList)).2 = b)) := by
  rcases Bool.eq_false_or_eq_true (foldOk s.data.toList) with h | h
  · have h2 := h
    rw [foldOk_r] at h2
    simp only [Bool.and_eq_true, Bool.not_eq_true', decide_eq_false_iff_not] at h2
    obtain ⟨h3, hr⟩ := h2
    obtain ⟨o, hp⟩ := Option.isSome_iff_exists.1 h3
    obtain ⟨h4, h5⟩ := fold_flat hp hr
    have e : foldR s.data.toList = foldW (cutW s.data.toList) := by rw [foldR, if_pos h]
    refine ⟨Or.inr ⟨h, _, rfl, ?_, _, _, rfl, rfl, ?_, ?_⟩⟩
    · rw [Lib.size_eq, Lib.size_eq]
      show (foldR s.data.toList).length ≤ _
      rw [e]; exact h4
    · show (⟨(flatR (prog (foldR s.data.toList))).1.toArray⟩ : ByteArray) = _
      rw [e, h5, hp]
    · show (flatR (prog (foldR s.data.toList))).2 = _
      rw [e, h5, hp]
  · exact ⟨Or.inl ⟨h, by rw [foldR, if_neg (by rw [h]; decide)]⟩⟩
end Go.Proofs.YthojdoiffkdikaaGreatDoor
