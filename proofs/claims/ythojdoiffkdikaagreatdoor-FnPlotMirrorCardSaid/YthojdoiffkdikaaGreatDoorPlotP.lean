/- Plotter programs written out (the program). -/
import Derived.Test.YthojdoiffkdikaaGreatDoorPlotN
import Derived.Lib.Explode
namespace Go.Proofs.YthojdoiffkdikaaGreatDoor
open Go.RowKit Go.PlotT

/-- The text of the steps of a program. -/
def flatR (r : Option (List Wd)) : Wd × Bool := match r with
  | some o => if (jn o).length ≤ 400 then (jn o, true) else ([], false)
  | none => ([], false)
def FlatOut (w : World) (l : Wd) (e : Ending) (w' : World) : Prop := e = .returned (.tuple #[.string ⟨(flatR (prog l)).1.toArray⟩, .bool (flatR (prog l)).2]) ∧ Below w.heap.size w w'
theorem FlatOut.no {w w' : World} {l : Wd} {e : Ending} (h : flatR (prog l) = ([], false)) (he : e = .returned (.tuple #[.string ⟨#[]⟩, .bool false])) (hb : Below w.heap.size w w') : FlatOut w l e w' := by
  refine ⟨?_, hb⟩
  rw [he, h]
theorem stepsB_steps (l : Wd) : ∀ b ∈ stepsB l, b.toNat < 128 := by
  unfold stepsB
  split
  · next o h =>
    rw [prog_eq] at h
    split at h
    · cases h
    · obtain ⟨⟨a, b⟩, hf, e⟩ := Option.map_eq_some_iff.1 h
      simp only at e
      subst e
      obtain ⟨h1, -⟩ := fl_steps hf
      intro c hc
      obtain ⟨x, hx, hc⟩ := List.mem_flatten.1 hc
      obtain ⟨d, rfl⟩ := isSt_one (h1 x hx)
      have h2 := h1 _ hx
      rw [List.mem_singleton.1 hc]
      simp only [isSt, Bool.or_eq_true, beq_iff_eq] at h2
      rcases h2 with (((((rfl | rfl) | rfl) | rfl) | rfl) | rfl) | rfl <;> decide
  · simp
theorem jn_one_length : ∀ (bs : Wd), (jn (bs.map fun c => [c])).length ≤ 2 * bs.length
  | [] => by simp
  | [a] => by simp
  | a :: b :: l => by
    have ih := jn_one_length (b :: l)
    simp only [List.map_cons, List.length_cons] at ih ⊢
    rw [jn_cons]
    simp only [List.length_append, List.length_cons, List.length_nil]
    omega
/-- The bytes of a string, one by one. -/
theorem split_bytes (B : ByteArray) (bs : Wd) (hB : B.data.toList = bs) (hs : bs.length ≤ 1000) (ha : ∀ b ∈ bs, b.toNat < 128) (w : World) :
    Calls Tryz.prog 54 #[.string B, .string ⟨#[]⟩] w fun e w' => ∃ g, e = .returned (.slice (some ⟨g, 0, none⟩) (bs.map fun c => [c]).length (bs.map fun c => [c]).length) ∧ Lies w' g (bs.map fun c => [c]) ∧ Below w.heap.size w w' := by
  have hsz : B.size = (bs.map fun c => [c]).length := by rw [Lib.size_eq, hB, List.length_map]
  refine (Tryz.strings_Split_chars B ⟨#[]⟩ w rfl (by rw [hsz, List.length_map]; omega) (fun j b hb => ha b (by rw [← hB]; exact List.mem_of_getElem? hb))).mono ?_
  rintro e w' ⟨rfl, hw⟩
  refine ⟨(w.iter B B.size).heap.size, by rw [hsz], ⟨by rw [hw, World.size_alloc]; omega, fun j x hx => ?_⟩, ?_⟩
  · rw [hw, new_cell, List.getElem?_toArray, List.getElem?_map]
    have h := Lib.chars_data B
    rw [hB] at h
    rw [← h, List.getElem?_map] at hx
    obtain ⟨y, hy, rfl⟩ := Option.map_eq_some_iff.1 hx
    rw [hy, bstr_data]; rfl
  · rw [hw]
    have h1 : Below w.heap.size w (w.iter B B.size) := (Below.refl _ w).alloc (Nat.le_refl _) _
    exact h1.alloc h1.size _
end Go.Proofs.YthojdoiffkdikaaGreatDoor
