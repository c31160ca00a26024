/- Plotter programs folded (the reference). -/
import Derived.Test.YthojdoiffkdikaaGreatDoorPlotV
import Derived.BigQuiet
import Derived.Deep.QuietTactic
import Derived.Deep.RegionHeld3
namespace Go.Proofs.YthojdoiffkdikaaGreatDoor
open Go.RowKit Go.PlotT

theorem below_nq {B : Nat} {a w : World} (h : Below B a w) (n : Nat) : Below B a (w.drewN n) := h.trans ⟨rfl, rfl, rfl, Nat.le_refl _, fun _ _ => rfl⟩

/-- The text of the folded program, or the empty one. -/
def foldR (l : Wd) : Wd := if foldOk l = true then foldW (cutW l) else []
def FoldPost (w : World) (l : Wd) (e : Ending) (w' : World) : Prop := e = .returned (.tuple #[.string ⟨(foldR l).toArray⟩, .bool (foldOk l)]) ∧ Below w.heap.size w w'
theorem FoldPost.no {w w' : World} {l : Wd} {e : Ending} (h : foldOk l = false) (he : e = .returned (.tuple #[.string ⟨#[]⟩, .bool false])) (hb : Below w.heap.size w w') : FoldPost w l e w' := by
  refine ⟨?_, hb⟩
  rw [he, foldR, h]; rfl
theorem take_group {ws : List Wd} {i k : Nat} {x : Wd} (hx : ws[i]? = some x) (hk : k = 1 + lead x 8 (ws.drop (i + 1))) : ∀ y ∈ ws.take (i + k), y ∈ ws.take i ∨ y = x := by
  intro y hy
  obtain ⟨h, e⟩ := List.getElem?_eq_some_iff.1 hx
  rw [List.take_add, drop_at h, e, hk, Nat.add_comm 1, List.take_succ_cons, lead_take] at hy
  rcases List.mem_append.1 hy with hy | hy
  · exact Or.inl hy
  · rcases List.mem_cons.1 hy with hy | hy
    · exact Or.inr hy
    · exact Or.inr (List.eq_of_mem_replicate hy)
theorem gs_len (x : Wd) (k : Nat) : (gs (x, k)).length ≤ k := by
  unfold gs; split
  · simp only at *; simp; omega
  · simp
end Go.Proofs.YthojdoiffkdikaaGreatDoor
