/- Rows of points that came in as an argument of a law. Rows that laws own: what each call of a law on rows leaves of them. -/
import Derived.Test.YthojdoiffkdikaaDoorLawC
import Derived.Test.YthojdoiffkdikaaDoorRowA
import Derived.Deep.Slices
import Derived.Test.YthojdoiffkdikaaDoorMark
section -- a part
namespace Go.Proofs.YthojdoiffkdikaaDoor
open Go.ChangeShapes Go.WideShapes Go.ChangeAt Go.RowKit Go.Joins Go.Deep

/-- Eight cells that read as a point of a law's are a point. -/
theorem cells_cyc {H : Type} {enc : TypeId × Value → H} {W : World} {base : Nat} {spare : Nat → Bool} {held : Bool} {fuel : Nat} {cs : List Value} {x : DataW H × List MemPlace}
    (h : DataW.trod enc Tryd.prog W base spare held fuel 59 cs = some x) : ∃ c : C8, cs = (row c).toList := by
  obtain ⟨y0, n, -, hl, h0⟩ := trod_struct1 Tryd.underlying59 h
  have hl8 : cs.length = 8 := by rw [hl, cellsC]
  refine cells8_ints hl8 (x := y0) (fuel := n) (enc := enc) (W := W) (base := base) (spare := spare) (held := held) ?_
  have e : (cs.drop 0).take (Tryd.prog.cellsOf 53) = cs := by
    rw [cellsA, List.drop_zero]; exact List.take_of_length_le (by omega)
  rw [← e]; exact h0

theorem HasP.made' {w : World} {xs : List C8} {T : TypeId} {os : Array Obj} {d b : Nat} (hb : b = w.heap.size) : HasP (Go.Proofs.YthojdoiffkdikaaDoor.more (w.alloc (.cells (rowsV xs) T)) os d) (some ⟨b, 0, none⟩) xs := by
  subst hb; exact HasP.made w xs T os d
end Go.Proofs.YthojdoiffkdikaaDoor
end
section -- a part
namespace Go.Proofs.YthojdoiffkdikaaDoor
open Go.RowKit

theorem OwnsP.keep {w w' : World} {B : Nat} {v : Value} {ys : List C8} (h : OwnsP w B v ys) (hb : Below w.heap.size w w') : OwnsP w' B v ys := by
  refine ⟨h.1, ?_⟩
  rcases h.2 with h0 | ⟨g, cap, cur, hv, hg, hh, h1, h2, h3, h4⟩
  · exact Or.inl h0
  · exact Or.inr ⟨g, cap, cur, hv, hg, (hb.block g (Array.getElem?_eq_some_iff.1 hh).1).trans hh, h1, h2, h3, h4⟩
/-- Two values do not lie in one block. -/
def Apart (v v' : Value) : Prop := ∀ k, v.ownBlock = some k → v'.ownBlock = some k → False
theorem Apart.symm {v v' : Value} (h : Apart v v') : Apart v' v := fun k a b => h k b a
theorem OwnsP.apart {w w' : World} {B B' : Nat} {v v' : Value} {ys zs : List C8} (h : OwnsP w B v ys) (h' : OwnsP w' B' v' zs) (hB : w.heap.size ≤ B') : Apart v v' := fun k a b => by
  have h1 := World.ownsRow.lt h k a
  have h2 := World.ownsRow.lt h' k b
  omega
theorem OwnsP.mark {w w' : World} {B : Nat} {v v' : Value} {ys : List C8} (h : OwnsP w B v ys) (hg : w.grownBy w' v'.ownBlock) (ha : Apart v v') : OwnsP w' B v ys := by
  refine World.ownsRow.kept h hg ?_
  cases hv : v.ownBlock with
  | none => exact Or.inl rfl
  | some k => exact Or.inr (fun e => ha k hv e.symm)
theorem HeldAt.keep {w w' : World} {v : Value} {s n : Nat} {k : Int} (h : HeldAt w v s n k) (hb : Below w.heap.size w w') : HeldAt w' v s n k := by
  rcases h with h | ⟨g, cap, rfl, hlt, hz⟩
  · exact Or.inl h
  · exact Or.inr ⟨g, cap, rfl, by have := hb.size; omega, fun x hx => by rw [hb.cell (p := ⟨g, x, none⟩) hlt]; exact hz x hx⟩
theorem below_next {B : Nat} {w w1 w2 : World} (h : Below B w w1) (hb : Below w1.heap.size w1 w2) (hB : B ≤ w.heap.size) : Below B w w2 := h.trans (hb.mono (by have := h.size; omega))
theorem below_marked {B B' : Nat} {w w1 w2 : World} {v : Value} {ys : List C8} (h : Below B w w1) (ho : OwnsP w1 B' v ys) (hg : w1.grownBy w2 v.ownBlock) (hB : B ≤ w.heap.size) (hB' : B ≤ B') : Below B w w2 :=
  Below.grown h hg (by have := h.size; omega) (fun k hk => by have := (World.ownsRow.lt ho k hk).1; omega)
/-- A call that makes a row and tells it alone. -/
def OwnPost (w : World) (xs : List C8) (e : Ending) (w' : World) : Prop := ∃ v, e = .returned v ∧ OwnsP w' w.heap.size v xs ∧ Below w.heap.size w w'
theorem OwnsP.lit (w : World) (xs : List C8) (hn : xs.length ≤ 1048576) (os : Array Obj) (d : Nat) : OwnsP (Go.Proofs.YthojdoiffkdikaaDoor.more (w.alloc (.cells (rowsV xs) 55)) os d) w.heap.size (.slice (some ⟨w.heap.size, 0, none⟩) xs.length xs.length) xs :=
  OwnsP.more (World.ownsRow_lit w _ _ (Nat.le_refl _) (by unfold maxLen; omega) (by rw [rowsV_size]; omega)) os d
end Go.Proofs.YthojdoiffkdikaaDoor
end
