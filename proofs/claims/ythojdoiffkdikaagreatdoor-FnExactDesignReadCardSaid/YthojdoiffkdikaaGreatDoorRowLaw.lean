/- What a law's row asks of a struct of plain numbers that came in by value; the frame of a law. An exact point that came in by value. Rows of points that came in as an argument of a law. Rows that laws own: what each call of a law on rows leaves of them. -/
import Derived.Test.YthojdoiffkdikaaGreatDoorRead
import Derived.Lib.SmallJoins
import Derived.ChangeOld
import Derived.Test.YthojdoiffkdikaaGreatDoorCycP
import Derived.Test.YthojdoiffkdikaaGreatDoorRowA
import Derived.Deep.Slices
import Derived.Test.YthojdoiffkdikaaGreatDoorMark
section -- a part
namespace Go.Proofs.YthojdoiffkdikaaGreatDoor
open Go.ChangeShapes Go.WideShapes Go.ChangeAt Go.RowKit

theorem own : ownKnob Tryz.prog.godebug = none := by kernel_rfl
theorem laidOut : laidOutB Tryz.prog = true := by kernel_rfl

theorem bd {x : Int} (h : (Lit.int .i64 x).wf = true) : -9223372036854775808 ≤ x ∧ x ≤ 9223372036854775807 := by
  have := bounds_i64 h; exact this


/-- The bytes of a slice that came in. -/
theorem hasB_of_cells {W : World} {x : Addr} {len : Nat} {zs : List Int} (hl : len ≤ zs.length) (hcell : ∀ i, i < zs.length → W.cell? (x.add i) = some (.int .u8 (zs.getD i 0))) (hwz : ∀ n ∈ zs, (Lit.int .u8 n).wf = true) : HasB W W.heap.size (some x) len := by
  by_cases h0 : len = 0
  · exact Or.inl h0
  · obtain ⟨b, off, spot⟩ := x
    have hc := hcell 0 (by omega)
    have hspot : spot = none := by simpa [Addr.add] using World.cell?_spot hc
    subst hspot
    refine Or.inr ⟨b, off, fun i => zs.getD i 0, rfl, ?_, fun i hi => ⟨?_, ?_⟩⟩
    · have := block_lt_of_cell hc; simpa [Addr.add] using this
    · have := hcell i (by omega)
      by_cases hi0 : i = 0
      · subst hi0; simpa [Addr.add] using this
      · simpa [Addr.add, hi0] using this
    · have hm : zs.getD i 0 ∈ zs := by
        rw [List.getD_eq_getElem?_getD, List.getElem?_eq_getElem (by omega)]; exact List.getElem_mem _
      have := hwz _ hm
      simp [Lit.wf, IntKind.min, IntKind.max, IntKind.signed, IntKind.bits] at this
      exact this
end Go.Proofs.YthojdoiffkdikaaGreatDoor
end
section -- a part
namespace Go.Proofs.YthojdoiffkdikaaGreatDoor
open Go.ChangeShapes Go.WideShapes Go.ChangeAt Go.RowKit Go.Joins

theorem cellsA : Tryz.prog.cellsOf 57 = 8 := by kernel_rfl
theorem cellsI : Tryz.prog.cellsOf 3 = 1 := by kernel_rfl

/-- Eight cells that read as an array of numbers are numbers. -/
theorem cells8_ints {H : Type} {enc : TypeId × Value → H} {W : World} {base : Nat} {spare : Nat → Bool} {held : Bool} {fuel : Nat} {cs : List Value} {x : DataW H × List MemPlace} (hl : cs.length = 8)
    (h : DataW.trod enc Tryz.prog W base spare held fuel 57 cs = some x) : ∃ a : C8, cs = (row a).toList := by
  obtain ⟨xs, m, -, -, -, hxs, hi⟩ := DataW.trod_array Tryz.underlying57 h
  have key : ∀ i, i < 8 → ∃ n : Int, cs[i]? = some (.int .i64 n) := by
    intro i hi8
    have h1 := hi i hi8
    rw [cellsI, Nat.mul_one] at h1
    rw [List.getElem?_eq_getElem (by omega)] at h1
    obtain ⟨n, hn, -, -⟩ := DataW.trod_int Tryz.underlying3 h1
    refine ⟨n, ?_⟩
    have h2 : ((cs.drop i).take 1)[0]? = some (.int .i64 n) := by rw [hn]; rfl
    rw [List.getElem?_take_of_lt (by omega), List.getElem?_drop] at h2
    simpa using h2
  obtain ⟨n0, e0⟩ := key 0 (by omega); obtain ⟨n1, e1⟩ := key 1 (by omega); obtain ⟨n2, e2⟩ := key 2 (by omega); obtain ⟨n3, e3⟩ := key 3 (by omega)
  obtain ⟨n4, e4⟩ := key 4 (by omega); obtain ⟨n5, e5⟩ := key 5 (by omega); obtain ⟨n6, e6⟩ := key 6 (by omega); obtain ⟨n7, e7⟩ := key 7 (by omega)
  refine ⟨⟨n0, n1, n2, n3, n4, n5, n6, n7⟩, List.ext_getElem? fun i => ?_⟩
  have : i = 0 ∨ i = 1 ∨ i = 2 ∨ i = 3 ∨ i = 4 ∨ i = 5 ∨ i = 6 ∨ i = 7 ∨ 8 ≤ i := by omega
  rcases this with rfl | rfl | rfl | rfl | rfl | rfl | rfl | rfl | h8
  · exact e0
  · exact e1
  · exact e2
  · exact e3
  · exact e4
  · exact e5
  · exact e6
  · exact e7
  · rw [List.getElem?_eq_none (by omega), List.getElem?_eq_none (by simpa [row] using h8)]

end Go.Proofs.YthojdoiffkdikaaGreatDoor
end
section -- a part
namespace Go.Proofs.YthojdoiffkdikaaGreatDoor
open Go.ChangeShapes Go.WideShapes Go.ChangeAt Go.RowKit Go.Joins Go.Deep

theorem HasP.made' {w : World} {xs : List C8} {T : TypeId} {os : Array Obj} {d b : Nat} (hb : b = w.heap.size) : HasP (Go.Proofs.YthojdoiffkdikaaGreatDoor.more (w.alloc (.cells (rowsV xs) T)) os d) (some ⟨b, 0, none⟩) xs := by
  subst hb; exact HasP.made w xs T os d
end Go.Proofs.YthojdoiffkdikaaGreatDoor
end
section -- a part
namespace Go.Proofs.YthojdoiffkdikaaGreatDoor
open Go.RowKit

theorem OwnsP.keep {w w' : World} {B : Nat} {v : Value} {ys : List C8} (h : OwnsP w B v ys) (hb : Below w.heap.size w w') : OwnsP w' B v ys := by
  refine ⟨h.1, ?_⟩
  rcases h.2 with h0 | ⟨g, cap, cur, hv, hg, hh, h1, h2, h3, h4⟩
  · exact Or.inl h0
  · exact Or.inr ⟨g, cap, cur, hv, hg, (hb.block g (Array.getElem?_eq_some_iff.1 hh).1).trans hh, h1, h2, h3, h4⟩
/-- Two values do not lie in one block. -/
def Apart (v v' : Value) : Prop := ∀ k, v.ownBlock = some k → v'.ownBlock = some k → False
theorem Apart.symm {v v' : Value} (h : Apart v v') : Apart v' v := fun k a b => h k b a
theorem OwnsP.apart {w w' : World} {B B' : Nat} {v v' : Value} {ys zs : List C8} (h : OwnsP w B v ys) (h' : OwnsP w' B' v' zs) (hB : w.heap.size ≤ B') : Apart v v' := fun k a b => by
  have h1 := World.ownsRow.lt h k a
  have h2 := World.ownsRow.lt h' k b
  omega
theorem OwnsP.mark {w w' : World} {B : Nat} {v v' : Value} {ys : List C8} (h : OwnsP w B v ys) (hg : w.grownBy w' v'.ownBlock) (ha : Apart v v') : OwnsP w' B v ys := by
  refine World.ownsRow.kept h hg ?_
  cases hv : v.ownBlock with
  | none => exact Or.inl rfl
  | some k => exact Or.inr (fun e => ha k hv e.symm)
theorem HeldAt.keep {w w' : World} {v : Value} {s n : Nat} {k : Int} (h : HeldAt w v s n k) (hb : Below w.heap.size w w') : HeldAt w' v s n k := by
  rcases h with h | ⟨g, cap, rfl, hlt, hz⟩
  · exact Or.inl h
  · exact Or.inr ⟨g, cap, rfl, by have := hb.size; omega, fun x hx => by rw [hb.cell (p := ⟨g, x, none⟩) hlt]; exact hz x hx⟩
theorem below_next {B : Nat} {w w1 w2 : World} (h : Below B w w1) (hb : Below w1.heap.size w1 w2) (hB : B ≤ w.heap.size) : Below B w w2 := h.trans (hb.mono (by have := h.size; omega))
theorem below_marked {B B' : Nat} {w w1 w2 : World} {v : Value} {ys : List C8} (h : Below B w w1) (ho : OwnsP w1 B' v ys) (hg : w1.grownBy w2 v.ownBlock) (hB : B ≤ w.heap.size) (hB' : B ≤ B') : Below B w w2 :=
  Below.grown h hg (by have := h.size; omega) (fun k hk => by have := (World.ownsRow.lt ho k hk).1; omega)
/-- A call that makes a row and tells it alone. -/
def OwnPost (w : World) (xs : List C8) (e : Ending) (w' : World) : Prop := ∃ v, e = .returned v ∧ OwnsP w' w.heap.size v xs ∧ Below w.heap.size w w'
theorem OwnsP.lit (w : World) (xs : List C8) (hn : xs.length ≤ 1048576) (os : Array Obj) (d : Nat) : OwnsP (Go.Proofs.YthojdoiffkdikaaGreatDoor.more (w.alloc (.cells (rowsV xs) 59)) os d) w.heap.size (.slice (some ⟨w.heap.size, 0, none⟩) xs.length xs.length) xs :=
  OwnsP.more (World.ownsRow_lit w _ _ (Nat.le_refl _) (by unfold maxLen; omega) (by rw [rowsV_size]; omega)) os d
end Go.Proofs.YthojdoiffkdikaaGreatDoor
end
