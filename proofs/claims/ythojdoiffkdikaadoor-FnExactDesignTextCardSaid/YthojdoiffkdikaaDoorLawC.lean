/- What a law's row asks of a struct of plain numbers that came in by value; the frame of a law. An exact point that came in by value. -/
import Derived.Test.YthojdoiffkdikaaDoorRead
import Derived.Lib.SmallJoins
import Derived.ChangeOld
import Derived.Test.YthojdoiffkdikaaDoorCycP
section -- a part
namespace Go.Proofs.YthojdoiffkdikaaDoor
open Go.ChangeShapes Go.WideShapes Go.ChangeAt Go.RowKit

theorem own : ownKnob Tryd.prog.godebug = none := by kernel_rfl
theorem laidOut : laidOutB Tryd.prog = true := by kernel_rfl

theorem bd {x : Int} (h : (Lit.int .i64 x).wf = true) : -9223372036854775808 ≤ x ∧ x ≤ 9223372036854775807 := by
  have := bounds_i64 h; exact this


/-- The bytes of a slice that came in. -/
theorem hasB_of_cells {W : World} {x : Addr} {len : Nat} {zs : List Int} (hl : len ≤ zs.length) (hcell : ∀ i, i < zs.length → W.cell? (x.add i) = some (.int .u8 (zs.getD i 0))) (hwz : ∀ n ∈ zs, (Lit.int .u8 n).wf = true) : HasB W W.heap.size (some x) len := by
  by_cases h0 : len = 0
  · exact Or.inl h0
  · obtain ⟨b, off, spot⟩ := x
    have hc := hcell 0 (by omega)
    have hspot : spot = none := by simpa [Addr.add] using World.cell?_spot hc
    subst hspot
    refine Or.inr ⟨b, off, fun i => zs.getD i 0, rfl, ?_, fun i hi => ⟨?_, ?_⟩⟩
    · have := block_lt_of_cell hc; simpa [Addr.add] using this
    · have := hcell i (by omega)
      by_cases hi0 : i = 0
      · subst hi0; simpa [Addr.add] using this
      · simpa [Addr.add, hi0] using this
    · have hm : zs.getD i 0 ∈ zs := by
        rw [List.getD_eq_getElem?_getD, List.getElem?_eq_getElem (by omega)]; exact List.getElem_mem _
      have := hwz _ hm
      simp [Lit.wf, IntKind.min, IntKind.max, IntKind.signed, IntKind.bits] at this
      exact this
end Go.Proofs.YthojdoiffkdikaaDoor
end
section -- a part
namespace Go.Proofs.YthojdoiffkdikaaDoor
open Go.ChangeShapes Go.WideShapes Go.ChangeAt Go.RowKit Go.Joins

theorem cellsC : Tryd.prog.cellsOf 59 = 8 := by kernel_rfl
theorem cellsA : Tryd.prog.cellsOf 53 = 8 := by kernel_rfl
theorem cellsI : Tryd.prog.cellsOf 3 = 1 := by kernel_rfl

/-- Eight cells that read as an array of numbers are numbers. -/
theorem cells8_ints {H : Type} {enc : TypeId × Value → H} {W : World} {base : Nat} {spare : Nat → Bool} {held : Bool} {fuel : Nat} {cs : List Value} {x : DataW H × List MemPlace} (hl : cs.length = 8)
    (h : DataW.trod enc Tryd.prog W base spare held fuel 53 cs = some x) : ∃ a : C8, cs = (row a).toList := by
  obtain ⟨xs, m, -, -, -, hxs, hi⟩ := DataW.trod_array Tryd.underlying53 h
  have key : ∀ i, i < 8 → ∃ n : Int, cs[i]? = some (.int .i64 n) := by
    intro i hi8
    have h1 := hi i hi8
    rw [cellsI, Nat.mul_one] at h1
    rw [List.getElem?_eq_getElem (by omega)] at h1
    obtain ⟨n, hn, -, -⟩ := DataW.trod_int Tryd.underlying3 h1
    refine ⟨n, ?_⟩
    have h2 : ((cs.drop i).take 1)[0]? = some (.int .i64 n) := by rw [hn]; rfl
    rw [List.getElem?_take_of_lt (by omega), List.getElem?_drop] at h2
    simpa using h2
  obtain ⟨n0, e0⟩ := key 0 (by omega); obtain ⟨n1, e1⟩ := key 1 (by omega); obtain ⟨n2, e2⟩ := key 2 (by omega); obtain ⟨n3, e3⟩ := key 3 (by omega)
  obtain ⟨n4, e4⟩ := key 4 (by omega); obtain ⟨n5, e5⟩ := key 5 (by omega); obtain ⟨n6, e6⟩ := key 6 (by omega); obtain ⟨n7, e7⟩ := key 7 (by omega)
  refine ⟨⟨n0, n1, n2, n3, n4, n5, n6, n7⟩, List.ext_getElem? fun i => ?_⟩
  have : i = 0 ∨ i = 1 ∨ i = 2 ∨ i = 3 ∨ i = 4 ∨ i = 5 ∨ i = 6 ∨ i = 7 ∨ 8 ≤ i := by omega
  rcases this with rfl | rfl | rfl | rfl | rfl | rfl | rfl | rfl | h8
  · exact e0
  · exact e1
  · exact e2
  · exact e3
  · exact e4
  · exact e5
  · exact e6
  · exact e7
  · rw [List.getElem?_eq_none (by omega), List.getElem?_eq_none (by simpa [row] using h8)]

set_option maxRecDepth 100000 in
theorem open_cyc {H : Type} {enc : TypeId × Value → H} {W : World} {r : Reach} {b0 base : Nat} {spare : Nat → Bool} {held : Bool} {v : Value} {d : DataW H} {p : List MemPlace}
    (hv : Value.okWide Tryd.prog W r b0 59 v) (h : DataW.Trod enc Tryd.prog W base spare held 59 v d p) : ∃ a : C8, v = cv a := by
  obtain ⟨cs, rfl, hsz⟩ := okWide_struct Tryd.underlying59 hv
  obtain ⟨fuel, hf⟩ := h
  obtain ⟨y0, n, -, -, h0⟩ := trod_struct1 Tryd.underlying59 hf
  have hl : cs.toList.length = 8 := by rw [Array.length_toList, hsz, cellsC]
  have h0' : DataW.trod enc Tryd.prog W base spare held n 53 cs.toList = some y0 := by
    have e : ((Value.agg cs).cells.toList.drop 0).take (Tryd.prog.cellsOf 53) = cs.toList := by
      rw [cellsA]; show (cs.toList.drop 0).take 8 = _; rw [List.drop_zero]; exact List.take_of_length_le (by omega)
    rw [← e]; exact h0
  obtain ⟨a, ha⟩ := cells8_ints hl h0'
  exact ⟨a, congrArg Value.agg (Array.toList_inj.1 ha)⟩
end Go.Proofs.YthojdoiffkdikaaDoor
end
