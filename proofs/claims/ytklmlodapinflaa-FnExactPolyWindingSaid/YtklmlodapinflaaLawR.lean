/- Rows of points that came in as an argument of a law. -/
import Derived.Test.YtklmlodapinflaaLawC
import Derived.Test.YtklmlodapinflaaRowA
import Derived.Deep.Slices
namespace Go.Proofs.Ytklmlodapinflaa
open Go.ChangeShapes Go.WideShapes Go.ChangeAt Go.RowKit Go.Joins Go.Deep

/-- Eight cells that read as a point of a law's are a point. -/
theorem cells_cyc {H : Type} {enc : TypeId × Value → H} {W : World} {base : Nat} {spare : Nat → Bool} {held : Bool} {fuel : Nat} {cs : List Value} {x : DataW H × List MemPlace}
    (h : DataW.trod enc Try.prog W base spare held fuel 35 cs = some x) : ∃ c : C8, cs = (row c).toList := by
  obtain ⟨y0, n, -, hl, h0⟩ := trod_struct1 Try.underlying35 h
  have hl8 : cs.length = 8 := by rw [hl, cellsC]
  refine cells8_ints hl8 (x := y0) (fuel := n) (enc := enc) (W := W) (base := base) (spare := spare) (held := held) ?_
  have e : (cs.drop 0).take (Try.prog.cellsOf 23) = cs := by
    rw [cellsA, List.drop_zero]; exact List.take_of_length_le (by omega)
  rw [← e]; exact h0

set_option maxRecDepth 100000 in
theorem open_cycs {H : Type} {enc : TypeId × Value → H} {W : World} {r : Reach} {b0 : Nat} {held : Bool} {v : Value} {d : DataW H} {p : List MemPlace}
    (hv : Value.okWide Try.prog W r b0 46 v) (h : DataW.Trod enc Try.prog W 0 (fun _ => true) held 46 v d p) :
    ∃ (a : Option Addr) (cap : Nat) (xs : List C8), v = .slice a xs.length cap ∧ xs.length ≤ cap ∧ HasC W W.heap.size a xs ∧ xs.length ≤ 9223372036854775807 := by
  obtain ⟨a, len, cap, rfl⟩ := okWide_slice Try.underlying46 hv
  obtain ⟨fuel, hf⟩ := h
  rcases open_slice Try.underlying46 hf with ⟨hcs, -⟩ | ⟨x, l, c, m, n, D, Pl, hcs, -, hl, hm, hmm, -, hi⟩
  · simp [Value.cells] at hcs
    obtain ⟨rfl, rfl, rfl⟩ := hcs
    exact ⟨none, 0, [], rfl, Nat.le_refl _, Or.inl rfl, by simp⟩
  · simp [Value.cells] at hcs
    obtain ⟨rfl, rfl, rfl⟩ := hcs
    simp only [if_true] at hmm
    subst hmm
    by_cases h0 : len = 0
    · subst h0
      exact ⟨some x, m, [], rfl, by simp, Or.inl rfl, by simp⟩
    · have key : ∀ i, i < len → ∃ c : C8, ∀ j, j < 8 → W.cell? ((x.add (i * 8)).add j) = some (.int .i64 (c.g j)) := by
        intro i hil
        obtain ⟨cs', hc, ht⟩ := hi i (by omega)
        obtain ⟨c, rfl⟩ := cells_cyc ht
        rw [cellsC] at hc
        obtain ⟨_, hcl, hat⟩ := World.cells?_some hc
        exact ⟨c, fun j hj => by rw [hat j hj]; exact rowL_get c j hj⟩
      obtain ⟨b, off, spot⟩ := x
      obtain ⟨c0, hc0⟩ := key 0 (by omega)
      have hspot : spot = none := by
        have := hc0 0 (by omega)
        simpa [Addr.add] using World.cell?_spot this
      subst hspot
      have hb : b < W.heap.size := by
        have := hc0 0 (by omega)
        rw [Addr.add_mid, Addr.add_mid] at this
        exact block_lt_of_cell this
      have key2 : ∀ i, i < len → ∃ c : C8, ∀ j, j < 8 → W.cell? ⟨b, off + i * 8 + j, none⟩ = some (.int .i64 (c.g j)) := by
        intro i hil
        obtain ⟨c, hc⟩ := key i hil
        exact ⟨c, fun j hj => by have := hc j hj; rw [Addr.add_mid, Addr.add_mid] at this; exact this⟩
      refine ⟨some ⟨b, off, none⟩, m, (List.range len).map (fun i => if hil : i < len then Classical.choose (key2 i hil) else C8.zero), by simp, by simpa using hl, Or.inr ⟨b, off, rfl, hb, fun i hi2 => ?_⟩, by simp; unfold maxLen at hm; omega⟩
      have hil : i < len := by simpa using hi2
      have e : ((List.range len).map (fun i => if hil : i < len then Classical.choose (key2 i hil) else C8.zero)).getD i C8.zero = Classical.choose (key2 i hil) := by
        rw [List.getD_eq_getElem?_getD, List.getElem?_map, List.getElem?_range hil]; simp [hil]
      rw [e]
      intro j v hv
      have hj : j < 8 := by
        by_cases hj : j < 8
        · exact hj
        · rw [List.getElem?_eq_none (by rw [rowL_len]; omega)] at hv; cases hv
      have := Classical.choose_spec (key2 i hil) j hj
      rw [this]; rw [rowL_get _ j hj] at hv; exact hv
theorem HasP.made' {w : World} {xs : List C8} {T : TypeId} {os : Array Obj} {d b : Nat} (hb : b = w.heap.size) : HasP (Go.Proofs.Ytklmlodapinflaa.more (w.alloc (.cells (rowsV xs) T)) os d) (some ⟨b, 0, none⟩) xs := by
  subst hb; exact HasP.made w xs T os d
end Go.Proofs.Ytklmlodapinflaa
