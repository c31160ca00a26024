/- Designs as texts: the program's way. -/
import Derived.Test.YthojdoiffkdikaaGreatDoorDesW
import Derived.Test.YthojdoiffkdikaaGreatDoorShelf
namespace Go.Proofs.YthojdoiffkdikaaGreatDoor
open Go.RowKit Go.PlotT

/-- The table of powers. -/
def Tab10 (w : World) : Prop := Lib.TabIs Tryz.prog w "internal/strconv.uint64pow10" .u64 Lib.pow10Tab
theorem tab_global : ∃ g, Tryz.prog.globalNamed "internal/strconv.uint64pow10" = some g := Option.isSome_iff_exists.1 (by kernel_rfl)
theorem Tab10.below {w w' : World} (h : Tab10 w) (hb : Below w.heap.size w w') : Tab10 w' := by
  obtain ⟨g, hg⟩ := tab_global
  unfold Tab10 Lib.TabIs World.var? at h ⊢
  rw [hg] at h ⊢
  simp only [Option.bind_some] at h ⊢
  have hlt : g < w.heap.size := by
    rcases Nat.lt_or_ge g w.heap.size with h' | h'
    · exact h'
    · rw [Array.getElem?_eq_none h'] at h; cases h
  rw [hb.block g hlt]
  exact h
theorem itoaI_any (n : Int) (h0 : -1000000000 ≤ n) (h1 : n ≤ 1000000000) (w : World) (ht : Tab10 w) :
    Calls Tryz.prog 60 #[.int .i64 n] w fun e w' => e = .returned (.string ⟨(Lib.itoa n).toArray⟩) ∧ Below w.heap.size w w' := by
  refine (Tryz.strconv_Itoa n (by omega) (by omega) w ht).mono ?_
  rintro e w' ⟨rfl, k, os, rfl⟩
  refine ⟨rfl, ⟨rfl, rfl, rfl, ?_, fun b hb => ?_⟩⟩
  · show w.heap.size ≤ (w.heap ++ os).size
    rw [Array.size_append]; omega
  · show (w.heap ++ os)[b]? = w.heap[b]?
    rw [Array.getElem?_append_left hb]
def strs (n : Nat) : Array Value := madeCells #[.string ByteArray.empty] n
theorem mkStr0 (n : Nat) (h : n ≤ 1048576) (w : World) : (Instr.makeSlice 47 (.int .i64 0) (.int .i64 (n : Int))).run Tryz.prog w = .ok (.slice (some ⟨w.heap.size, 0, none⟩) 0 n) (w.alloc (.cells (strs n) 9)) := by
  obtain ⟨i, hi, hz0, hz1, hz2⟩ := infoS
  have := run_make (P := Tryz.prog) w 47 9 i (.string ByteArray.empty) Tryz.underlying47 hi hz0 .i64 .i64 0 n (by omega) (by omega) (by rw [hz2]; omega) (by omega)
  rw [this, hz1]
  simp only [Int.toNat_natCast, Int.toNat_zero, Nat.mul_one]
  rfl
end Go.Proofs.YthojdoiffkdikaaGreatDoor
