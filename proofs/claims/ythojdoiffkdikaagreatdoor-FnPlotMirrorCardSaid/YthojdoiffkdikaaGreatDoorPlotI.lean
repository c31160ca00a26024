/- Plotter programs of the program: what stops reading, steps, the reader. -/
import Derived.Test.YthojdoiffkdikaaGreatDoorPlotW
import Derived.Test.YthojdoiffkdikaaGreatDoorBuild
import Derived.Test.YthojdoiffkdikaaGreatDoorShelf
namespace Go.Proofs.YthojdoiffkdikaaGreatDoor
open Go.RowKit Go.PlotT

/-- The panic of a text that is no program. -/
def noProg : List PanicEntry := [{ v := .iface 96 (.agg #[]), recovered := false }]
theorem need_true (w : World) : Calls Tryz.prog 53 #[.bool true] w fun e w' => e = .returned (.tuple #[]) ∧ w = w' := by
  go_enter Tryz.func53, Tryz.ntmps53
  go_wp2_with fail
  go_returns
  exact ⟨rfl, rfl⟩
theorem need_false (w : World) : Calls Tryz.prog 53 #[.bool false] w fun e w' => e = .panicked noProg ∧ w = w' := by
  go_enter Tryz.func53, Tryz.ntmps53
  go_wp2_with fail
  exact ⟨rfl, rfl, rfl⟩
theorem isSt_index (c : UInt8) : decide (0 ≤ Lib.indexByte [117, 100, 110, 101, 115, 119, 116] c) = isSt [c] := by
  have h : ∀ n : Fin 256, decide (0 ≤ Lib.indexByte [117, 100, 110, 101, 115, 119, 116] (UInt8.ofNat n.val)) = isSt [UInt8.ofNat n.val] := by decide +kernel
  have := h ⟨c.toNat, c.toNat_lt⟩
  simpa using this
theorem isStep_of (X : ByteArray) (x : Wd) (hX : X.data.toList = x) (w : World) :
    Calls Tryz.prog 78 #[.string X] w fun e w' => e = .returned (.bool (isSt x)) ∧ w = w' := by
  by_cases h1 : X.size = 1
  · obtain ⟨c, rfl⟩ := Lib.one_byte X h1
    obtain rfl : x = [c] := hX.symm
    clear hX h1
    have hi := isSt_index c
    go_enter Tryz.func78, Tryz.ntmps78
    go_wp2_with (go_at_call 25; go_must (refine (Tryz.strings_Contains_one _ c _).mono ?_; rintro e w' ⟨rfl, rfl⟩))
    go_returns
    exact ⟨rfl, rfl⟩
  · have h2 : isSt x = false := by
      rcases Bool.eq_false_or_eq_true (isSt x) with e | e
      · obtain ⟨c, rfl⟩ := isSt_one e
        rw [Lib.size_eq, hX] at h1
        exact absurd rfl h1
      · exact e
    have h3 : ((X.size : Int) == 1) = false := by rw [beq_eq_false_iff_ne]; omega
    rw [h2]
    clear h2 h1
    go_enter Tryz.func78, Tryz.ntmps78
    go_wp2_with fail
    go_returns
    exact ⟨rfl, rfl⟩
end Go.Proofs.YthojdoiffkdikaaGreatDoor
