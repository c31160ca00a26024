/- The laws' test of numbers part by part: true of equal numbers that are no NaN. -/
import Derived.Test.YthhdmokocddeiaaFloatD
import Derived.Deep.RegionHeld3
namespace Go.Proofs.Ythhdmokocddeiaa
open Go.RowKit

theorem run_inv {P : Program} (w : World) (T : TypeId) {x y : Nat} (h : Ieee.double.div 4607182418800017408 x = some y) : (binOp .quo T (.float .f64 4607182418800017408) (.float .f64 x)).run P w = .ok (.float .f64 y) w :=
  run_float_arith w .quo T .f64 _ x y h
set_option maxRecDepth 100000 in
set_option maxHeartbeats 1000000 in
theorem zeroAlike_same (x : Nat) (hx : NN64 x) (w : World) :
    Calls Try.prog 58 #[.float .f64 x, .float .f64 x] w fun e w' => e = .returned (.bool true) ∧ w = w' := by
  obtain ⟨y, hy, hny⟩ := inv_some hx
  have o1 := order_self64 hx
  have o2 := order_self64 hny
  have r1 := fun w => run_inv (P := Try.prog) w 74 hy
  clear hy hny hx
  go_enter Try.func58, Try.ntmps58
  go_wp2
  go_ret
  exact ⟨rfl, rfl⟩
set_option maxRecDepth 100000 in
set_option maxHeartbeats 1000000 in
theorem wideAlike_same (x y : Nat) (hx : NN64 x) (hy : NN64 y) (w : World) :
    Calls Try.prog 45 #[.complex .f64 x y, .complex .f64 x y] w fun e w' => e = .returned (.bool true) ∧ w = w' := by
  have HX := Lib.hid hx
  have HY := Lib.hid hy
  clear hx hy
  go_enter Try.func45, Try.ntmps45
  go_wp2_with (go_at_call 58; refine (zeroAlike_same _ (by first | (with_reducible exact HX.out) | (with_reducible exact HY.out)) _).mono ?_; rintro e w' ⟨rfl, rfl⟩)
  go_ret
  exact ⟨rfl, rfl⟩
theorem run_to128 (w : World) {x y : Nat} (hx : NN32 x) (hy : NN32 y) : (convert 31 61 (.complex .f32 x y)).run Try.prog w = .ok (.complex .f64 (to64 x) (to64 y)) w :=
  run_convert_complex w _ _ .f32 .f64 x y _ _ (by kernel_rfl) (by kernel_rfl) (by unfold cConvBits; rw [(to64_some hx).1, (to64_some hy).1]; rfl)
set_option maxRecDepth 100000 in
set_option maxHeartbeats 1000000 in
theorem singleAlike_same (x y : Nat) (hx : NN32 x) (hy : NN32 y) (w : World) :
    Calls Try.prog 18 #[.complex .f32 x y, .complex .f32 x y] w fun e w' => e = .returned (.bool true) ∧ w = w' := by
  have r1 := fun w => run_to128 w hx hy
  have h1 := Lib.hid (to64_some hx).2
  have h2 := Lib.hid (to64_some hy).2
  clear hx hy
  go_enter Try.func18, Try.ntmps18
  go_wp2_with (go_at_call 45; refine (wideAlike_same (to64 x) (to64 y) h1.out h2.out _).mono ?_; rintro e w' ⟨rfl, rfl⟩)
  go_ret
  exact ⟨rfl, rfl⟩
end Go.Proofs.Ythhdmokocddeiaa
