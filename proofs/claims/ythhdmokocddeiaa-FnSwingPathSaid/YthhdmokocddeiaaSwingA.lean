/- Swings: validity, a step, of the program and of the reference. -/
import Derived.Test.YthhdmokocddeiaaFloatB
import Derived.StillTailTactics
namespace Go.Proofs.Ythhdmokocddeiaa
open Go.RowKit

/-- A complex number of two words; a swing. -/
abbrev zc (x y : Nat) : Value := .complex .f32 x y
abbrev swv (x y : Nat) (t s : Int) : Value := .agg #[.complex .f32 x y, .int .i64 t, .int .i64 s]
def swOk (x y : Nat) (t s : Int) : Bool := finB x && finB y && inB t 0 3 && inB s 0 4

set_option maxRecDepth 100000 in
theorem finite_any (x : Nat) (w : World) :
    Calls Try.prog 41 #[.float .f32 x] w fun e w' => e = .returned (.bool (finB x)) ∧ w = w' := by
  have ht := fin_tests x
  rcases Bool.eq_false_or_eq_true ((FloatKind.f32.format.order x 4286578687 == some .gt) || (FloatKind.f32.format.order x 4286578687 == some .eq)) with h1 | h1
  · rw [h1, Bool.true_and] at ht
    go_enter Try.func41, Try.ntmps41
    go_wp2
    go_ret
    exact ⟨rfl, rfl⟩
  · rw [h1, Bool.false_and] at ht
    have HT := Lib.hid ht.symm
    clear ht
    go_enter Try.func41, Try.ntmps41
    go_wp2
    go_ret
    exact ⟨by rw [HT.out]; rfl, rfl⟩

set_option maxRecDepth 100000 in
theorem swingValid_any (x y : Nat) (t s : Int) (w : World) :
    Calls Try.prog 15 #[swv x y t s] w fun e w' => e = .returned (.bool (swOk x y t s)) ∧ Below w.heap.size w w' := by
  rcases Bool.eq_false_or_eq_true (finB x) with h1 | h1
  · rcases Bool.eq_false_or_eq_true (finB y) with h2 | h2
    · rcases Bool.eq_false_or_eq_true (inB t 0 3) with h3 | h3
      · have HO := Lib.hid (show swOk x y t s = inB s 0 4 by rw [swOk, h1, h2, h3]; rfl)
        go_enter Try.func15, Try.ntmps15
        go_wp2_with (first
          | (go_at_call 41; refine (finite_any _ _).mono ?_; rintro e w' ⟨rfl, rfl⟩)
          | (go_at_call 42; refine (within_any _ _ _ _).mono ?_; rintro e w' ⟨rfl, rfl⟩))
        go_ret
        exact ⟨by rw [HO.out]; rfl, by repeat' (first | (with_reducible exact Below.refl _ _) | (with_reducible assumption) | (with_reducible refine Below.alloc ?_ ?_ _) | (with_reducible refine below_more ?_ ?_ _ _) | (with_reducible refine below_rd ?_ ?_ _ _) | (with_reducible refine Below.drew ?_) | (with_reducible refine Below.setCell ?_ ?_ _) | go_size)⟩
      · have HO := Lib.hid (show swOk x y t s = false by rw [swOk, h3, Bool.and_false]; rfl)
        go_enter Try.func15, Try.ntmps15
        go_wp2_with (first
          | (go_at_call 41; refine (finite_any _ _).mono ?_; rintro e w' ⟨rfl, rfl⟩)
          | (go_at_call 42; refine (within_any _ _ _ _).mono ?_; rintro e w' ⟨rfl, rfl⟩))
        go_ret
        exact ⟨by rw [HO.out]; rfl, by repeat' (first | (with_reducible exact Below.refl _ _) | (with_reducible assumption) | (with_reducible refine Below.alloc ?_ ?_ _) | (with_reducible refine below_more ?_ ?_ _ _) | (with_reducible refine below_rd ?_ ?_ _ _) | (with_reducible refine Below.drew ?_) | (with_reducible refine Below.setCell ?_ ?_ _) | go_size)⟩
    · have HO := Lib.hid (show swOk x y t s = false by rw [swOk, h2, Bool.and_false]; rfl)
      go_enter Try.func15, Try.ntmps15
      go_wp2_with (first
        | (go_at_call 41; refine (finite_any _ _).mono ?_; rintro e w' ⟨rfl, rfl⟩)
        | (go_at_call 42; refine (within_any _ _ _ _).mono ?_; rintro e w' ⟨rfl, rfl⟩))
      go_ret
      exact ⟨by rw [HO.out]; rfl, by repeat' (first | (with_reducible exact Below.refl _ _) | (with_reducible assumption) | (with_reducible refine Below.alloc ?_ ?_ _) | (with_reducible refine below_more ?_ ?_ _ _) | (with_reducible refine below_rd ?_ ?_ _ _) | (with_reducible refine Below.drew ?_) | (with_reducible refine Below.setCell ?_ ?_ _) | go_size)⟩
  · have HO := Lib.hid (show swOk x y t s = false by rw [swOk, h1]; rfl)
    go_enter Try.func15, Try.ntmps15
    go_wp2_with (first
      | (go_at_call 41; refine (finite_any _ _).mono ?_; rintro e w' ⟨rfl, rfl⟩)
      | (go_at_call 42; refine (within_any _ _ _ _).mono ?_; rintro e w' ⟨rfl, rfl⟩))
    go_ret
    exact ⟨by rw [HO.out]; rfl, by repeat' (first | (with_reducible exact Below.refl _ _) | (with_reducible assumption) | (with_reducible refine Below.alloc ?_ ?_ _) | (with_reducible refine below_more ?_ ?_ _ _) | (with_reducible refine below_rd ?_ ?_ _ _) | (with_reducible refine Below.drew ?_) | (with_reducible refine Below.setCell ?_ ?_ _) | go_size)⟩
/-- A number taken from itself, in the model. -/
theorem run_sub_self {P : Program} (w : World) (T : TypeId) {x : Nat} (hx : x < 4294967296) (h : finB x = true) : (binOp .sub T (.float .f32 x) (.float .f32 x)).run P w = .ok (.float .f32 0) w :=
  run_float_arith w .sub T .f32 x x 0 (sub_self_fin ((finB_iff hx).1 h))
theorem order00 : (FloatKind.f32.format.order 0 0 == some .eq) = true := by decide +kernel
set_option maxRecDepth 100000 in
set_option maxHeartbeats 1000000 in
theorem specSwingValid_any (x y : Nat) (t s : Int) (hx : x < 4294967296) (hy : y < 4294967296) (w : World) :
    Calls Try.prog 16 #[swv x y t s] w fun e w' => e = .returned (.bool (swOk x y t s)) ∧ Below w.heap.size w w' := by
  have o00 := order00
  rcases Bool.eq_false_or_eq_true (finB x) with h1 | h1
  · have r1 := fun w => run_sub_self (P := Try.prog) w 44 hx h1
    rcases Bool.eq_false_or_eq_true (finB y) with h2 | h2
    · have r2 := fun w => run_sub_self (P := Try.prog) w 44 hy h2
      rcases Bool.eq_false_or_eq_true (inB t 0 3) with h3 | h3
      · have HO := Lib.hid (show swOk x y t s = inB s 0 4 by rw [swOk, h1, h2, h3]; rfl)
        go_enter Try.func16, Try.ntmps16
        go_wp2_with (go_at_call 43; refine (l6In_any _ _ _ _).mono ?_; rintro e w' ⟨rfl, rfl⟩)
        go_ret
        exact ⟨by rw [HO.out]; rfl, by repeat' (first | (with_reducible exact Below.refl _ _) | (with_reducible assumption) | (with_reducible refine Below.alloc ?_ ?_ _) | (with_reducible refine below_more ?_ ?_ _ _) | (with_reducible refine below_rd ?_ ?_ _ _) | (with_reducible refine Below.drew ?_) | (with_reducible refine Below.setCell ?_ ?_ _) | go_size)⟩
      · have HO := Lib.hid (show swOk x y t s = false by rw [swOk, h3, Bool.and_false]; rfl)
        go_enter Try.func16, Try.ntmps16
        go_wp2_with (go_at_call 43; refine (l6In_any _ _ _ _).mono ?_; rintro e w' ⟨rfl, rfl⟩)
        go_ret
        exact ⟨by rw [HO.out]; rfl, by repeat' (first | (with_reducible exact Below.refl _ _) | (with_reducible assumption) | (with_reducible refine Below.alloc ?_ ?_ _) | (with_reducible refine below_more ?_ ?_ _ _) | (with_reducible refine below_rd ?_ ?_ _ _) | (with_reducible refine Below.drew ?_) | (with_reducible refine Below.setCell ?_ ?_ _) | go_size)⟩
    · have r2 := fun w => run_sub_nan (P := Try.prog) w 44 y y (sub_self_no h2)
      have n2 := nan32_order
      have HO := Lib.hid (show swOk x y t s = false by rw [swOk, h2, Bool.and_false]; rfl)
      go_enter Try.func16, Try.ntmps16
      go_wp2_with (go_at_call 43; refine (l6In_any _ _ _ _).mono ?_; rintro e w' ⟨rfl, rfl⟩)
      go_ret
      exact ⟨by rw [HO.out]; rfl, by repeat' (first | (with_reducible exact Below.refl _ _) | (with_reducible assumption) | (with_reducible refine Below.alloc ?_ ?_ _) | (with_reducible refine below_more ?_ ?_ _ _) | (with_reducible refine below_rd ?_ ?_ _ _) | (with_reducible refine Below.drew ?_) | (with_reducible refine Below.setCell ?_ ?_ _) | go_size)⟩
  · have r1 := fun w => run_sub_nan (P := Try.prog) w 44 x x (sub_self_no h1)
    have n1 := nan32_order
    have HO := Lib.hid (show swOk x y t s = false by rw [swOk, h1]; rfl)
    go_enter Try.func16, Try.ntmps16
    go_wp2_with (go_at_call 43; refine (l6In_any _ _ _ _).mono ?_; rintro e w' ⟨rfl, rfl⟩)
    go_ret
    exact ⟨by rw [HO.out]; rfl, by repeat' (first | (with_reducible exact Below.refl _ _) | (with_reducible assumption) | (with_reducible refine Below.alloc ?_ ?_ _) | (with_reducible refine below_more ?_ ?_ _ _) | (with_reducible refine below_rd ?_ ?_ _ _) | (with_reducible refine Below.drew ?_) | (with_reducible refine Below.setCell ?_ ?_ _) | go_size)⟩
end Go.Proofs.Ythhdmokocddeiaa
