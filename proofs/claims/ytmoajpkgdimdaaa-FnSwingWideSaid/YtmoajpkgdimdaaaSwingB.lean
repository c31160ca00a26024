/- Swings: validity, a step, of the program and of the reference. Swings: a step, of the program and of the reference. -/
import Derived.Test.YtmoajpkgdimdaaaFloatB
import Derived.StillTailTactics
section -- a part
namespace Go.Proofs.Ytmoajpkgdimdaaa
open Go.RowKit

/-- A complex number of two words; a swing. -/
abbrev zc (x y : Nat) : Value := .complex .f32 x y
abbrev swv (x y : Nat) (t s : Int) : Value := .agg #[.complex .f32 x y, .int .i64 t, .int .i64 s]
def swOk (x y : Nat) (t s : Int) : Bool := finB x && finB y && inB t 0 3 && inB s 0 4

set_option maxRecDepth 100000 in
theorem finite_any (x : Nat) (w : World) :
    Calls Try.prog 36 #[.float .f32 x] w fun e w' => e = .returned (.bool (finB x)) ∧ w = w' := by
  have ht := fin_tests x
  rcases Bool.eq_false_or_eq_true ((FloatKind.f32.format.order x 4286578687 == some .gt) || (FloatKind.f32.format.order x 4286578687 == some .eq)) with h1 | h1
  · rw [h1, Bool.true_and] at ht
    go_enter Try.func36, Try.ntmps36
    go_wp2
    go_ret
    exact ⟨rfl, rfl⟩
  · rw [h1, Bool.false_and] at ht
    have HT := Lib.hid ht.symm
    clear ht
    go_enter Try.func36, Try.ntmps36
    go_wp2
    go_ret
    exact ⟨by rw [HT.out]; rfl, rfl⟩

set_option maxRecDepth 100000 in
theorem swingValid_any (x y : Nat) (t s : Int) (w : World) :
    Calls Try.prog 15 #[swv x y t s] w fun e w' => e = .returned (.bool (swOk x y t s)) ∧ Below w.heap.size w w' := by
  rcases Bool.eq_false_or_eq_true (finB x) with h1 | h1
  · rcases Bool.eq_false_or_eq_true (finB y) with h2 | h2
    · rcases Bool.eq_false_or_eq_true (inB t 0 3) with h3 | h3
      · have HO := Lib.hid (show swOk x y t s = inB s 0 4 by rw [swOk, h1, h2, h3]; rfl)
        go_enter Try.func15, Try.ntmps15
        go_wp2_with (first
          | (go_at_call 36; refine (finite_any _ _).mono ?_; rintro e w' ⟨rfl, rfl⟩)
          | (go_at_call 16; refine (within_any _ _ _ _).mono ?_; rintro e w' ⟨rfl, rfl⟩))
        go_ret
        exact ⟨by rw [HO.out]; rfl, by repeat' (first | (with_reducible exact Below.refl _ _) | (with_reducible assumption) | (with_reducible refine Below.alloc ?_ ?_ _) | (with_reducible refine below_more ?_ ?_ _ _) | (with_reducible refine below_rd ?_ ?_ _ _) | (with_reducible refine Below.drew ?_) | (with_reducible refine Below.setCell ?_ ?_ _) | go_size)⟩
      · have HO := Lib.hid (show swOk x y t s = false by rw [swOk, h3, Bool.and_false]; rfl)
        go_enter Try.func15, Try.ntmps15
        go_wp2_with (first
          | (go_at_call 36; refine (finite_any _ _).mono ?_; rintro e w' ⟨rfl, rfl⟩)
          | (go_at_call 16; refine (within_any _ _ _ _).mono ?_; rintro e w' ⟨rfl, rfl⟩))
        go_ret
        exact ⟨by rw [HO.out]; rfl, by repeat' (first | (with_reducible exact Below.refl _ _) | (with_reducible assumption) | (with_reducible refine Below.alloc ?_ ?_ _) | (with_reducible refine below_more ?_ ?_ _ _) | (with_reducible refine below_rd ?_ ?_ _ _) | (with_reducible refine Below.drew ?_) | (with_reducible refine Below.setCell ?_ ?_ _) | go_size)⟩
    · have HO := Lib.hid (show swOk x y t s = false by rw [swOk, h2, Bool.and_false]; rfl)
      go_enter Try.func15, Try.ntmps15
      go_wp2_with (first
        | (go_at_call 36; refine (finite_any _ _).mono ?_; rintro e w' ⟨rfl, rfl⟩)
        | (go_at_call 16; refine (within_any _ _ _ _).mono ?_; rintro e w' ⟨rfl, rfl⟩))
      go_ret
      exact ⟨by rw [HO.out]; rfl, by repeat' (first | (with_reducible exact Below.refl _ _) | (with_reducible assumption) | (with_reducible refine Below.alloc ?_ ?_ _) | (with_reducible refine below_more ?_ ?_ _ _) | (with_reducible refine below_rd ?_ ?_ _ _) | (with_reducible refine Below.drew ?_) | (with_reducible refine Below.setCell ?_ ?_ _) | go_size)⟩
  · have HO := Lib.hid (show swOk x y t s = false by rw [swOk, h1]; rfl)
    go_enter Try.func15, Try.ntmps15
    go_wp2_with (first
      | (go_at_call 36; refine (finite_any _ _).mono ?_; rintro e w' ⟨rfl, rfl⟩)
      | (go_at_call 16; refine (within_any _ _ _ _).mono ?_; rintro e w' ⟨rfl, rfl⟩))
    go_ret
    exact ⟨by rw [HO.out]; rfl, by repeat' (first | (with_reducible exact Below.refl _ _) | (with_reducible assumption) | (with_reducible refine Below.alloc ?_ ?_ _) | (with_reducible refine below_more ?_ ?_ _ _) | (with_reducible refine below_rd ?_ ?_ _ _) | (with_reducible refine Below.drew ?_) | (with_reducible refine Below.setCell ?_ ?_ _) | go_size)⟩
/-- A number taken from itself, in the model. -/
theorem run_sub_self {P : Program} (w : World) (T : TypeId) {x : Nat} (hx : x < 4294967296) (h : finB x = true) : (binOp .sub T (.float .f32 x) (.float .f32 x)).run P w = .ok (.float .f32 0) w :=
  run_float_arith w .sub T .f32 x x 0 (sub_self_fin ((finB_iff hx).1 h))
theorem order00 : (FloatKind.f32.format.order 0 0 == some .eq) = true := by decide +kernel
set_option maxRecDepth 100000 in
set_option maxHeartbeats 1000000 in
theorem specSwingValid_any (x y : Nat) (t s : Int) (hx : x < 4294967296) (hy : y < 4294967296) (w : World) :
    Calls Try.prog 18 #[swv x y t s] w fun e w' => e = .returned (.bool (swOk x y t s)) ∧ Below w.heap.size w w' := by
  have o00 := order00
  rcases Bool.eq_false_or_eq_true (finB x) with h1 | h1
  · have r1 := fun w => run_sub_self (P := Try.prog) w 65 hx h1
    rcases Bool.eq_false_or_eq_true (finB y) with h2 | h2
    · have r2 := fun w => run_sub_self (P := Try.prog) w 65 hy h2
      rcases Bool.eq_false_or_eq_true (inB t 0 3) with h3 | h3
      · have HO := Lib.hid (show swOk x y t s = inB s 0 4 by rw [swOk, h1, h2, h3]; rfl)
        go_enter Try.func18, Try.ntmps18
        go_wp2_with (go_at_call 19; refine (l6In_any _ _ _ _).mono ?_; rintro e w' ⟨rfl, rfl⟩)
        go_ret
        exact ⟨by rw [HO.out]; rfl, by repeat' (first | (with_reducible exact Below.refl _ _) | (with_reducible assumption) | (with_reducible refine Below.alloc ?_ ?_ _) | (with_reducible refine below_more ?_ ?_ _ _) | (with_reducible refine below_rd ?_ ?_ _ _) | (with_reducible refine Below.drew ?_) | (with_reducible refine Below.setCell ?_ ?_ _) | go_size)⟩
      · have HO := Lib.hid (show swOk x y t s = false by rw [swOk, h3, Bool.and_false]; rfl)
        go_enter Try.func18, Try.ntmps18
        go_wp2_with (go_at_call 19; refine (l6In_any _ _ _ _).mono ?_; rintro e w' ⟨rfl, rfl⟩)
        go_ret
        exact ⟨by rw [HO.out]; rfl, by repeat' (first | (with_reducible exact Below.refl _ _) | (with_reducible assumption) | (with_reducible refine Below.alloc ?_ ?_ _) | (with_reducible refine below_more ?_ ?_ _ _) | (with_reducible refine below_rd ?_ ?_ _ _) | (with_reducible refine Below.drew ?_) | (with_reducible refine Below.setCell ?_ ?_ _) | go_size)⟩
    · have r2 := fun w => run_sub_nan (P := Try.prog) w 65 y y (sub_self_no h2)
      have n2 := nan32_order
      have HO := Lib.hid (show swOk x y t s = false by rw [swOk, h2, Bool.and_false]; rfl)
      go_enter Try.func18, Try.ntmps18
      go_wp2_with (go_at_call 19; refine (l6In_any _ _ _ _).mono ?_; rintro e w' ⟨rfl, rfl⟩)
      go_ret
      exact ⟨by rw [HO.out]; rfl, by repeat' (first | (with_reducible exact Below.refl _ _) | (with_reducible assumption) | (with_reducible refine Below.alloc ?_ ?_ _) | (with_reducible refine below_more ?_ ?_ _ _) | (with_reducible refine below_rd ?_ ?_ _ _) | (with_reducible refine Below.drew ?_) | (with_reducible refine Below.setCell ?_ ?_ _) | go_size)⟩
  · have r1 := fun w => run_sub_nan (P := Try.prog) w 65 x x (sub_self_no h1)
    have n1 := nan32_order
    have HO := Lib.hid (show swOk x y t s = false by rw [swOk, h1]; rfl)
    go_enter Try.func18, Try.ntmps18
    go_wp2_with (go_at_call 19; refine (l6In_any _ _ _ _).mono ?_; rintro e w' ⟨rfl, rfl⟩)
    go_ret
    exact ⟨by rw [HO.out]; rfl, by repeat' (first | (with_reducible exact Below.refl _ _) | (with_reducible assumption) | (with_reducible refine Below.alloc ?_ ?_ _) | (with_reducible refine below_more ?_ ?_ _ _) | (with_reducible refine below_rd ?_ ?_ _ _) | (with_reducible refine Below.drew ?_) | (with_reducible refine Below.setCell ?_ ?_ _) | go_size)⟩
end Go.Proofs.Ytmoajpkgdimdaaa
end
section -- a part
namespace Go.Proofs.Ytmoajpkgdimdaaa
open Go.RowKit

abbrev Z2 := Nat × Nat
abbrev zv (z : Z2) : Value := .complex .f32 z.1 z.2
def FinZ (z : Z2) : Prop := Fin32 z.1 ∧ Fin32 z.2
def tuZ (z : Z2) : Z2 := (neg0 z.2, z.1)
def haZ (z : Z2) : Z2 := (half z.1, half z.2)
def itr (f : Z2 → Z2) : Nat → Z2 → Z2
  | 0, z => z
  | k + 1, z => f (itr f k z)
def stZ (t s : Nat) (z : Z2) : Z2 := itr haZ s (itr tuZ t z)
def nmZ (t s : Nat) (z : Z2) (k : Nat) : Z2 := itr (stZ t s) k z
theorem tuZ_fin {z : Z2} (h : FinZ z) : FinZ (tuZ z) := ⟨neg0_fin h.2, h.1⟩
theorem haZ_fin {z : Z2} (h : FinZ z) : FinZ (haZ z) := ⟨(half_some h.1).2.1, (half_some h.2).2.1⟩
theorem itr_fin {f : Z2 → Z2} (hf : ∀ z, FinZ z → FinZ (f z)) {z : Z2} (h : FinZ z) : ∀ k, FinZ (itr f k z)
  | 0 => h
  | k + 1 => hf _ (itr_fin hf h k)
theorem stZ_fin {t s : Nat} {z : Z2} (h : FinZ z) : FinZ (stZ t s z) := itr_fin (fun _ => haZ_fin) (itr_fin (fun _ => tuZ_fin) h t) s
theorem nmZ_fin {t s : Nat} {z : Z2} (h : FinZ z) (k : Nat) : FinZ (nmZ t s z k) := itr_fin (fun _ => stZ_fin) h k
theorem run_neg0 {P : Program} (w : World) (T : TypeId) {y : Nat} (h : Fin32 y) : (binOp .sub T (.float .f32 0) (.float .f32 y)).run P w = .ok (.float .f32 (neg0 y)) w :=
  run_float_arith w .sub T .f32 0 y _ (sub0 h)
theorem run_half {P : Program} (w : World) (T : TypeId) {y : Nat} (h : Fin32 y) : (binOp .quo T (.float .f32 y) (.float .f32 1073741824)).run P w = .ok (.float .f32 (half y)) w :=
  run_float_arith w .quo T .f32 y _ _ (half_some h).1

set_option maxRecDepth 100000 in
set_option maxHeartbeats 1000000 in
theorem step_any (x0 y0 t s : Nat) (z : Z2) (hz : FinZ z) (ht : t ≤ 3) (hs : s ≤ 4) (w : World) :
    Calls Try.prog 50 #[swv x0 y0 t s, zv z] w fun e w' => e = .returned (zv (stZ t s z)) ∧ Below w.heap.size w w' := by
  have HZ := Lib.hid hz
  clear hz
  go_enter Try.func50, Try.ntmps50
  go_wp2
  go_loop [5, 6, 13] (fun a b i => ∃ k : Nat, k ≤ t ∧ i = .int .i64 k ∧ a = .float .f32 (itr tuZ k z).1 ∧ b = .float .f32 (itr tuZ k z).2) (fun _ _ i => t - (intOf i).toNat)
  case atStart => exact ⟨0, by omega, rfl, rfl, rfl⟩
  case round =>
    obtain ⟨k, hk, rfl, rfl, rfl⟩ := hrel
    by_cases hlt : k < t
    · have hf := itr_fin (fun _ => tuZ_fin) HZ.out k
      have r1 := fun w => run_neg0 (P := Try.prog) w 65 hf.2
      clear hf
      go_wp2
      go_round
      case rel => exact ⟨k + 1, by omega, by go_num, rfl, rfl⟩
      case measure => simp [intOf]; omega
    · obtain rfl : k = t := by omega
      go_wp2
      go_loop [5, 6, 21] (fun a b i => ∃ j : Nat, j ≤ s ∧ i = .int .i64 j ∧ a = .float .f32 (itr haZ j (itr tuZ k z)).1 ∧ b = .float .f32 (itr haZ j (itr tuZ k z)).2) (fun _ _ i => s - (intOf i).toNat)
      case atStart => exact ⟨0, by omega, rfl, rfl, rfl⟩
      case round =>
        obtain ⟨j, hj, rfl, rfl, rfl⟩ := hrel
        by_cases hltj : j < s
        · have hf := itr_fin (fun _ => haZ_fin) (itr_fin (fun _ => tuZ_fin) HZ.out k) j
          have r1 := fun w => run_half (P := Try.prog) w 65 hf.1
          have r2 := fun w => run_half (P := Try.prog) w 65 hf.2
          clear hf
          go_wp2
          go_round
          case rel => exact ⟨j + 1, by omega, by go_num, rfl, rfl⟩
          case measure => simp [intOf]; omega
        · obtain rfl : j = s := by omega
          go_wp2
          go_ret
          exact ⟨rfl, by repeat' (first | (with_reducible exact Below.refl _ _) | (with_reducible assumption) | (with_reducible refine Below.alloc ?_ ?_ _) | (with_reducible refine below_more ?_ ?_ _ _) | (with_reducible refine below_rd ?_ ?_ _ _) | (with_reducible refine Below.drew ?_) | (with_reducible refine Below.setCell ?_ ?_ _) | go_size)⟩
set_option maxRecDepth 100000 in
set_option maxHeartbeats 1000000 in
theorem l11Single_any (x0 y0 t s : Nat) (z : Z2) (hz : FinZ z) (ht : t ≤ 3) (hs : s ≤ 4) (w : World) :
    Calls Try.prog 58 #[zv z, swv x0 y0 t s] w fun e w' => e = .returned (zv (stZ t s z)) ∧ Below w.heap.size w w' := by
  have HZ := Lib.hid hz
  clear hz
  go_enter Try.func58, Try.ntmps58
  go_wp2
  go_loop [0, 5] (fun a i => ∃ k : Nat, k ≤ t ∧ i = .int .i64 k ∧ a = .complex .f32 (itr tuZ k z).1 (itr tuZ k z).2) (fun _ i => t - (intOf i).toNat)
  case atStart => exact ⟨0, by omega, rfl, rfl⟩
  case round =>
    obtain ⟨k, hk, rfl, rfl⟩ := hrel
    by_cases hlt : k < t
    · have hf := itr_fin (fun _ => tuZ_fin) HZ.out k
      have r1 := fun w => run_neg0 (P := Try.prog) w 65 hf.2
      clear hf
      go_wp2
      go_round
      case rel => exact ⟨k + 1, by omega, by go_num, rfl⟩
      case measure => simp [intOf]; omega
    · obtain rfl : k = t := by omega
      go_wp2
      go_loop [0, 6] (fun a i => ∃ j : Nat, j ≤ s ∧ i = .int .i64 j ∧ a = .complex .f32 (itr haZ j (itr tuZ k z)).1 (itr haZ j (itr tuZ k z)).2) (fun _ i => s - (intOf i).toNat)
      case atStart => exact ⟨0, by omega, rfl, rfl⟩
      case round =>
        obtain ⟨j, hj, rfl, rfl⟩ := hrel
        by_cases hltj : j < s
        · have hf := itr_fin (fun _ => haZ_fin) (itr_fin (fun _ => tuZ_fin) HZ.out k) j
          have r1 := fun w => run_half (P := Try.prog) w 65 hf.1
          have r2 := fun w => run_half (P := Try.prog) w 65 hf.2
          clear hf
          go_wp2
          go_round
          case rel => exact ⟨j + 1, by omega, by go_num, rfl⟩
          case measure => simp [intOf]; omega
        · obtain rfl : j = s := by omega
          go_wp2
          go_ret
          exact ⟨rfl, by repeat' (first | (with_reducible exact Below.refl _ _) | (with_reducible assumption) | (with_reducible refine Below.alloc ?_ ?_ _) | (with_reducible refine below_more ?_ ?_ _ _) | (with_reducible refine below_rd ?_ ?_ _ _) | (with_reducible refine Below.drew ?_) | (with_reducible refine Below.setCell ?_ ?_ _) | go_size)⟩
end Go.Proofs.Ytmoajpkgdimdaaa
end
