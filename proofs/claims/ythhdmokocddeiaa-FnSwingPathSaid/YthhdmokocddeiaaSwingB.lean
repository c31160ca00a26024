/- Swings: a step, of the program and of the reference. -/
import Derived.Test.YthhdmokocddeiaaSwingA
namespace Go.Proofs.Ythhdmokocddeiaa
open Go.RowKit

abbrev Z2 := Nat × Nat
abbrev zv (z : Z2) : Value := .complex .f32 z.1 z.2
def FinZ (z : Z2) : Prop := Fin32 z.1 ∧ Fin32 z.2
def tuZ (z : Z2) : Z2 := (neg0 z.2, z.1)
def haZ (z : Z2) : Z2 := (half z.1, half z.2)
def itr (f : Z2 → Z2) : Nat → Z2 → Z2
  | 0, z => z
  | k + 1, z => f (itr f k z)
def stZ (t s : Nat) (z : Z2) : Z2 := itr haZ s (itr tuZ t z)
def nmZ (t s : Nat) (z : Z2) (k : Nat) : Z2 := itr (stZ t s) k z
theorem tuZ_fin {z : Z2} (h : FinZ z) : FinZ (tuZ z) := ⟨neg0_fin h.2, h.1⟩
theorem haZ_fin {z : Z2} (h : FinZ z) : FinZ (haZ z) := ⟨(half_some h.1).2.1, (half_some h.2).2.1⟩
theorem itr_fin {f : Z2 → Z2} (hf : ∀ z, FinZ z → FinZ (f z)) {z : Z2} (h : FinZ z) : ∀ k, FinZ (itr f k z)
  | 0 => h
  | k + 1 => hf _ (itr_fin hf h k)
theorem stZ_fin {t s : Nat} {z : Z2} (h : FinZ z) : FinZ (stZ t s z) := itr_fin (fun _ => haZ_fin) (itr_fin (fun _ => tuZ_fin) h t) s
theorem nmZ_fin {t s : Nat} {z : Z2} (h : FinZ z) (k : Nat) : FinZ (nmZ t s z k) := itr_fin (fun _ => stZ_fin) h k
theorem run_neg0 {P : Program} (w : World) (T : TypeId) {y : Nat} (h : Fin32 y) : (binOp .sub T (.float .f32 0) (.float .f32 y)).run P w = .ok (.float .f32 (neg0 y)) w :=
  run_float_arith w .sub T .f32 0 y _ (sub0 h)
theorem run_half {P : Program} (w : World) (T : TypeId) {y : Nat} (h : Fin32 y) : (binOp .quo T (.float .f32 y) (.float .f32 1073741824)).run P w = .ok (.float .f32 (half y)) w :=
  run_float_arith w .quo T .f32 y _ _ (half_some h).1

set_option maxRecDepth 100000 in
set_option maxHeartbeats 1000000 in
theorem step_any (x0 y0 t s : Nat) (z : Z2) (hz : FinZ z) (ht : t ≤ 3) (hs : s ≤ 4) (w : World) :
    Calls Try.prog 57 #[swv x0 y0 t s, zv z] w fun e w' => e = .returned (zv (stZ t s z)) ∧ Below w.heap.size w w' := by
  have HZ := Lib.hid hz
  clear hz
  go_enter Try.func57, Try.ntmps57
  go_wp2
  go_loop [5, 6, 13] (fun a b i => ∃ k : Nat, k ≤ t ∧ i = .int .i64 k ∧ a = .float .f32 (itr tuZ k z).1 ∧ b = .float .f32 (itr tuZ k z).2) (fun _ _ i => t - (intOf i).toNat)
  case atStart => exact ⟨0, by omega, rfl, rfl, rfl⟩
  case round =>
    obtain ⟨k, hk, rfl, rfl, rfl⟩ := hrel
    by_cases hlt : k < t
    · have hf := itr_fin (fun _ => tuZ_fin) HZ.out k
      have r1 := fun w => run_neg0 (P := Try.prog) w 44 hf.2
      clear hf
      go_wp2
      go_round
      case rel => exact ⟨k + 1, by omega, by go_num, rfl, rfl⟩
      case measure => simp [intOf]; omega
    · obtain rfl : k = t := by omega
      go_wp2
      go_loop [5, 6, 21] (fun a b i => ∃ j : Nat, j ≤ s ∧ i = .int .i64 j ∧ a = .float .f32 (itr haZ j (itr tuZ k z)).1 ∧ b = .float .f32 (itr haZ j (itr tuZ k z)).2) (fun _ _ i => s - (intOf i).toNat)
      case atStart => exact ⟨0, by omega, rfl, rfl, rfl⟩
      case round =>
        obtain ⟨j, hj, rfl, rfl, rfl⟩ := hrel
        by_cases hltj : j < s
        · have hf := itr_fin (fun _ => haZ_fin) (itr_fin (fun _ => tuZ_fin) HZ.out k) j
          have r1 := fun w => run_half (P := Try.prog) w 44 hf.1
          have r2 := fun w => run_half (P := Try.prog) w 44 hf.2
          clear hf
          go_wp2
          go_round
          case rel => exact ⟨j + 1, by omega, by go_num, rfl, rfl⟩
          case measure => simp [intOf]; omega
        · obtain rfl : j = s := by omega
          go_wp2
          go_ret
          exact ⟨rfl, by repeat' (first | (with_reducible exact Below.refl _ _) | (with_reducible assumption) | (with_reducible refine Below.alloc ?_ ?_ _) | (with_reducible refine below_more ?_ ?_ _ _) | (with_reducible refine below_rd ?_ ?_ _ _) | (with_reducible refine Below.drew ?_) | (with_reducible refine Below.setCell ?_ ?_ _) | go_size)⟩
set_option maxRecDepth 100000 in
set_option maxHeartbeats 1000000 in
theorem l11Single_any (x0 y0 t s : Nat) (z : Z2) (hz : FinZ z) (ht : t ≤ 3) (hs : s ≤ 4) (w : World) :
    Calls Try.prog 47 #[zv z, swv x0 y0 t s] w fun e w' => e = .returned (zv (stZ t s z)) ∧ Below w.heap.size w w' := by
  have HZ := Lib.hid hz
  clear hz
  go_enter Try.func47, Try.ntmps47
  go_wp2
  go_loop [0, 5] (fun a i => ∃ k : Nat, k ≤ t ∧ i = .int .i64 k ∧ a = .complex .f32 (itr tuZ k z).1 (itr tuZ k z).2) (fun _ i => t - (intOf i).toNat)
  case atStart => exact ⟨0, by omega, rfl, rfl⟩
  case round =>
    obtain ⟨k, hk, rfl, rfl⟩ := hrel
    by_cases hlt : k < t
    · have hf := itr_fin (fun _ => tuZ_fin) HZ.out k
      have r1 := fun w => run_neg0 (P := Try.prog) w 44 hf.2
      clear hf
      go_wp2
      go_round
      case rel => exact ⟨k + 1, by omega, by go_num, rfl⟩
      case measure => simp [intOf]; omega
    · obtain rfl : k = t := by omega
      go_wp2
      go_loop [0, 6] (fun a i => ∃ j : Nat, j ≤ s ∧ i = .int .i64 j ∧ a = .complex .f32 (itr haZ j (itr tuZ k z)).1 (itr haZ j (itr tuZ k z)).2) (fun _ i => s - (intOf i).toNat)
      case atStart => exact ⟨0, by omega, rfl, rfl⟩
      case round =>
        obtain ⟨j, hj, rfl, rfl⟩ := hrel
        by_cases hltj : j < s
        · have hf := itr_fin (fun _ => haZ_fin) (itr_fin (fun _ => tuZ_fin) HZ.out k) j
          have r1 := fun w => run_half (P := Try.prog) w 44 hf.1
          have r2 := fun w => run_half (P := Try.prog) w 44 hf.2
          clear hf
          go_wp2
          go_round
          case rel => exact ⟨j + 1, by omega, by go_num, rfl⟩
          case measure => simp [intOf]; omega
        · obtain rfl : j = s := by omega
          go_wp2
          go_ret
          exact ⟨rfl, by repeat' (first | (with_reducible exact Below.refl _ _) | (with_reducible assumption) | (with_reducible refine Below.alloc ?_ ?_ _) | (with_reducible refine below_more ?_ ?_ _ _) | (with_reducible refine below_rd ?_ ?_ _ _) | (with_reducible refine Below.drew ?_) | (with_reducible refine Below.setCell ?_ ?_ _) | go_size)⟩
end Go.Proofs.Ythhdmokocddeiaa
