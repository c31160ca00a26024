/- Swings: sums of numbers, of the program and of the reference. -/
import Derived.Test.YthhdmokocddeiaaSwingD
import Derived.Deep.RegionHeld3
namespace Go.Proofs.Ythhdmokocddeiaa
open Go.RowKit

def addZ (a b : Z2) : Z2 := ((Ieee.single.add a.1 b.1).getD 0, (Ieee.single.add a.2 b.2).getD 0)
def NNZ (a : Z2) : Prop := NN32 a.1 ∧ NN32 a.2
theorem addZ_some {a b : Z2} (ha : NNZ a) (hb : FinZ b) : cSumBits .add .f32 a.1 a.2 b.1 b.2 = some ((addZ a b).1, (addZ a b).2) ∧ NNZ (addZ a b) := by
  obtain ⟨x, h1, h2⟩ := add_some ha.1 hb.1
  obtain ⟨y, h3, h4⟩ := add_some ha.2 hb.2
  have e1 : (addZ a b).1 = x := by simp [addZ, h1]
  have e2 : (addZ a b).2 = y := by simp [addZ, h3]
  refine ⟨?_, by rw [e1]; exact h2, by rw [e2]; exact h4⟩
  rw [e1, e2]
  have h1' : floatBits .add .f32 a.1 b.1 = some x := h1
  have h3' : floatBits .add .f32 a.2 b.2 = some y := h3
  simp [cSumBits, h1', h3']
def smZ (t s : Nat) (z : Z2) : Nat → Z2
  | 0 => (0, 0)
  | n + 1 => addZ (smZ t s z n) (nmZ t s z n)
theorem smZ_nn {t s : Nat} {z : Z2} (h : FinZ z) : ∀ n, NNZ (smZ t s z n)
  | 0 => ⟨by unfold smZ NN32; decide, by unfold smZ NN32; decide⟩
  | n + 1 => (addZ_some (smZ_nn h n) (nmZ_fin h n)).2
theorem run_addZ {P : Program} (w : World) (T : TypeId) {a b : Z2} (ha : NNZ a) (hb : FinZ b) : (binOp .add T (.complex .f32 a.1 a.2) (.complex .f32 b.1 b.2)).run P w = .ok (.complex .f32 (addZ a b).1 (addZ a b).2) w :=
  run_complex_sum w .add (Or.inl rfl) T .f32 _ _ _ _ _ _ (addZ_some ha hb).1
/-- SwingSum's value. -/
def smV (z : Z2) (t s n : Int) : Z2 := if saOk z t s n = true then smZ t.toNat s.toNat z n.toNat else (0, 0)
def intV : Value → Nat
  | .int _ n => n.toNat
  | _ => 0
set_option maxRecDepth 100000 in
set_option maxHeartbeats 1000000 in
theorem swingSum_yes (z : Z2) (t s n : Nat) (hz : FinZ z) (ht : t ≤ 3) (hs : s ≤ 4) (hn : n ≤ 400) (hok : swOk z.1 z.2 t s = true) (w : World) :
    Calls Try.prog 22 #[swv z.1 z.2 t s, .int .i64 n] w fun e w' => e = .returned (.tuple #[zv (smZ t s z n), .bool true]) ∧ Below w.heap.size w w' := by
  have hin : inB n 0 400 = true := inB_iff.2 ⟨by omega, by omega⟩
  have HZ := Lib.hid hz
  clear hz
  go_enter Try.func22, Try.ntmps22
  go_wp2_with (first
    | (go_at_call 15; refine (swingValid_any _ _ _ _ _).mono ?_; rintro e w' ⟨rfl, hb⟩; obtain ⟨os, d, rfl⟩ := more_of_below hb; clear hb)
    | (go_at_call 42; refine (within_any _ _ _ _).mono ?_; rintro e w' ⟨rfl, rfl⟩)
    | (go_at_call 44; refine (numbers_any t s z HZ.out ht hs n (by omega) _).mono ?_; rintro e w2 ⟨g, cap, rfl, hcell, -, hb⟩; have HB := Lib.hid hb; clear hb; rw [nmL_len] at hcell ⊢; have HC := Lib.hid hcell; clear hcell))
  go_loop [6, 21] (fun a i => ∃ k : Nat, k ≤ n ∧ i = .int .i64 k ∧ a = .complex .f32 (smZ t s z k).1 (smZ t s z k).2) (fun _ i => n - (intOf i).toNat)
  case atStart => exact ⟨0, by omega, rfl, rfl⟩
  case round =>
    obtain ⟨k, hk, rfl, rfl⟩ := hrel
    by_cases hlt : k < n
    · have ck := HC.out k hlt
      rw [show (nmL t s z n)[k]? = some (zv (nmZ t s z k)) by simp [nmL, hlt]] at ck
      have r1 := fun w => run_addZ (P := Try.prog) w 31 (smZ_nn (t := t) (s := s) HZ.out k) (nmZ_fin (t := t) (s := s) HZ.out k)
      go_wp2
      go_round
      case rel => exact ⟨k + 1, by omega, by go_num, rfl⟩
      case measure => simp [intOf]; omega
    · obtain rfl : k = n := by omega
      go_wp2
      go_returns
      exact ⟨rfl, (by repeat' (first | (with_reducible exact Below.refl _ _) | (with_reducible assumption) | (with_reducible refine Below.alloc ?_ ?_ _) | (with_reducible refine below_more ?_ ?_ _ _) | (with_reducible refine below_rd ?_ ?_ _ _) | (with_reducible refine Below.drew ?_) | (with_reducible refine Below.setCell ?_ ?_ _) | go_size) : Below w.heap.size w (more (w.alloc (.cells #[.complex .f32 z.1 z.2, .int .i64 t, .int .i64 s] 33)) _ _)).trans (HB.out.mono (by (first | omega | (simp; omega) | (simp; done))))⟩
set_option maxRecDepth 100000 in
set_option maxHeartbeats 1000000 in
theorem specSwingSum_yes (z : Z2) (t s n : Nat) (hz : FinZ z) (ht : t ≤ 3) (hs : s ≤ 4) (hn : n ≤ 400) (hok : swOk z.1 z.2 t s = true) (w : World) :
    Calls Try.prog 23 #[swv z.1 z.2 t s, .int .i64 n] w fun e w' => e = .returned (.tuple #[zv (smZ t s z n), .bool true]) ∧ Below w.heap.size w w' := by
  have hin : inB n 0 400 = true := inB_iff.2 ⟨by omega, by omega⟩
  have HZ := Lib.hid hz
  clear hz
  go_enter Try.func23, Try.ntmps23
  go_wp2_with (first
    | (go_at_call 16; refine (specSwingValid_any _ _ _ _ HZ.out.1.1 HZ.out.2.1 _).mono ?_; rintro e w' ⟨rfl, hb⟩; obtain ⟨os, d, rfl⟩ := more_of_below hb; clear hb)
    | (go_at_call 43; refine (l6In_any _ _ _ _).mono ?_; rintro e w' ⟨rfl, rfl⟩))
  obtain ⟨w0, rfl⟩ : ∃ w0 : World, w0 = w := ⟨_, rfl⟩
  go_loopw [6, 7, 8] (fun b a i wr => ∃ j : Nat, j ≤ n ∧ i = .int .i64 j ∧ b = .complex .f32 (smZ t s z j).1 (smZ t s z j).2 ∧ a = .complex .f32 (nmZ t s z j).1 (nmZ t s z j).2 ∧ ∃ os d, wr = more (w0.alloc (.cells #[.complex .f32 z.1 z.2, .int .i64 t, .int .i64 s] 33)) os d) (fun _ _ i _ => n - (intOf i).toNat)
  case atStart => exact ⟨0, by omega, rfl, rfl, rfl, _, _, rfl⟩
  case round =>
    obtain ⟨j, hj, rfl, rfl, rfl, os, d, rfl⟩ := hrel
    by_cases hlt : j < n
    · have HF := Lib.hid (nmZ_fin (t := t) (s := s) HZ.out j)
      have r1 := fun w => run_addZ (P := Try.prog) w 31 (smZ_nn (t := t) (s := s) HZ.out j) HF.out
      go_wp2_with (go_at_call 47; refine (l11Single_any _ _ t s (nmZ t s z j) HF.out ht hs _).mono ?_; rintro e w' ⟨rfl, hb⟩; obtain ⟨os, d, rfl⟩ := more_of_below hb; clear hb)
      go_roundw
      case rel => exact ⟨j + 1, by omega, by go_num, rfl, rfl, _, _, rfl⟩
      case measure => simp [intOf]; omega
    · obtain rfl : j = n := by omega
      go_wp2
      go_returns
      exact ⟨rfl, by repeat' (first | (with_reducible exact Below.refl _ _) | (with_reducible assumption) | (with_reducible refine Below.alloc ?_ ?_ _) | (with_reducible refine below_more ?_ ?_ _ _) | (with_reducible refine below_rd ?_ ?_ _ _) | (with_reducible refine Below.drew ?_) | (with_reducible refine Below.setCell ?_ ?_ _) | go_size)⟩
set_option maxRecDepth 100000 in
set_option maxHeartbeats 1000000 in
theorem swingSum_any (z : Z2) (t s n : Int) (h1 : z.1 < 4294967296) (h2 : z.2 < 4294967296) (w : World) :
    Calls Try.prog 22 #[swv z.1 z.2 t s, .int .i64 n] w fun e w' => e = .returned (.tuple #[zv (smV z t s n), .bool (saOk z t s n)]) ∧ Below w.heap.size w w' := by
  rcases Bool.eq_false_or_eq_true (swOk z.1 z.2 t s) with hv | hv
  · rcases Bool.eq_false_or_eq_true (inB n 0 400) with hk | hk
    · obtain ⟨hz, t', s', rfl, rfl, ht, hs⟩ := swOk_get h1 h2 hv
      have hk' := inB_iff.1 hk
      obtain ⟨k', rfl⟩ := Int.eq_ofNat_of_zero_le hk'.1
      have e : saOk z (t' : Int) (s' : Int) (k' : Int) = true := by rw [saOk, hv, hk]; rfl
      rw [e, show smV z (t' : Int) (s' : Int) (k' : Int) = smZ t' s' z k' by rw [smV, if_pos e]; rfl]
      exact swingSum_yes z t' s' k' hz ht hs (by omega) hv w
    · have HO := Lib.hid (show saOk z t s n = false ∧ smV z t s n = (0, 0) from by
        have e : saOk z t s n = false := by rw [saOk, hk, Bool.and_false]
        exact ⟨e, by rw [smV, e]; rfl⟩)
      go_enter Try.func22, Try.ntmps22
      go_wp2_with (first
        | (go_at_call 15; refine (swingValid_any _ _ _ _ _).mono ?_; rintro e w' ⟨rfl, hb⟩; obtain ⟨os, d, rfl⟩ := more_of_below hb; clear hb)
        | (go_at_call 42; refine (within_any _ _ _ _).mono ?_; rintro e w' ⟨rfl, rfl⟩))
      go_returns
      exact ⟨by rw [HO.out.1, HO.out.2]; rfl, by repeat' (first | (with_reducible exact Below.refl _ _) | (with_reducible assumption) | (with_reducible refine Below.alloc ?_ ?_ _) | (with_reducible refine below_more ?_ ?_ _ _) | (with_reducible refine below_rd ?_ ?_ _ _) | (with_reducible refine Below.drew ?_) | (with_reducible refine Below.setCell ?_ ?_ _) | go_size)⟩
  · have HO := Lib.hid (show saOk z t s n = false ∧ smV z t s n = (0, 0) from by
      have e : saOk z t s n = false := by rw [saOk, hv]; rfl
      exact ⟨e, by rw [smV, e]; rfl⟩)
    go_enter Try.func22, Try.ntmps22
    go_wp2_with (go_at_call 15; refine (swingValid_any _ _ _ _ _).mono ?_; rintro e w' ⟨rfl, hb⟩; obtain ⟨os, d, rfl⟩ := more_of_below hb; clear hb)
    go_returns
    exact ⟨by rw [HO.out.1, HO.out.2]; rfl, by repeat' (first | (with_reducible exact Below.refl _ _) | (with_reducible assumption) | (with_reducible refine Below.alloc ?_ ?_ _) | (with_reducible refine below_more ?_ ?_ _ _) | (with_reducible refine below_rd ?_ ?_ _ _) | (with_reducible refine Below.drew ?_) | (with_reducible refine Below.setCell ?_ ?_ _) | go_size)⟩
set_option maxRecDepth 100000 in
set_option maxHeartbeats 1000000 in
theorem specSwingSum_any (z : Z2) (t s n : Int) (h1 : z.1 < 4294967296) (h2 : z.2 < 4294967296) (w : World) :
    Calls Try.prog 23 #[swv z.1 z.2 t s, .int .i64 n] w fun e w' => e = .returned (.tuple #[zv (smV z t s n), .bool (saOk z t s n)]) ∧ Below w.heap.size w w' := by
  rcases Bool.eq_false_or_eq_true (swOk z.1 z.2 t s) with hv | hv
  · rcases Bool.eq_false_or_eq_true (inB n 0 400) with hk | hk
    · obtain ⟨hz, t', s', rfl, rfl, ht, hs⟩ := swOk_get h1 h2 hv
      have hk' := inB_iff.1 hk
      obtain ⟨k', rfl⟩ := Int.eq_ofNat_of_zero_le hk'.1
      have e : saOk z (t' : Int) (s' : Int) (k' : Int) = true := by rw [saOk, hv, hk]; rfl
      rw [e, show smV z (t' : Int) (s' : Int) (k' : Int) = smZ t' s' z k' by rw [smV, if_pos e]; rfl]
      exact specSwingSum_yes z t' s' k' hz ht hs (by omega) hv w
    · have HO := Lib.hid (show saOk z t s n = false ∧ smV z t s n = (0, 0) from by
        have e : saOk z t s n = false := by rw [saOk, hk, Bool.and_false]
        exact ⟨e, by rw [smV, e]; rfl⟩)
      go_enter Try.func23, Try.ntmps23
      go_wp2_with (first
        | (go_at_call 16; refine (specSwingValid_any _ _ _ _ h1 h2 _).mono ?_; rintro e w' ⟨rfl, hb⟩; obtain ⟨os, d, rfl⟩ := more_of_below hb; clear hb)
        | (go_at_call 43; refine (l6In_any _ _ _ _).mono ?_; rintro e w' ⟨rfl, rfl⟩))
      go_returns
      exact ⟨by rw [HO.out.1, HO.out.2]; rfl, by repeat' (first | (with_reducible exact Below.refl _ _) | (with_reducible assumption) | (with_reducible refine Below.alloc ?_ ?_ _) | (with_reducible refine below_more ?_ ?_ _ _) | (with_reducible refine below_rd ?_ ?_ _ _) | (with_reducible refine Below.drew ?_) | (with_reducible refine Below.setCell ?_ ?_ _) | go_size)⟩
  · have HO := Lib.hid (show saOk z t s n = false ∧ smV z t s n = (0, 0) from by
      have e : saOk z t s n = false := by rw [saOk, hv]; rfl
      exact ⟨e, by rw [smV, e]; rfl⟩)
    go_enter Try.func23, Try.ntmps23
    go_wp2_with (go_at_call 16; refine (specSwingValid_any _ _ _ _ h1 h2 _).mono ?_; rintro e w' ⟨rfl, hb⟩; obtain ⟨os, d, rfl⟩ := more_of_below hb; clear hb)
    go_returns
    exact ⟨by rw [HO.out.1, HO.out.2]; rfl, by repeat' (first | (with_reducible exact Below.refl _ _) | (with_reducible assumption) | (with_reducible refine Below.alloc ?_ ?_ _) | (with_reducible refine below_more ?_ ?_ _ _) | (with_reducible refine below_rd ?_ ?_ _ _) | (with_reducible refine Below.drew ?_) | (with_reducible refine Below.setCell ?_ ?_ _) | go_size)⟩
end Go.Proofs.Ythhdmokocddeiaa
