/- Swings: the first number that is 0, that has a small part; the program. -/
import Derived.Test.YthhdmokocddeiaaSwingD
import Derived.Deep.RegionHeld3
namespace Go.Proofs.Ythhdmokocddeiaa
open Go.RowKit

def zeroB (x : Nat) : Bool := FloatKind.f32.format.order x 0 == some .eq
def gtB (x : Nat) : Bool := FloatKind.f32.format.order x 2155872256 == some .gt
def ltB (x : Nat) : Bool := FloatKind.f32.format.order x 8388608 == some .lt
def neB (x : Nat) : Bool := FloatKind.f32.format.order x 0 != some .eq
def tinyB (x : Nat) : Bool := neB x && gtB x && ltB x
def pZero (z : Z2) : Bool := zeroB z.1 && zeroB z.2
def pTiny (z : Z2) : Bool := tinyB z.1 || tinyB z.2
set_option maxRecDepth 100000 in
theorem subnormal_any (x : Nat) (w : World) :
    Calls Try.prog 52 #[.float .f32 x] w fun e w' => e = .returned (.bool (tinyB x)) ∧ w = w' := by
  rcases Bool.eq_false_or_eq_true (FloatKind.f32.format.order x 0 != some .eq) with h1 | h1
  · rcases Bool.eq_false_or_eq_true (FloatKind.f32.format.order x 2155872256 == some .gt) with h2 | h2
    · have HO := Lib.hid (show tinyB x = (FloatKind.f32.format.order x 8388608 == some .lt) by simp [tinyB, neB, gtB, ltB, h1, h2])
      go_enter Try.func52, Try.ntmps52
      go_wp2
      go_ret
      exact ⟨by rw [HO.out]; rfl, rfl⟩
    · have HO := Lib.hid (show tinyB x = false by simp [tinyB, gtB, h2])
      go_enter Try.func52, Try.ntmps52
      go_wp2
      go_ret
      exact ⟨by rw [HO.out]; rfl, rfl⟩
  · have HO := Lib.hid (show tinyB x = false by simp [tinyB, neB, h1])
    go_enter Try.func52, Try.ntmps52
    go_wp2
    go_ret
    exact ⟨by rw [HO.out]; rfl, rfl⟩
set_option maxRecDepth 100000 in
theorem l11Tiny_any (x : Nat) (w : World) :
    Calls Try.prog 59 #[.float .f32 x] w fun e w' => e = .returned (.bool (tinyB x)) ∧ w = w' := by
  rcases Bool.eq_false_or_eq_true (FloatKind.f32.format.order x 0 != some .eq) with h1 | h1
  · rcases Bool.eq_false_or_eq_true (FloatKind.f32.format.order x 2155872256 == some .gt) with h2 | h2
    · have HO := Lib.hid (show tinyB x = (FloatKind.f32.format.order x 8388608 == some .lt) by simp [tinyB, neB, gtB, ltB, h1, h2])
      go_enter Try.func59, Try.ntmps59
      go_wp2
      go_ret
      exact ⟨by rw [HO.out]; rfl, rfl⟩
    · have HO := Lib.hid (show tinyB x = false by simp [tinyB, gtB, h2])
      go_enter Try.func59, Try.ntmps59
      go_wp2
      go_ret
      exact ⟨by rw [HO.out]; rfl, rfl⟩
  · have HO := Lib.hid (show tinyB x = false by simp [tinyB, neB, h1])
    go_enter Try.func59, Try.ntmps59
    go_wp2
    go_ret
    exact ⟨by rw [HO.out]; rfl, rfl⟩

set_option maxRecDepth 100000 in
theorem isZero_any (z : Z2) (w : World) :
    Calls Try.prog 49 #[zv z] w fun e w' => e = .returned (.bool (pZero z)) ∧ w = w' := by
  go_enter Try.func49, Try.ntmps49
  go_wp2
  go_ret
  exact ⟨rfl, rfl⟩
set_option maxRecDepth 100000 in
theorem isTiny_any (z : Z2) (w : World) :
    Calls Try.prog 51 #[zv z] w fun e w' => e = .returned (.bool (pTiny z)) ∧ w = w' := by
  rcases Bool.eq_false_or_eq_true (tinyB z.1) with h1 | h1
  · have HO := Lib.hid (show pTiny z = true by simp [pTiny, h1])
    go_enter Try.func51, Try.ntmps51
    go_wp2_with (go_at_call 52; refine (subnormal_any _ _).mono ?_; rintro e w' ⟨rfl, rfl⟩)
    go_ret
    exact ⟨by rw [HO.out]; rfl, rfl⟩
  · have HO := Lib.hid (show pTiny z = tinyB z.2 by simp [pTiny, h1])
    go_enter Try.func51, Try.ntmps51
    go_wp2_with (go_at_call 52; refine (subnormal_any _ _).mono ?_; rintro e w' ⟨rfl, rfl⟩)
    go_ret
    exact ⟨by rw [HO.out]; rfl, rfl⟩

/-- The first place at which P holds, of m from k on. -/
def fsF (P : Nat → Bool) : Nat → Nat → Int
  | 0, _ => -1
  | m + 1, k => if P k = true then (k : Int) else fsF P m (k + 1)
theorem fsF_yes {P : Nat → Bool} {m k : Nat} (h : P k = true) : fsF P (m + 1) k = k := by rw [fsF, if_pos h]
theorem fsF_no {P : Nat → Bool} {m k : Nat} (h : P k = false) : fsF P (m + 1) k = fsF P m (k + 1) := by rw [fsF, if_neg (by rw [h]; simp)]
set_option maxRecDepth 100000 in
set_option maxHeartbeats 1000000 in
theorem firstZero_any (z : Z2) (t s : Nat) (hz : FinZ z) (ht : t ≤ 3) (hs : s ≤ 4) (w : World) :
    Calls Try.prog 48 #[swv z.1 z.2 t s, .func (.func 49) #[] #[]] w fun e w' => e = .returned (.int .i64 (fsF (fun k => pZero (nmZ t s z k)) 401 0)) ∧ Below w.heap.size w w' := by
  have HZ := Lib.hid hz
  clear hz
  go_enter Try.func48, Try.ntmps48
  go_wp2_with (first
    | (go_at_call 44; refine (numbers_any t s z HZ.out ht hs 401 (by omega) _).mono ?_; rintro e w2 ⟨g, cap, rfl, hcell, -, hb⟩; have HB := Lib.hid hb; clear hb; rw [nmL_len] at hcell ⊢; have HC := Lib.hid hcell; clear hcell))
  go_loop [10] (fun i => ∃ k : Nat, k ≤ 401 ∧ i = .int .i64 k ∧ Hid (fsF (fun k => pZero (nmZ t s z k)) 401 0 = fsF (fun k => pZero (nmZ t s z k)) (401 - k) k)) (fun i => 401 - (intOf i).toNat)
  case atStart => exact ⟨0, by omega, rfl, rfl⟩
  case round =>
    obtain ⟨k, hk, rfl, hF⟩ := hrel
    by_cases hlt : k < 401
    · have ck := HC.out k hlt
      rw [show (nmL t s z 401)[k]? = some (zv (nmZ t s z k)) by simp [nmL, hlt]] at ck
      have hm : 401 - k = (401 - (k + 1)) + 1 := by omega
      rcases Bool.eq_false_or_eq_true (pZero (nmZ t s z k)) with hp | hp
      · have HF := Lib.hid (hF.out.trans ((congrArg (fun m => fsF (fun k => pZero (nmZ t s z k)) m k) hm).trans (fsF_yes hp)))
        clear hF
        go_wp2_with (go_at_call 49; refine (isZero_any _ _).mono ?_; rintro e w' ⟨rfl, rfl⟩)
        go_returns
        exact ⟨by rw [HF.out]; rfl, ((Below.refl w.heap.size w).alloc (Nat.le_refl _) _).trans (HB.out.mono (by (first | omega | (simp; omega) | (simp; done))))⟩
      · have HF := Lib.hid (hF.out.trans ((congrArg (fun m => fsF (fun k => pZero (nmZ t s z k)) m k) hm).trans (fsF_no hp)))
        clear hF
        go_wp2_with (go_at_call 49; refine (isZero_any _ _).mono ?_; rintro e w' ⟨rfl, rfl⟩)
        go_round
        case rel => exact ⟨k + 1, by omega, by go_num, HF⟩
        case measure => simp [intOf]; omega
    · obtain rfl : k = 401 := by omega
      have HF := Lib.hid (show fsF (fun k => pZero (nmZ t s z k)) 401 0 = -1 from hF.out)
      clear hF
      go_wp2
      go_returns
      exact ⟨by rw [HF.out]; rfl, ((Below.refl w.heap.size w).alloc (Nat.le_refl _) _).trans (HB.out.mono (by (first | omega | (simp; omega) | (simp; done))))⟩
set_option maxRecDepth 100000 in
set_option maxHeartbeats 1000000 in
theorem firstTiny_any (z : Z2) (t s : Nat) (hz : FinZ z) (ht : t ≤ 3) (hs : s ≤ 4) (w : World) :
    Calls Try.prog 48 #[swv z.1 z.2 t s, .func (.func 51) #[] #[]] w fun e w' => e = .returned (.int .i64 (fsF (fun k => pTiny (nmZ t s z k)) 401 0)) ∧ Below w.heap.size w w' := by
  have HZ := Lib.hid hz
  clear hz
  go_enter Try.func48, Try.ntmps48
  go_wp2_with (first
    | (go_at_call 44; refine (numbers_any t s z HZ.out ht hs 401 (by omega) _).mono ?_; rintro e w2 ⟨g, cap, rfl, hcell, -, hb⟩; have HB := Lib.hid hb; clear hb; rw [nmL_len] at hcell ⊢; have HC := Lib.hid hcell; clear hcell))
  go_loop [10] (fun i => ∃ k : Nat, k ≤ 401 ∧ i = .int .i64 k ∧ Hid (fsF (fun k => pTiny (nmZ t s z k)) 401 0 = fsF (fun k => pTiny (nmZ t s z k)) (401 - k) k)) (fun i => 401 - (intOf i).toNat)
  case atStart => exact ⟨0, by omega, rfl, rfl⟩
  case round =>
    obtain ⟨k, hk, rfl, hF⟩ := hrel
    by_cases hlt : k < 401
    · have ck := HC.out k hlt
      rw [show (nmL t s z 401)[k]? = some (zv (nmZ t s z k)) by simp [nmL, hlt]] at ck
      have hm : 401 - k = (401 - (k + 1)) + 1 := by omega
      rcases Bool.eq_false_or_eq_true (pTiny (nmZ t s z k)) with hp | hp
      · have HF := Lib.hid (hF.out.trans ((congrArg (fun m => fsF (fun k => pTiny (nmZ t s z k)) m k) hm).trans (fsF_yes hp)))
        clear hF
        go_wp2_with (go_at_call 51; refine (isTiny_any _ _).mono ?_; rintro e w' ⟨rfl, rfl⟩)
        go_returns
        exact ⟨by rw [HF.out]; rfl, ((Below.refl w.heap.size w).alloc (Nat.le_refl _) _).trans (HB.out.mono (by (first | omega | (simp; omega) | (simp; done))))⟩
      · have HF := Lib.hid (hF.out.trans ((congrArg (fun m => fsF (fun k => pTiny (nmZ t s z k)) m k) hm).trans (fsF_no hp)))
        clear hF
        go_wp2_with (go_at_call 51; refine (isTiny_any _ _).mono ?_; rintro e w' ⟨rfl, rfl⟩)
        go_round
        case rel => exact ⟨k + 1, by omega, by go_num, HF⟩
        case measure => simp [intOf]; omega
    · obtain rfl : k = 401 := by omega
      have HF := Lib.hid (show fsF (fun k => pTiny (nmZ t s z k)) 401 0 = -1 from hF.out)
      clear hF
      go_wp2
      go_returns
      exact ⟨by rw [HF.out]; rfl, ((Below.refl w.heap.size w).alloc (Nat.le_refl _) _).trans (HB.out.mono (by (first | omega | (simp; omega) | (simp; done))))⟩

end Go.Proofs.Ythhdmokocddeiaa
